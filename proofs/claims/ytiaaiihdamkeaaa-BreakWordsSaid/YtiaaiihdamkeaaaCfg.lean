import Derived.Test.YtiaaiihdamkeaaaEng
import Derived.Test.YtiaaiihdamkeaaaProg
namespace Go.Proofs.Ytiaaiihdamkeaaa
open Go Go.Eng

def tt : TT := [
  ⟨.other, 0, 0, []⟩,
  ⟨.fn, 1, 8, [.nilFunc]⟩,
  ⟨.int .i64, 1, 8, [.int .i64 0]⟩,
  ⟨.int .i64, 1, 8, [.int .i64 0]⟩,
  ⟨.bool, 1, 1, [.bool false]⟩,
  ⟨.int .u8, 1, 1, [.int .u8 0]⟩,
  ⟨.int .u8, 1, 1, [.int .u8 0]⟩,
  ⟨.st [(0, 2), (1, 3), (2, 4), (3, 6)], 4, 24, [.int .i64 0, .int .i64 0, .bool false, .int .u8 0]⟩,
  ⟨.st [(0, 2), (1, 3), (2, 4), (3, 6)], 4, 24, [.int .i64 0, .int .i64 0, .bool false, .int .u8 0]⟩,
  ⟨.str, 1, 16, [.string ⟨#[]⟩]⟩,
  ⟨.str, 1, 16, [.string ⟨#[]⟩]⟩,
  ⟨.str, 1, 16, [.string ⟨#[]⟩]⟩,
  ⟨.int .u64, 1, 8, [.int .u64 0]⟩,
  ⟨.st [(0, 9), (1, 12)], 2, 24, [.string ⟨#[]⟩, .int .u64 0]⟩,
  ⟨.st [(0, 9), (1, 12)], 2, 24, [.string ⟨#[]⟩, .int .u64 0]⟩,
  ⟨.ptr, 1, 8, [.pointer none]⟩,
  ⟨.ptr, 1, 8, [.pointer none]⟩,
  ⟨.ptr, 1, 8, [.pointer none]⟩,
  ⟨.st [(0, 17)], 1, 8, [.pointer none]⟩,
  ⟨.st [(0, 17)], 1, 8, [.pointer none]⟩,
  ⟨.other, 0, 0, []⟩,
  ⟨.int .i32, 1, 4, [.int .i32 0]⟩,
  ⟨.sl 4, 1, 24, [.slice none 0 0]⟩,
  ⟨.sl 37, 1, 24, [.slice none 0 0]⟩,
  ⟨.sl 2, 1, 24, [.slice none 0 0]⟩,
  ⟨.fn, 1, 8, [.nilFunc]⟩,
  ⟨.sl 3, 1, 24, [.slice none 0 0]⟩,
  ⟨.int .i64, 1, 8, [.int .i64 0]⟩,
  ⟨.other, 0, 0, []⟩,
  ⟨.fn, 1, 8, [.nilFunc]⟩,
  ⟨.other, 0, 0, []⟩,
  ⟨.fn, 1, 8, [.nilFunc]⟩,
  ⟨.fn, 1, 8, [.nilFunc]⟩,
  ⟨.fn, 1, 8, [.nilFunc]⟩,
  ⟨.fn, 1, 8, [.nilFunc]⟩,
  ⟨.fn, 1, 8, [.nilFunc]⟩,
  ⟨.st [(0, 2), (1, 2), (2, 2)], 3, 24, [.int .i64 0, .int .i64 0, .int .i64 0]⟩,
  ⟨.st [(0, 2), (1, 2), (2, 2)], 3, 24, [.int .i64 0, .int .i64 0, .int .i64 0]⟩,
  ⟨.fn, 1, 8, [.nilFunc]⟩,
  ⟨.fn, 1, 8, [.nilFunc]⟩,
  ⟨.fn, 1, 8, [.nilFunc]⟩,
  ⟨.ptr, 1, 8, [.pointer none]⟩,
  ⟨.other, 0, 0, []⟩,
  ⟨.fn, 1, 8, [.nilFunc]⟩,
  ⟨.map, 1, 8, [.map none]⟩,
  ⟨.fn, 1, 8, [.nilFunc]⟩,
  ⟨.st [(0, 3), (1, 2)], 2, 16, [.int .i64 0, .int .i64 0]⟩,
  ⟨.st [(0, 3), (1, 2)], 2, 16, [.int .i64 0, .int .i64 0]⟩,
  ⟨.st [(0, 3), (1, 22), (2, 23), (3, 24)], 4, 80, [.int .i64 0, .slice none 0 0, .slice none 0 0, .slice none 0 0]⟩,
  ⟨.st [(0, 3), (1, 22), (2, 23), (3, 24)], 4, 80, [.int .i64 0, .slice none 0 0, .slice none 0 0, .slice none 0 0]⟩,
  ⟨.arr 2 3, 2, 16, [.int .i64 0, .int .i64 0]⟩,
  ⟨.other, 0, 0, []⟩,
  ⟨.fn, 1, 8, [.nilFunc]⟩,
  ⟨.fn, 1, 8, [.nilFunc]⟩,
  ⟨.fn, 1, 8, [.nilFunc]⟩,
  ⟨.fn, 1, 8, [.nilFunc]⟩,
  ⟨.fn, 1, 8, [.nilFunc]⟩,
  ⟨.fn, 1, 8, [.nilFunc]⟩,
  ⟨.fn, 1, 8, [.nilFunc]⟩,
  ⟨.fn, 1, 8, [.nilFunc]⟩,
  ⟨.other, 0, 0, []⟩,
  ⟨.fn, 1, 8, [.nilFunc]⟩,
  ⟨.fn, 1, 8, [.nilFunc]⟩,
  ⟨.st [(0, 2), (1, 2), (2, 2), (3, 2)], 4, 32, [.int .i64 0, .int .i64 0, .int .i64 0, .int .i64 0]⟩,
  ⟨.st [(0, 2), (1, 2), (2, 2), (3, 2)], 4, 32, [.int .i64 0, .int .i64 0, .int .i64 0, .int .i64 0]⟩,
  ⟨.fn, 1, 8, [.nilFunc]⟩,
  ⟨.fn, 1, 8, [.nilFunc]⟩,
  ⟨.fn, 1, 8, [.nilFunc]⟩,
  ⟨.int .u64, 1, 8, [.int .u64 0]⟩,
  ⟨.fn, 1, 8, [.nilFunc]⟩,
  ⟨.int .u64, 1, 8, [.int .u64 0]⟩,
  ⟨.fn, 1, 8, [.nilFunc]⟩,
  ⟨.fn, 1, 8, [.nilFunc]⟩,
  ⟨.ptr, 1, 8, [.pointer none]⟩,
  ⟨.ptr, 1, 8, [.pointer none]⟩,
  ⟨.arr 2 70, 2, 16, [.int .u64 0, .int .u64 0]⟩,
  ⟨.arr 2 70, 2, 16, [.int .u64 0, .int .u64 0]⟩,
  ⟨.other, 0, 0, []⟩,
  ⟨.fn, 1, 8, [.nilFunc]⟩,
  ⟨.fn, 1, 8, [.nilFunc]⟩,
  ⟨.fn, 1, 8, [.nilFunc]⟩,
  ⟨.fn, 1, 8, [.nilFunc]⟩,
  ⟨.fn, 1, 8, [.nilFunc]⟩,
  ⟨.other, 0, 0, []⟩,
  ⟨.other, 0, 0, []⟩,
  ⟨.fn, 1, 8, [.nilFunc]⟩,
  ⟨.ptr, 1, 8, [.pointer none]⟩,
  ⟨.fn, 1, 8, [.nilFunc]⟩,
  ⟨.st [(0, 17), (1, 17), (2, 17), (3, 9)], 4, 40, [.pointer none, .pointer none, .pointer none, .string ⟨#[]⟩]⟩,
  ⟨.st [(0, 17), (1, 17), (2, 17), (3, 9)], 4, 40, [.pointer none, .pointer none, .pointer none, .string ⟨#[]⟩]⟩,
  ⟨.arr 0 16, 0, 0, []⟩,
  ⟨.st [(0, 90)], 0, 0, []⟩,
  ⟨.st [(0, 90)], 0, 0, []⟩,
  ⟨.fn, 1, 8, [.nilFunc]⟩,
  ⟨.int .u32, 1, 4, [.int .u32 0]⟩,
  ⟨.int .u8, 1, 1, [.int .u8 0]⟩,
  ⟨.int .u8, 1, 1, [.int .u8 0]⟩,
  ⟨.fn, 1, 8, [.nilFunc]⟩,
  ⟨.ptr, 1, 8, [.pointer none]⟩,
  ⟨.int .i32, 1, 4, [.int .i32 0]⟩,
  ⟨.int .i32, 1, 4, [.int .i32 0]⟩,
  ⟨.st [(0, 12), (1, 12), (2, 94), (3, 95), (4, 5), (5, 5), (6, 96), (7, 97), (8, 98), (9, 99), (10, 100)], 11, 48, [.int .u64 0, .int .u64 0, .int .u32 0, .int .u8 0, .int .u8 0, .int .u8 0, .int .u8 0, .nilFunc, .pointer none, .int .i32 0, .int .i32 0]⟩,
  ⟨.st [(0, 12), (1, 12), (2, 94), (3, 95), (4, 5), (5, 5), (6, 96), (7, 97), (8, 98), (9, 99), (10, 100)], 11, 48, [.int .u64 0, .int .u64 0, .int .u32 0, .int .u8 0, .int .u8 0, .int .u8 0, .int .u8 0, .nilFunc, .pointer none, .int .i32 0, .int .i32 0]⟩,
  ⟨.st [(0, 9)], 1, 16, [.string ⟨#[]⟩]⟩,
  ⟨.st [(0, 9)], 1, 16, [.string ⟨#[]⟩]⟩,
  ⟨.other, 0, 0, []⟩]

theorem ty0 : tyOk Try.prog 0 (⟨.other, 0, 0, []⟩) := rfl
theorem ty1 : tyOk Try.prog 1 (⟨.fn, 1, 8, [.nilFunc]⟩) := ⟨⟨Try.t1, _, by kernel_rfl, rfl, rfl, rfl, rfl⟩, ⟨_, _, _, Try.underlying1⟩⟩
theorem ty2 : tyOk Try.prog 2 (⟨.int .i64, 1, 8, [.int .i64 0]⟩) := ⟨⟨Try.t2, _, by kernel_rfl, rfl, rfl, rfl, rfl⟩, Try.underlying2⟩
theorem ty3 : tyOk Try.prog 3 (⟨.int .i64, 1, 8, [.int .i64 0]⟩) := ⟨⟨Try.t3, _, by kernel_rfl, rfl, rfl, rfl, rfl⟩, Try.underlying3⟩
theorem ty4 : tyOk Try.prog 4 (⟨.bool, 1, 1, [.bool false]⟩) := ⟨⟨Try.t4, _, by kernel_rfl, rfl, rfl, rfl, rfl⟩, Try.underlying4⟩
theorem ty5 : tyOk Try.prog 5 (⟨.int .u8, 1, 1, [.int .u8 0]⟩) := ⟨⟨Try.t5, _, by kernel_rfl, rfl, rfl, rfl, rfl⟩, Try.underlying5⟩
theorem ty6 : tyOk Try.prog 6 (⟨.int .u8, 1, 1, [.int .u8 0]⟩) := ⟨⟨Try.t6, _, by kernel_rfl, rfl, rfl, rfl, rfl⟩, Try.underlying6⟩
theorem ty7 : tyOk Try.prog 7 (⟨.st [(0, 2), (1, 3), (2, 4), (3, 6)], 4, 24, [.int .i64 0, .int .i64 0, .bool false, .int .u8 0]⟩) := ⟨⟨Try.t7, _, by kernel_rfl, rfl, rfl, rfl, rfl⟩, ⟨_, [(0, 1), (1, 1), (2, 1), (3, 1)], Try.underlying7, by kernel_rfl, by kernel_rfl⟩⟩
theorem ty8 : tyOk Try.prog 8 (⟨.st [(0, 2), (1, 3), (2, 4), (3, 6)], 4, 24, [.int .i64 0, .int .i64 0, .bool false, .int .u8 0]⟩) := ⟨⟨Try.t8, _, by kernel_rfl, rfl, rfl, rfl, rfl⟩, ⟨_, [(0, 1), (1, 1), (2, 1), (3, 1)], Try.underlying8, by kernel_rfl, by kernel_rfl⟩⟩
theorem ty9 : tyOk Try.prog 9 (⟨.str, 1, 16, [.string ⟨#[]⟩]⟩) := ⟨⟨Try.t9, _, by kernel_rfl, rfl, rfl, rfl, rfl⟩, Try.underlying9⟩
theorem ty10 : tyOk Try.prog 10 (⟨.str, 1, 16, [.string ⟨#[]⟩]⟩) := ⟨⟨Try.t10, _, by kernel_rfl, rfl, rfl, rfl, rfl⟩, Try.underlying10⟩
theorem ty11 : tyOk Try.prog 11 (⟨.str, 1, 16, [.string ⟨#[]⟩]⟩) := ⟨⟨Try.t11, _, by kernel_rfl, rfl, rfl, rfl, rfl⟩, Try.underlying11⟩
theorem ty12 : tyOk Try.prog 12 (⟨.int .u64, 1, 8, [.int .u64 0]⟩) := ⟨⟨Try.t12, _, by kernel_rfl, rfl, rfl, rfl, rfl⟩, Try.underlying12⟩
theorem ty13 : tyOk Try.prog 13 (⟨.st [(0, 9), (1, 12)], 2, 24, [.string ⟨#[]⟩, .int .u64 0]⟩) := ⟨⟨Try.t13, _, by kernel_rfl, rfl, rfl, rfl, rfl⟩, ⟨_, [(0, 1), (1, 1)], Try.underlying13, by kernel_rfl, by kernel_rfl⟩⟩
theorem ty14 : tyOk Try.prog 14 (⟨.st [(0, 9), (1, 12)], 2, 24, [.string ⟨#[]⟩, .int .u64 0]⟩) := ⟨⟨Try.t14, _, by kernel_rfl, rfl, rfl, rfl, rfl⟩, ⟨_, [(0, 1), (1, 1)], Try.underlying14, by kernel_rfl, by kernel_rfl⟩⟩
theorem ty15 : tyOk Try.prog 15 (⟨.ptr, 1, 8, [.pointer none]⟩) := ⟨⟨Try.t15, _, by kernel_rfl, rfl, rfl, rfl, rfl⟩, ⟨_, Try.underlying15⟩⟩
theorem ty16 : tyOk Try.prog 16 (⟨.ptr, 1, 8, [.pointer none]⟩) := ⟨⟨Try.t16, _, by kernel_rfl, rfl, rfl, rfl, rfl⟩, ⟨_, Try.underlying16⟩⟩
theorem ty17 : tyOk Try.prog 17 (⟨.ptr, 1, 8, [.pointer none]⟩) := ⟨⟨Try.t17, _, by kernel_rfl, rfl, rfl, rfl, rfl⟩, ⟨_, Try.underlying17⟩⟩
theorem ty18 : tyOk Try.prog 18 (⟨.st [(0, 17)], 1, 8, [.pointer none]⟩) := ⟨⟨Try.t18, _, by kernel_rfl, rfl, rfl, rfl, rfl⟩, ⟨_, [(0, 1)], Try.underlying18, by kernel_rfl, by kernel_rfl⟩⟩
theorem ty19 : tyOk Try.prog 19 (⟨.st [(0, 17)], 1, 8, [.pointer none]⟩) := ⟨⟨Try.t19, _, by kernel_rfl, rfl, rfl, rfl, rfl⟩, ⟨_, [(0, 1)], Try.underlying19, by kernel_rfl, by kernel_rfl⟩⟩
theorem ty20 : tyOk Try.prog 20 (⟨.other, 0, 0, []⟩) := rfl
theorem ty21 : tyOk Try.prog 21 (⟨.int .i32, 1, 4, [.int .i32 0]⟩) := ⟨⟨Try.t21, _, by kernel_rfl, rfl, rfl, rfl, rfl⟩, Try.underlying21⟩
theorem ty22 : tyOk Try.prog 22 (⟨.sl 4, 1, 24, [.slice none 0 0]⟩) := ⟨⟨Try.t22, _, by kernel_rfl, rfl, rfl, rfl, rfl⟩, Try.underlying22⟩
theorem ty23 : tyOk Try.prog 23 (⟨.sl 37, 1, 24, [.slice none 0 0]⟩) := ⟨⟨Try.t23, _, by kernel_rfl, rfl, rfl, rfl, rfl⟩, Try.underlying23⟩
theorem ty24 : tyOk Try.prog 24 (⟨.sl 2, 1, 24, [.slice none 0 0]⟩) := ⟨⟨Try.t24, _, by kernel_rfl, rfl, rfl, rfl, rfl⟩, Try.underlying24⟩
theorem ty25 : tyOk Try.prog 25 (⟨.fn, 1, 8, [.nilFunc]⟩) := ⟨⟨Try.t25, _, by kernel_rfl, rfl, rfl, rfl, rfl⟩, ⟨_, _, _, Try.underlying25⟩⟩
theorem ty26 : tyOk Try.prog 26 (⟨.sl 3, 1, 24, [.slice none 0 0]⟩) := ⟨⟨Try.t26, _, by kernel_rfl, rfl, rfl, rfl, rfl⟩, Try.underlying26⟩
theorem ty27 : tyOk Try.prog 27 (⟨.int .i64, 1, 8, [.int .i64 0]⟩) := ⟨⟨Try.t27, _, by kernel_rfl, rfl, rfl, rfl, rfl⟩, Try.underlying27⟩
theorem ty28 : tyOk Try.prog 28 (⟨.other, 0, 0, []⟩) := rfl
theorem ty29 : tyOk Try.prog 29 (⟨.fn, 1, 8, [.nilFunc]⟩) := ⟨⟨Try.t29, _, by kernel_rfl, rfl, rfl, rfl, rfl⟩, ⟨_, _, _, Try.underlying29⟩⟩
theorem ty30 : tyOk Try.prog 30 (⟨.other, 0, 0, []⟩) := rfl
theorem ty31 : tyOk Try.prog 31 (⟨.fn, 1, 8, [.nilFunc]⟩) := ⟨⟨Try.t31, _, by kernel_rfl, rfl, rfl, rfl, rfl⟩, ⟨_, _, _, Try.underlying31⟩⟩
theorem ty32 : tyOk Try.prog 32 (⟨.fn, 1, 8, [.nilFunc]⟩) := ⟨⟨Try.t32, _, by kernel_rfl, rfl, rfl, rfl, rfl⟩, ⟨_, _, _, Try.underlying32⟩⟩
theorem ty33 : tyOk Try.prog 33 (⟨.fn, 1, 8, [.nilFunc]⟩) := ⟨⟨Try.t33, _, by kernel_rfl, rfl, rfl, rfl, rfl⟩, ⟨_, _, _, Try.underlying33⟩⟩
theorem ty34 : tyOk Try.prog 34 (⟨.fn, 1, 8, [.nilFunc]⟩) := ⟨⟨Try.t34, _, by kernel_rfl, rfl, rfl, rfl, rfl⟩, ⟨_, _, _, Try.underlying34⟩⟩
theorem ty35 : tyOk Try.prog 35 (⟨.fn, 1, 8, [.nilFunc]⟩) := ⟨⟨Try.t35, _, by kernel_rfl, rfl, rfl, rfl, rfl⟩, ⟨_, _, _, Try.underlying35⟩⟩
theorem ty36 : tyOk Try.prog 36 (⟨.st [(0, 2), (1, 2), (2, 2)], 3, 24, [.int .i64 0, .int .i64 0, .int .i64 0]⟩) := ⟨⟨Try.t36, _, by kernel_rfl, rfl, rfl, rfl, rfl⟩, ⟨_, [(0, 1), (1, 1), (2, 1)], Try.underlying36, by kernel_rfl, by kernel_rfl⟩⟩
theorem ty37 : tyOk Try.prog 37 (⟨.st [(0, 2), (1, 2), (2, 2)], 3, 24, [.int .i64 0, .int .i64 0, .int .i64 0]⟩) := ⟨⟨Try.t37, _, by kernel_rfl, rfl, rfl, rfl, rfl⟩, ⟨_, [(0, 1), (1, 1), (2, 1)], Try.underlying37, by kernel_rfl, by kernel_rfl⟩⟩
theorem ty38 : tyOk Try.prog 38 (⟨.fn, 1, 8, [.nilFunc]⟩) := ⟨⟨Try.t38, _, by kernel_rfl, rfl, rfl, rfl, rfl⟩, ⟨_, _, _, Try.underlying38⟩⟩
theorem ty39 : tyOk Try.prog 39 (⟨.fn, 1, 8, [.nilFunc]⟩) := ⟨⟨Try.t39, _, by kernel_rfl, rfl, rfl, rfl, rfl⟩, ⟨_, _, _, Try.underlying39⟩⟩
theorem ty40 : tyOk Try.prog 40 (⟨.fn, 1, 8, [.nilFunc]⟩) := ⟨⟨Try.t40, _, by kernel_rfl, rfl, rfl, rfl, rfl⟩, ⟨_, _, _, Try.underlying40⟩⟩
theorem ty41 : tyOk Try.prog 41 (⟨.ptr, 1, 8, [.pointer none]⟩) := ⟨⟨Try.t41, _, by kernel_rfl, rfl, rfl, rfl, rfl⟩, ⟨_, Try.underlying41⟩⟩
theorem ty42 : tyOk Try.prog 42 (⟨.other, 0, 0, []⟩) := rfl
theorem ty43 : tyOk Try.prog 43 (⟨.fn, 1, 8, [.nilFunc]⟩) := ⟨⟨Try.t43, _, by kernel_rfl, rfl, rfl, rfl, rfl⟩, ⟨_, _, _, Try.underlying43⟩⟩
theorem ty44 : tyOk Try.prog 44 (⟨.map, 1, 8, [.map none]⟩) := ⟨⟨Try.t44, _, by kernel_rfl, rfl, rfl, rfl, rfl⟩, ⟨_, _, Try.underlying44⟩⟩
theorem ty45 : tyOk Try.prog 45 (⟨.fn, 1, 8, [.nilFunc]⟩) := ⟨⟨Try.t45, _, by kernel_rfl, rfl, rfl, rfl, rfl⟩, ⟨_, _, _, Try.underlying45⟩⟩
theorem ty46 : tyOk Try.prog 46 (⟨.st [(0, 3), (1, 2)], 2, 16, [.int .i64 0, .int .i64 0]⟩) := ⟨⟨Try.t46, _, by kernel_rfl, rfl, rfl, rfl, rfl⟩, ⟨_, [(0, 1), (1, 1)], Try.underlying46, by kernel_rfl, by kernel_rfl⟩⟩
theorem ty47 : tyOk Try.prog 47 (⟨.st [(0, 3), (1, 2)], 2, 16, [.int .i64 0, .int .i64 0]⟩) := ⟨⟨Try.t47, _, by kernel_rfl, rfl, rfl, rfl, rfl⟩, ⟨_, [(0, 1), (1, 1)], Try.underlying47, by kernel_rfl, by kernel_rfl⟩⟩
theorem ty48 : tyOk Try.prog 48 (⟨.st [(0, 3), (1, 22), (2, 23), (3, 24)], 4, 80, [.int .i64 0, .slice none 0 0, .slice none 0 0, .slice none 0 0]⟩) := ⟨⟨Try.t48, _, by kernel_rfl, rfl, rfl, rfl, rfl⟩, ⟨_, [(0, 1), (1, 1), (2, 1), (3, 1)], Try.underlying48, by kernel_rfl, by kernel_rfl⟩⟩
theorem ty49 : tyOk Try.prog 49 (⟨.st [(0, 3), (1, 22), (2, 23), (3, 24)], 4, 80, [.int .i64 0, .slice none 0 0, .slice none 0 0, .slice none 0 0]⟩) := ⟨⟨Try.t49, _, by kernel_rfl, rfl, rfl, rfl, rfl⟩, ⟨_, [(0, 1), (1, 1), (2, 1), (3, 1)], Try.underlying49, by kernel_rfl, by kernel_rfl⟩⟩
theorem ty50 : tyOk Try.prog 50 (⟨.arr 2 3, 2, 16, [.int .i64 0, .int .i64 0]⟩) := ⟨⟨Try.t50, _, by kernel_rfl, rfl, rfl, rfl, rfl⟩, Try.underlying50⟩
theorem ty51 : tyOk Try.prog 51 (⟨.other, 0, 0, []⟩) := rfl
theorem ty52 : tyOk Try.prog 52 (⟨.fn, 1, 8, [.nilFunc]⟩) := ⟨⟨Try.t52, _, by kernel_rfl, rfl, rfl, rfl, rfl⟩, ⟨_, _, _, Try.underlying52⟩⟩
theorem ty53 : tyOk Try.prog 53 (⟨.fn, 1, 8, [.nilFunc]⟩) := ⟨⟨Try.t53, _, by kernel_rfl, rfl, rfl, rfl, rfl⟩, ⟨_, _, _, Try.underlying53⟩⟩
theorem ty54 : tyOk Try.prog 54 (⟨.fn, 1, 8, [.nilFunc]⟩) := ⟨⟨Try.t54, _, by kernel_rfl, rfl, rfl, rfl, rfl⟩, ⟨_, _, _, Try.underlying54⟩⟩
theorem ty55 : tyOk Try.prog 55 (⟨.fn, 1, 8, [.nilFunc]⟩) := ⟨⟨Try.t55, _, by kernel_rfl, rfl, rfl, rfl, rfl⟩, ⟨_, _, _, Try.underlying55⟩⟩
theorem ty56 : tyOk Try.prog 56 (⟨.fn, 1, 8, [.nilFunc]⟩) := ⟨⟨Try.t56, _, by kernel_rfl, rfl, rfl, rfl, rfl⟩, ⟨_, _, _, Try.underlying56⟩⟩
theorem ty57 : tyOk Try.prog 57 (⟨.fn, 1, 8, [.nilFunc]⟩) := ⟨⟨Try.t57, _, by kernel_rfl, rfl, rfl, rfl, rfl⟩, ⟨_, _, _, Try.underlying57⟩⟩
theorem ty58 : tyOk Try.prog 58 (⟨.fn, 1, 8, [.nilFunc]⟩) := ⟨⟨Try.t58, _, by kernel_rfl, rfl, rfl, rfl, rfl⟩, ⟨_, _, _, Try.underlying58⟩⟩
theorem ty59 : tyOk Try.prog 59 (⟨.fn, 1, 8, [.nilFunc]⟩) := ⟨⟨Try.t59, _, by kernel_rfl, rfl, rfl, rfl, rfl⟩, ⟨_, _, _, Try.underlying59⟩⟩
theorem ty60 : tyOk Try.prog 60 (⟨.other, 0, 0, []⟩) := rfl
theorem ty61 : tyOk Try.prog 61 (⟨.fn, 1, 8, [.nilFunc]⟩) := ⟨⟨Try.t61, _, by kernel_rfl, rfl, rfl, rfl, rfl⟩, ⟨_, _, _, Try.underlying61⟩⟩
theorem ty62 : tyOk Try.prog 62 (⟨.fn, 1, 8, [.nilFunc]⟩) := ⟨⟨Try.t62, _, by kernel_rfl, rfl, rfl, rfl, rfl⟩, ⟨_, _, _, Try.underlying62⟩⟩
theorem ty63 : tyOk Try.prog 63 (⟨.st [(0, 2), (1, 2), (2, 2), (3, 2)], 4, 32, [.int .i64 0, .int .i64 0, .int .i64 0, .int .i64 0]⟩) := ⟨⟨Try.t63, _, by kernel_rfl, rfl, rfl, rfl, rfl⟩, ⟨_, [(0, 1), (1, 1), (2, 1), (3, 1)], Try.underlying63, by kernel_rfl, by kernel_rfl⟩⟩
theorem ty64 : tyOk Try.prog 64 (⟨.st [(0, 2), (1, 2), (2, 2), (3, 2)], 4, 32, [.int .i64 0, .int .i64 0, .int .i64 0, .int .i64 0]⟩) := ⟨⟨Try.t64, _, by kernel_rfl, rfl, rfl, rfl, rfl⟩, ⟨_, [(0, 1), (1, 1), (2, 1), (3, 1)], Try.underlying64, by kernel_rfl, by kernel_rfl⟩⟩
theorem ty65 : tyOk Try.prog 65 (⟨.fn, 1, 8, [.nilFunc]⟩) := ⟨⟨Try.t65, _, by kernel_rfl, rfl, rfl, rfl, rfl⟩, ⟨_, _, _, Try.underlying65⟩⟩
theorem ty66 : tyOk Try.prog 66 (⟨.fn, 1, 8, [.nilFunc]⟩) := ⟨⟨Try.t66, _, by kernel_rfl, rfl, rfl, rfl, rfl⟩, ⟨_, _, _, Try.underlying66⟩⟩
theorem ty67 : tyOk Try.prog 67 (⟨.fn, 1, 8, [.nilFunc]⟩) := ⟨⟨Try.t67, _, by kernel_rfl, rfl, rfl, rfl, rfl⟩, ⟨_, _, _, Try.underlying67⟩⟩
theorem ty68 : tyOk Try.prog 68 (⟨.int .u64, 1, 8, [.int .u64 0]⟩) := ⟨⟨Try.t68, _, by kernel_rfl, rfl, rfl, rfl, rfl⟩, Try.underlying68⟩
theorem ty69 : tyOk Try.prog 69 (⟨.fn, 1, 8, [.nilFunc]⟩) := ⟨⟨Try.t69, _, by kernel_rfl, rfl, rfl, rfl, rfl⟩, ⟨_, _, _, Try.underlying69⟩⟩
theorem ty70 : tyOk Try.prog 70 (⟨.int .u64, 1, 8, [.int .u64 0]⟩) := ⟨⟨Try.t70, _, by kernel_rfl, rfl, rfl, rfl, rfl⟩, Try.underlying70⟩
theorem ty71 : tyOk Try.prog 71 (⟨.fn, 1, 8, [.nilFunc]⟩) := ⟨⟨Try.t71, _, by kernel_rfl, rfl, rfl, rfl, rfl⟩, ⟨_, _, _, Try.underlying71⟩⟩
theorem ty72 : tyOk Try.prog 72 (⟨.fn, 1, 8, [.nilFunc]⟩) := ⟨⟨Try.t72, _, by kernel_rfl, rfl, rfl, rfl, rfl⟩, ⟨_, _, _, Try.underlying72⟩⟩
theorem ty73 : tyOk Try.prog 73 (⟨.ptr, 1, 8, [.pointer none]⟩) := ⟨⟨Try.t73, _, by kernel_rfl, rfl, rfl, rfl, rfl⟩, ⟨_, Try.underlying73⟩⟩
theorem ty74 : tyOk Try.prog 74 (⟨.ptr, 1, 8, [.pointer none]⟩) := ⟨⟨Try.t74, _, by kernel_rfl, rfl, rfl, rfl, rfl⟩, ⟨_, Try.underlying74⟩⟩
theorem ty75 : tyOk Try.prog 75 (⟨.arr 2 70, 2, 16, [.int .u64 0, .int .u64 0]⟩) := ⟨⟨Try.t75, _, by kernel_rfl, rfl, rfl, rfl, rfl⟩, Try.underlying75⟩
theorem ty76 : tyOk Try.prog 76 (⟨.arr 2 70, 2, 16, [.int .u64 0, .int .u64 0]⟩) := ⟨⟨Try.t76, _, by kernel_rfl, rfl, rfl, rfl, rfl⟩, Try.underlying76⟩
theorem ty77 : tyOk Try.prog 77 (⟨.other, 0, 0, []⟩) := rfl
theorem ty78 : tyOk Try.prog 78 (⟨.fn, 1, 8, [.nilFunc]⟩) := ⟨⟨Try.t78, _, by kernel_rfl, rfl, rfl, rfl, rfl⟩, ⟨_, _, _, Try.underlying78⟩⟩
theorem ty79 : tyOk Try.prog 79 (⟨.fn, 1, 8, [.nilFunc]⟩) := ⟨⟨Try.t79, _, by kernel_rfl, rfl, rfl, rfl, rfl⟩, ⟨_, _, _, Try.underlying79⟩⟩
theorem ty80 : tyOk Try.prog 80 (⟨.fn, 1, 8, [.nilFunc]⟩) := ⟨⟨Try.t80, _, by kernel_rfl, rfl, rfl, rfl, rfl⟩, ⟨_, _, _, Try.underlying80⟩⟩
theorem ty81 : tyOk Try.prog 81 (⟨.fn, 1, 8, [.nilFunc]⟩) := ⟨⟨Try.t81, _, by kernel_rfl, rfl, rfl, rfl, rfl⟩, ⟨_, _, _, Try.underlying81⟩⟩
theorem ty82 : tyOk Try.prog 82 (⟨.fn, 1, 8, [.nilFunc]⟩) := ⟨⟨Try.t82, _, by kernel_rfl, rfl, rfl, rfl, rfl⟩, ⟨_, _, _, Try.underlying82⟩⟩
theorem ty83 : tyOk Try.prog 83 (⟨.other, 0, 0, []⟩) := rfl
theorem ty84 : tyOk Try.prog 84 (⟨.other, 0, 0, []⟩) := rfl
theorem ty85 : tyOk Try.prog 85 (⟨.fn, 1, 8, [.nilFunc]⟩) := ⟨⟨Try.t85, _, by kernel_rfl, rfl, rfl, rfl, rfl⟩, ⟨_, _, _, Try.underlying85⟩⟩
theorem ty86 : tyOk Try.prog 86 (⟨.ptr, 1, 8, [.pointer none]⟩) := ⟨⟨Try.t86, _, by kernel_rfl, rfl, rfl, rfl, rfl⟩, ⟨_, Try.underlying86⟩⟩
theorem ty87 : tyOk Try.prog 87 (⟨.fn, 1, 8, [.nilFunc]⟩) := ⟨⟨Try.t87, _, by kernel_rfl, rfl, rfl, rfl, rfl⟩, ⟨_, _, _, Try.underlying87⟩⟩
theorem ty88 : tyOk Try.prog 88 (⟨.st [(0, 17), (1, 17), (2, 17), (3, 9)], 4, 40, [.pointer none, .pointer none, .pointer none, .string ⟨#[]⟩]⟩) := ⟨⟨Try.t88, _, by kernel_rfl, rfl, rfl, rfl, rfl⟩, ⟨_, [(0, 1), (1, 1), (2, 1), (3, 1)], Try.underlying88, by kernel_rfl, by kernel_rfl⟩⟩
theorem ty89 : tyOk Try.prog 89 (⟨.st [(0, 17), (1, 17), (2, 17), (3, 9)], 4, 40, [.pointer none, .pointer none, .pointer none, .string ⟨#[]⟩]⟩) := ⟨⟨Try.t89, _, by kernel_rfl, rfl, rfl, rfl, rfl⟩, ⟨_, [(0, 1), (1, 1), (2, 1), (3, 1)], Try.underlying89, by kernel_rfl, by kernel_rfl⟩⟩
theorem ty90 : tyOk Try.prog 90 (⟨.arr 0 16, 0, 0, []⟩) := ⟨⟨Try.t90, _, by kernel_rfl, rfl, rfl, rfl, rfl⟩, Try.underlying90⟩
theorem ty91 : tyOk Try.prog 91 (⟨.st [(0, 90)], 0, 0, []⟩) := ⟨⟨Try.t91, _, by kernel_rfl, rfl, rfl, rfl, rfl⟩, ⟨_, [(0, 0)], Try.underlying91, by kernel_rfl, by kernel_rfl⟩⟩
theorem ty92 : tyOk Try.prog 92 (⟨.st [(0, 90)], 0, 0, []⟩) := ⟨⟨Try.t92, _, by kernel_rfl, rfl, rfl, rfl, rfl⟩, ⟨_, [(0, 0)], Try.underlying92, by kernel_rfl, by kernel_rfl⟩⟩
theorem ty93 : tyOk Try.prog 93 (⟨.fn, 1, 8, [.nilFunc]⟩) := ⟨⟨Try.t93, _, by kernel_rfl, rfl, rfl, rfl, rfl⟩, ⟨_, _, _, Try.underlying93⟩⟩
theorem ty94 : tyOk Try.prog 94 (⟨.int .u32, 1, 4, [.int .u32 0]⟩) := ⟨⟨Try.t94, _, by kernel_rfl, rfl, rfl, rfl, rfl⟩, Try.underlying94⟩
theorem ty95 : tyOk Try.prog 95 (⟨.int .u8, 1, 1, [.int .u8 0]⟩) := ⟨⟨Try.t95, _, by kernel_rfl, rfl, rfl, rfl, rfl⟩, Try.underlying95⟩
theorem ty96 : tyOk Try.prog 96 (⟨.int .u8, 1, 1, [.int .u8 0]⟩) := ⟨⟨Try.t96, _, by kernel_rfl, rfl, rfl, rfl, rfl⟩, Try.underlying96⟩
theorem ty97 : tyOk Try.prog 97 (⟨.fn, 1, 8, [.nilFunc]⟩) := ⟨⟨Try.t97, _, by kernel_rfl, rfl, rfl, rfl, rfl⟩, ⟨_, _, _, Try.underlying97⟩⟩
theorem ty98 : tyOk Try.prog 98 (⟨.ptr, 1, 8, [.pointer none]⟩) := ⟨⟨Try.t98, _, by kernel_rfl, rfl, rfl, rfl, rfl⟩, ⟨_, Try.underlying98⟩⟩
theorem ty99 : tyOk Try.prog 99 (⟨.int .i32, 1, 4, [.int .i32 0]⟩) := ⟨⟨Try.t99, _, by kernel_rfl, rfl, rfl, rfl, rfl⟩, Try.underlying99⟩
theorem ty100 : tyOk Try.prog 100 (⟨.int .i32, 1, 4, [.int .i32 0]⟩) := ⟨⟨Try.t100, _, by kernel_rfl, rfl, rfl, rfl, rfl⟩, Try.underlying100⟩
theorem ty101 : tyOk Try.prog 101 (⟨.st [(0, 12), (1, 12), (2, 94), (3, 95), (4, 5), (5, 5), (6, 96), (7, 97), (8, 98), (9, 99), (10, 100)], 11, 48, [.int .u64 0, .int .u64 0, .int .u32 0, .int .u8 0, .int .u8 0, .int .u8 0, .int .u8 0, .nilFunc, .pointer none, .int .i32 0, .int .i32 0]⟩) := ⟨⟨Try.t101, _, by kernel_rfl, rfl, rfl, rfl, rfl⟩, ⟨_, [(0, 1), (1, 1), (2, 1), (3, 1), (4, 1), (5, 1), (6, 1), (7, 1), (8, 1), (9, 1), (10, 1)], Try.underlying101, by kernel_rfl, by kernel_rfl⟩⟩
theorem ty102 : tyOk Try.prog 102 (⟨.st [(0, 12), (1, 12), (2, 94), (3, 95), (4, 5), (5, 5), (6, 96), (7, 97), (8, 98), (9, 99), (10, 100)], 11, 48, [.int .u64 0, .int .u64 0, .int .u32 0, .int .u8 0, .int .u8 0, .int .u8 0, .int .u8 0, .nilFunc, .pointer none, .int .i32 0, .int .i32 0]⟩) := ⟨⟨Try.t102, _, by kernel_rfl, rfl, rfl, rfl, rfl⟩, ⟨_, [(0, 1), (1, 1), (2, 1), (3, 1), (4, 1), (5, 1), (6, 1), (7, 1), (8, 1), (9, 1), (10, 1)], Try.underlying102, by kernel_rfl, by kernel_rfl⟩⟩
theorem ty103 : tyOk Try.prog 103 (⟨.st [(0, 9)], 1, 16, [.string ⟨#[]⟩]⟩) := ⟨⟨Try.t103, _, by kernel_rfl, rfl, rfl, rfl, rfl⟩, ⟨_, [(0, 1)], Try.underlying103, by kernel_rfl, by kernel_rfl⟩⟩
theorem ty104 : tyOk Try.prog 104 (⟨.st [(0, 9)], 1, 16, [.string ⟨#[]⟩]⟩) := ⟨⟨Try.t104, _, by kernel_rfl, rfl, rfl, rfl, rfl⟩, ⟨_, [(0, 1)], Try.underlying104, by kernel_rfl, by kernel_rfl⟩⟩
theorem ty105 : tyOk Try.prog 105 (⟨.other, 0, 0, []⟩) := rfl
theorem ttok : TTok Try.prog tt := fun t => match t with
  | 0 => ty0
  | 1 => ty1
  | 2 => ty2
  | 3 => ty3
  | 4 => ty4
  | 5 => ty5
  | 6 => ty6
  | 7 => ty7
  | 8 => ty8
  | 9 => ty9
  | 10 => ty10
  | 11 => ty11
  | 12 => ty12
  | 13 => ty13
  | 14 => ty14
  | 15 => ty15
  | 16 => ty16
  | 17 => ty17
  | 18 => ty18
  | 19 => ty19
  | 20 => ty20
  | 21 => ty21
  | 22 => ty22
  | 23 => ty23
  | 24 => ty24
  | 25 => ty25
  | 26 => ty26
  | 27 => ty27
  | 28 => ty28
  | 29 => ty29
  | 30 => ty30
  | 31 => ty31
  | 32 => ty32
  | 33 => ty33
  | 34 => ty34
  | 35 => ty35
  | 36 => ty36
  | 37 => ty37
  | 38 => ty38
  | 39 => ty39
  | 40 => ty40
  | 41 => ty41
  | 42 => ty42
  | 43 => ty43
  | 44 => ty44
  | 45 => ty45
  | 46 => ty46
  | 47 => ty47
  | 48 => ty48
  | 49 => ty49
  | 50 => ty50
  | 51 => ty51
  | 52 => ty52
  | 53 => ty53
  | 54 => ty54
  | 55 => ty55
  | 56 => ty56
  | 57 => ty57
  | 58 => ty58
  | 59 => ty59
  | 60 => ty60
  | 61 => ty61
  | 62 => ty62
  | 63 => ty63
  | 64 => ty64
  | 65 => ty65
  | 66 => ty66
  | 67 => ty67
  | 68 => ty68
  | 69 => ty69
  | 70 => ty70
  | 71 => ty71
  | 72 => ty72
  | 73 => ty73
  | 74 => ty74
  | 75 => ty75
  | 76 => ty76
  | 77 => ty77
  | 78 => ty78
  | 79 => ty79
  | 80 => ty80
  | 81 => ty81
  | 82 => ty82
  | 83 => ty83
  | 84 => ty84
  | 85 => ty85
  | 86 => ty86
  | 87 => ty87
  | 88 => ty88
  | 89 => ty89
  | 90 => ty90
  | 91 => ty91
  | 92 => ty92
  | 93 => ty93
  | 94 => ty94
  | 95 => ty95
  | 96 => ty96
  | 97 => ty97
  | 98 => ty98
  | 99 => ty99
  | 100 => ty100
  | 101 => ty101
  | 102 => ty102
  | 103 => ty103
  | 104 => ty104
  | 105 => ty105
  | _ + 106 => rfl

noncomputable def cf : Cfg := { P := Try.prog, tt := tt, fns := [3, 4, 5, 6, 7, 8, 9, 10, 11, 12, 13, 14, 15, 16, 17, 18, 19, 20, 21, 22, 23, 24, 25, 26, 27, 28, 29, 30, 31, 32, 33, 34, 35, 36, 37, 38, 39, 40] }

theorem cfok : CfgOk cf where
  mix := by kernel_rfl
  tt := ttok
  fns := List.forall_mem_cons.2 ⟨Try.call3, List.forall_mem_cons.2 ⟨Try.call4, List.forall_mem_cons.2 ⟨Try.call5, List.forall_mem_cons.2 ⟨Try.call6, List.forall_mem_cons.2 ⟨Try.call7, List.forall_mem_cons.2 ⟨Try.call8, List.forall_mem_cons.2 ⟨Try.call9, List.forall_mem_cons.2 ⟨Try.call10, List.forall_mem_cons.2 ⟨Try.call11, List.forall_mem_cons.2 ⟨Try.call12, List.forall_mem_cons.2 ⟨Try.call13, List.forall_mem_cons.2 ⟨Try.call14, List.forall_mem_cons.2 ⟨Try.call15, List.forall_mem_cons.2 ⟨Try.call16, List.forall_mem_cons.2 ⟨Try.call17, List.forall_mem_cons.2 ⟨Try.call18, List.forall_mem_cons.2 ⟨Try.call19, List.forall_mem_cons.2 ⟨Try.call20, List.forall_mem_cons.2 ⟨Try.call21, List.forall_mem_cons.2 ⟨Try.call22, List.forall_mem_cons.2 ⟨Try.call23, List.forall_mem_cons.2 ⟨Try.call24, List.forall_mem_cons.2 ⟨Try.call25, List.forall_mem_cons.2 ⟨Try.call26, List.forall_mem_cons.2 ⟨Try.call27, List.forall_mem_cons.2 ⟨Try.call28, List.forall_mem_cons.2 ⟨Try.call29, List.forall_mem_cons.2 ⟨Try.call30, List.forall_mem_cons.2 ⟨Try.call31, List.forall_mem_cons.2 ⟨Try.call32, List.forall_mem_cons.2 ⟨Try.call33, List.forall_mem_cons.2 ⟨Try.call34, List.forall_mem_cons.2 ⟨Try.call35, List.forall_mem_cons.2 ⟨Try.call36, List.forall_mem_cons.2 ⟨Try.call37, List.forall_mem_cons.2 ⟨Try.call38, List.forall_mem_cons.2 ⟨Try.call39, List.forall_mem_cons.2 ⟨Try.call40, List.forall_mem_nil _⟩⟩⟩⟩⟩⟩⟩⟩⟩⟩⟩⟩⟩⟩⟩⟩⟩⟩⟩⟩⟩⟩⟩⟩⟩⟩⟩⟩⟩⟩⟩⟩⟩⟩⟩⟩⟩⟩

/-
  0: main.main
  1: gosem.cut
  2: gosem.cut.init
  3: calamus/calamuslaw20.BreakNone
  4: calamus/calamuslaw20.BreakWords
  5: calamus/calamuslaw20.BreakMore
  6: calamus/calamuslaw20.BreakAll
  7: calamus/calamuslaw20.works
  8: calamus/parbreak.Break
  9: calamus/parbreak.Total
  10: calamus/calamusref20.Way
  11: calamus/calamuslaw20.ahead
  12: calamus/calamuslaw20.table
  13: calamus/calamuskit.SameInts
  14: calamus/parbreak.made
  15: calamus/parbreak.Break$1
  16: (*calamus/parbreak.paragraph).cost
  17: slices.Contains[[]bool,bool]
  18: slices.ContainsFunc[[]int64,int64]
  19: calamus/parbreak.bad
  20: (*calamus/parbreak.paragraph).line
  21: calamus/glue.Demerits
  22: slices.Index[[]bool,bool]
  23: slices.IndexFunc[[]int64,int64]
  24: calamus/glue.Badness
  25: calamus/glue.right
  26: (calamus/glue.line).short
  27: (calamus/glue.line).long
  28: (calamus/glue.line).over
  29: calamus/glue.cube
  30: calamus/fixed.MulDiv
  31: calamus/fixed.quotient
  32: calamus/fixed.MulDiv$1
  33: calamus/fixed.caught
  34: math/bits.Mul64
  35: calamus/fixed.size
  36: (calamus/fixed.long).divide
  37: calamus/fixed.signed
  38: math/bits.Div64
  39: math/bits.LeadingZeros64
  40: math/bits.Len64
  41: (runtime.boundsError).Error
  42: (runtime.boundsError).RuntimeError
  43: (runtime.errorString).Error
  44: (runtime.errorString).RuntimeError
  45: (runtime.plainError).Error
  46: (runtime.plainError).RuntimeError
  47: (runtime.errorAddressString).Error
  48: (runtime.errorAddressString).RuntimeError
  49: (*runtime.TypeAssertionError).Error
  50: (*runtime.TypeAssertionError).RuntimeError
  51: (*runtime.PanicNilError).Error
  52: (*runtime.PanicNilError).RuntimeError
  53: (*internal/abi.Type).Align
  54: (internal/runtime/maps.unhashableTypeError).Error
  55: (internal/runtime/maps.unhashableTypeError).RuntimeError
  56: (calamus/api.Errno).Error
  57: (*errors.errorString).Error
  58: (internal/abi.Kind).String
-/
end Go.Proofs.Ytiaaiihdamkeaaa
