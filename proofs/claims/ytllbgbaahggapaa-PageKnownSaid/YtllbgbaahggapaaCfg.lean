import Derived.Test.YtllbgbaahggapaaEng
import Derived.Test.YtllbgbaahggapaaProg
namespace Go.Proofs.Ytllbgbaahggapaa
open Go Go.Eng

def tt : TT := [
  ⟨.other, 0, 0, []⟩,
  ⟨.fn, 1, 8, [.nilFunc]⟩,
  ⟨.int .i64, 1, 8, [.int .i64 0]⟩,
  ⟨.int .i64, 1, 8, [.int .i64 0]⟩,
  ⟨.bool, 1, 1, [.bool false]⟩,
  ⟨.int .u8, 1, 1, [.int .u8 0]⟩,
  ⟨.int .u8, 1, 1, [.int .u8 0]⟩,
  ⟨.st [(0, 2), (1, 3), (2, 4), (3, 6)], 4, 24, [.int .i64 0, .int .i64 0, .bool false, .int .u8 0]⟩,
  ⟨.st [(0, 2), (1, 3), (2, 4), (3, 6)], 4, 24, [.int .i64 0, .int .i64 0, .bool false, .int .u8 0]⟩,
  ⟨.str, 1, 16, [.string ⟨#[]⟩]⟩,
  ⟨.str, 1, 16, [.string ⟨#[]⟩]⟩,
  ⟨.str, 1, 16, [.string ⟨#[]⟩]⟩,
  ⟨.int .u64, 1, 8, [.int .u64 0]⟩,
  ⟨.st [(0, 9), (1, 12)], 2, 24, [.string ⟨#[]⟩, .int .u64 0]⟩,
  ⟨.st [(0, 9), (1, 12)], 2, 24, [.string ⟨#[]⟩, .int .u64 0]⟩,
  ⟨.ptr, 1, 8, [.pointer none]⟩,
  ⟨.ptr, 1, 8, [.pointer none]⟩,
  ⟨.ptr, 1, 8, [.pointer none]⟩,
  ⟨.st [(0, 17)], 1, 8, [.pointer none]⟩,
  ⟨.st [(0, 17)], 1, 8, [.pointer none]⟩,
  ⟨.other, 0, 0, []⟩,
  ⟨.int .i32, 1, 4, [.int .i32 0]⟩,
  ⟨.sl 33, 1, 24, [.slice none 0 0]⟩,
  ⟨.sl 3, 1, 24, [.slice none 0 0]⟩,
  ⟨.fn, 1, 8, [.nilFunc]⟩,
  ⟨.fn, 1, 8, [.nilFunc]⟩,
  ⟨.sl 31, 1, 24, [.slice none 0 0]⟩,
  ⟨.int .i64, 1, 8, [.int .i64 0]⟩,
  ⟨.other, 0, 0, []⟩,
  ⟨.fn, 1, 8, [.nilFunc]⟩,
  ⟨.st [(0, 3), (1, 3), (2, 3), (3, 3), (4, 2)], 5, 40, [.int .i64 0, .int .i64 0, .int .i64 0, .int .i64 0, .int .i64 0]⟩,
  ⟨.st [(0, 3), (1, 3), (2, 3), (3, 3), (4, 2)], 5, 40, [.int .i64 0, .int .i64 0, .int .i64 0, .int .i64 0, .int .i64 0]⟩,
  ⟨.st [(0, 2), (1, 2), (2, 2), (3, 2)], 4, 32, [.int .i64 0, .int .i64 0, .int .i64 0, .int .i64 0]⟩,
  ⟨.st [(0, 2), (1, 2), (2, 2), (3, 2)], 4, 32, [.int .i64 0, .int .i64 0, .int .i64 0, .int .i64 0]⟩,
  ⟨.fn, 1, 8, [.nilFunc]⟩,
  ⟨.fn, 1, 8, [.nilFunc]⟩,
  ⟨.sl 2, 1, 24, [.slice none 0 0]⟩,
  ⟨.other, 0, 0, []⟩,
  ⟨.fn, 1, 8, [.nilFunc]⟩,
  ⟨.fn, 1, 8, [.nilFunc]⟩,
  ⟨.sl 54, 1, 24, [.slice none 0 0]⟩,
  ⟨.fn, 1, 8, [.nilFunc]⟩,
  ⟨.st [(0, 3), (1, 3), (2, 3), (3, 3), (4, 2)], 5, 40, [.int .i64 0, .int .i64 0, .int .i64 0, .int .i64 0, .int .i64 0]⟩,
  ⟨.fn, 1, 8, [.nilFunc]⟩,
  ⟨.fn, 1, 8, [.nilFunc]⟩,
  ⟨.fn, 1, 8, [.nilFunc]⟩,
  ⟨.fn, 1, 8, [.nilFunc]⟩,
  ⟨.fn, 1, 8, [.nilFunc]⟩,
  ⟨.fn, 1, 8, [.nilFunc]⟩,
  ⟨.fn, 1, 8, [.nilFunc]⟩,
  ⟨.ptr, 1, 8, [.pointer none]⟩,
  ⟨.st [(0, 22), (1, 2), (2, 31)], 7, 72, [.slice none 0 0, .int .i64 0, .int .i64 0, .int .i64 0, .int .i64 0, .int .i64 0, .int .i64 0]⟩,
  ⟨.st [(0, 22), (1, 2), (2, 31)], 7, 72, [.slice none 0 0, .int .i64 0, .int .i64 0, .int .i64 0, .int .i64 0, .int .i64 0, .int .i64 0]⟩,
  ⟨.fn, 1, 8, [.nilFunc]⟩,
  ⟨.st [(0, 2), (1, 2), (2, 2), (3, 2)], 4, 32, [.int .i64 0, .int .i64 0, .int .i64 0, .int .i64 0]⟩,
  ⟨.fn, 1, 8, [.nilFunc]⟩,
  ⟨.sl 42, 1, 24, [.slice none 0 0]⟩,
  ⟨.other, 0, 0, []⟩,
  ⟨.fn, 1, 8, [.nilFunc]⟩,
  ⟨.fn, 1, 8, [.nilFunc]⟩,
  ⟨.fn, 1, 8, [.nilFunc]⟩,
  ⟨.fn, 1, 8, [.nilFunc]⟩,
  ⟨.ptr, 1, 8, [.pointer none]⟩,
  ⟨.fn, 1, 8, [.nilFunc]⟩,
  ⟨.fn, 1, 8, [.nilFunc]⟩,
  ⟨.st [(0, 17), (1, 17), (2, 17), (3, 9)], 4, 40, [.pointer none, .pointer none, .pointer none, .string ⟨#[]⟩]⟩,
  ⟨.st [(0, 17), (1, 17), (2, 17), (3, 9)], 4, 40, [.pointer none, .pointer none, .pointer none, .string ⟨#[]⟩]⟩,
  ⟨.arr 0 16, 0, 0, []⟩,
  ⟨.st [(0, 67)], 0, 0, []⟩,
  ⟨.st [(0, 67)], 0, 0, []⟩,
  ⟨.fn, 1, 8, [.nilFunc]⟩,
  ⟨.int .u32, 1, 4, [.int .u32 0]⟩,
  ⟨.int .u8, 1, 1, [.int .u8 0]⟩,
  ⟨.int .u8, 1, 1, [.int .u8 0]⟩,
  ⟨.fn, 1, 8, [.nilFunc]⟩,
  ⟨.ptr, 1, 8, [.pointer none]⟩,
  ⟨.int .i32, 1, 4, [.int .i32 0]⟩,
  ⟨.int .i32, 1, 4, [.int .i32 0]⟩,
  ⟨.st [(0, 12), (1, 12), (2, 71), (3, 72), (4, 5), (5, 5), (6, 73), (7, 74), (8, 75), (9, 76), (10, 77)], 11, 48, [.int .u64 0, .int .u64 0, .int .u32 0, .int .u8 0, .int .u8 0, .int .u8 0, .int .u8 0, .nilFunc, .pointer none, .int .i32 0, .int .i32 0]⟩,
  ⟨.st [(0, 12), (1, 12), (2, 71), (3, 72), (4, 5), (5, 5), (6, 73), (7, 74), (8, 75), (9, 76), (10, 77)], 11, 48, [.int .u64 0, .int .u64 0, .int .u32 0, .int .u8 0, .int .u8 0, .int .u8 0, .int .u8 0, .nilFunc, .pointer none, .int .i32 0, .int .i32 0]⟩,
  ⟨.other, 0, 0, []⟩]

theorem ty0 : tyOk Try.prog 0 (⟨.other, 0, 0, []⟩) := rfl
theorem ty1 : tyOk Try.prog 1 (⟨.fn, 1, 8, [.nilFunc]⟩) := ⟨⟨Try.t1, _, by kernel_rfl, rfl, rfl, rfl, rfl⟩, ⟨_, _, _, Try.underlying1⟩⟩
theorem ty2 : tyOk Try.prog 2 (⟨.int .i64, 1, 8, [.int .i64 0]⟩) := ⟨⟨Try.t2, _, by kernel_rfl, rfl, rfl, rfl, rfl⟩, Try.underlying2⟩
theorem ty3 : tyOk Try.prog 3 (⟨.int .i64, 1, 8, [.int .i64 0]⟩) := ⟨⟨Try.t3, _, by kernel_rfl, rfl, rfl, rfl, rfl⟩, Try.underlying3⟩
theorem ty4 : tyOk Try.prog 4 (⟨.bool, 1, 1, [.bool false]⟩) := ⟨⟨Try.t4, _, by kernel_rfl, rfl, rfl, rfl, rfl⟩, Try.underlying4⟩
theorem ty5 : tyOk Try.prog 5 (⟨.int .u8, 1, 1, [.int .u8 0]⟩) := ⟨⟨Try.t5, _, by kernel_rfl, rfl, rfl, rfl, rfl⟩, Try.underlying5⟩
theorem ty6 : tyOk Try.prog 6 (⟨.int .u8, 1, 1, [.int .u8 0]⟩) := ⟨⟨Try.t6, _, by kernel_rfl, rfl, rfl, rfl, rfl⟩, Try.underlying6⟩
theorem ty7 : tyOk Try.prog 7 (⟨.st [(0, 2), (1, 3), (2, 4), (3, 6)], 4, 24, [.int .i64 0, .int .i64 0, .bool false, .int .u8 0]⟩) := ⟨⟨Try.t7, _, by kernel_rfl, rfl, rfl, rfl, rfl⟩, ⟨_, [(0, 1), (1, 1), (2, 1), (3, 1)], Try.underlying7, by kernel_rfl, by kernel_rfl⟩⟩
theorem ty8 : tyOk Try.prog 8 (⟨.st [(0, 2), (1, 3), (2, 4), (3, 6)], 4, 24, [.int .i64 0, .int .i64 0, .bool false, .int .u8 0]⟩) := ⟨⟨Try.t8, _, by kernel_rfl, rfl, rfl, rfl, rfl⟩, ⟨_, [(0, 1), (1, 1), (2, 1), (3, 1)], Try.underlying8, by kernel_rfl, by kernel_rfl⟩⟩
theorem ty9 : tyOk Try.prog 9 (⟨.str, 1, 16, [.string ⟨#[]⟩]⟩) := ⟨⟨Try.t9, _, by kernel_rfl, rfl, rfl, rfl, rfl⟩, Try.underlying9⟩
theorem ty10 : tyOk Try.prog 10 (⟨.str, 1, 16, [.string ⟨#[]⟩]⟩) := ⟨⟨Try.t10, _, by kernel_rfl, rfl, rfl, rfl, rfl⟩, Try.underlying10⟩
theorem ty11 : tyOk Try.prog 11 (⟨.str, 1, 16, [.string ⟨#[]⟩]⟩) := ⟨⟨Try.t11, _, by kernel_rfl, rfl, rfl, rfl, rfl⟩, Try.underlying11⟩
theorem ty12 : tyOk Try.prog 12 (⟨.int .u64, 1, 8, [.int .u64 0]⟩) := ⟨⟨Try.t12, _, by kernel_rfl, rfl, rfl, rfl, rfl⟩, Try.underlying12⟩
theorem ty13 : tyOk Try.prog 13 (⟨.st [(0, 9), (1, 12)], 2, 24, [.string ⟨#[]⟩, .int .u64 0]⟩) := ⟨⟨Try.t13, _, by kernel_rfl, rfl, rfl, rfl, rfl⟩, ⟨_, [(0, 1), (1, 1)], Try.underlying13, by kernel_rfl, by kernel_rfl⟩⟩
theorem ty14 : tyOk Try.prog 14 (⟨.st [(0, 9), (1, 12)], 2, 24, [.string ⟨#[]⟩, .int .u64 0]⟩) := ⟨⟨Try.t14, _, by kernel_rfl, rfl, rfl, rfl, rfl⟩, ⟨_, [(0, 1), (1, 1)], Try.underlying14, by kernel_rfl, by kernel_rfl⟩⟩
theorem ty15 : tyOk Try.prog 15 (⟨.ptr, 1, 8, [.pointer none]⟩) := ⟨⟨Try.t15, _, by kernel_rfl, rfl, rfl, rfl, rfl⟩, ⟨_, Try.underlying15⟩⟩
theorem ty16 : tyOk Try.prog 16 (⟨.ptr, 1, 8, [.pointer none]⟩) := ⟨⟨Try.t16, _, by kernel_rfl, rfl, rfl, rfl, rfl⟩, ⟨_, Try.underlying16⟩⟩
theorem ty17 : tyOk Try.prog 17 (⟨.ptr, 1, 8, [.pointer none]⟩) := ⟨⟨Try.t17, _, by kernel_rfl, rfl, rfl, rfl, rfl⟩, ⟨_, Try.underlying17⟩⟩
theorem ty18 : tyOk Try.prog 18 (⟨.st [(0, 17)], 1, 8, [.pointer none]⟩) := ⟨⟨Try.t18, _, by kernel_rfl, rfl, rfl, rfl, rfl⟩, ⟨_, [(0, 1)], Try.underlying18, by kernel_rfl, by kernel_rfl⟩⟩
theorem ty19 : tyOk Try.prog 19 (⟨.st [(0, 17)], 1, 8, [.pointer none]⟩) := ⟨⟨Try.t19, _, by kernel_rfl, rfl, rfl, rfl, rfl⟩, ⟨_, [(0, 1)], Try.underlying19, by kernel_rfl, by kernel_rfl⟩⟩
theorem ty20 : tyOk Try.prog 20 (⟨.other, 0, 0, []⟩) := rfl
theorem ty21 : tyOk Try.prog 21 (⟨.int .i32, 1, 4, [.int .i32 0]⟩) := ⟨⟨Try.t21, _, by kernel_rfl, rfl, rfl, rfl, rfl⟩, Try.underlying21⟩
theorem ty22 : tyOk Try.prog 22 (⟨.sl 33, 1, 24, [.slice none 0 0]⟩) := ⟨⟨Try.t22, _, by kernel_rfl, rfl, rfl, rfl, rfl⟩, Try.underlying22⟩
theorem ty23 : tyOk Try.prog 23 (⟨.sl 3, 1, 24, [.slice none 0 0]⟩) := ⟨⟨Try.t23, _, by kernel_rfl, rfl, rfl, rfl, rfl⟩, Try.underlying23⟩
theorem ty24 : tyOk Try.prog 24 (⟨.fn, 1, 8, [.nilFunc]⟩) := ⟨⟨Try.t24, _, by kernel_rfl, rfl, rfl, rfl, rfl⟩, ⟨_, _, _, Try.underlying24⟩⟩
theorem ty25 : tyOk Try.prog 25 (⟨.fn, 1, 8, [.nilFunc]⟩) := ⟨⟨Try.t25, _, by kernel_rfl, rfl, rfl, rfl, rfl⟩, ⟨_, _, _, Try.underlying25⟩⟩
theorem ty26 : tyOk Try.prog 26 (⟨.sl 31, 1, 24, [.slice none 0 0]⟩) := ⟨⟨Try.t26, _, by kernel_rfl, rfl, rfl, rfl, rfl⟩, Try.underlying26⟩
theorem ty27 : tyOk Try.prog 27 (⟨.int .i64, 1, 8, [.int .i64 0]⟩) := ⟨⟨Try.t27, _, by kernel_rfl, rfl, rfl, rfl, rfl⟩, Try.underlying27⟩
theorem ty28 : tyOk Try.prog 28 (⟨.other, 0, 0, []⟩) := rfl
theorem ty29 : tyOk Try.prog 29 (⟨.fn, 1, 8, [.nilFunc]⟩) := ⟨⟨Try.t29, _, by kernel_rfl, rfl, rfl, rfl, rfl⟩, ⟨_, _, _, Try.underlying29⟩⟩
theorem ty30 : tyOk Try.prog 30 (⟨.st [(0, 3), (1, 3), (2, 3), (3, 3), (4, 2)], 5, 40, [.int .i64 0, .int .i64 0, .int .i64 0, .int .i64 0, .int .i64 0]⟩) := ⟨⟨Try.t30, _, by kernel_rfl, rfl, rfl, rfl, rfl⟩, ⟨_, [(0, 1), (1, 1), (2, 1), (3, 1), (4, 1)], Try.underlying30, by kernel_rfl, by kernel_rfl⟩⟩
theorem ty31 : tyOk Try.prog 31 (⟨.st [(0, 3), (1, 3), (2, 3), (3, 3), (4, 2)], 5, 40, [.int .i64 0, .int .i64 0, .int .i64 0, .int .i64 0, .int .i64 0]⟩) := ⟨⟨Try.t31, _, by kernel_rfl, rfl, rfl, rfl, rfl⟩, ⟨_, [(0, 1), (1, 1), (2, 1), (3, 1), (4, 1)], Try.underlying31, by kernel_rfl, by kernel_rfl⟩⟩
theorem ty32 : tyOk Try.prog 32 (⟨.st [(0, 2), (1, 2), (2, 2), (3, 2)], 4, 32, [.int .i64 0, .int .i64 0, .int .i64 0, .int .i64 0]⟩) := ⟨⟨Try.t32, _, by kernel_rfl, rfl, rfl, rfl, rfl⟩, ⟨_, [(0, 1), (1, 1), (2, 1), (3, 1)], Try.underlying32, by kernel_rfl, by kernel_rfl⟩⟩
theorem ty33 : tyOk Try.prog 33 (⟨.st [(0, 2), (1, 2), (2, 2), (3, 2)], 4, 32, [.int .i64 0, .int .i64 0, .int .i64 0, .int .i64 0]⟩) := ⟨⟨Try.t33, _, by kernel_rfl, rfl, rfl, rfl, rfl⟩, ⟨_, [(0, 1), (1, 1), (2, 1), (3, 1)], Try.underlying33, by kernel_rfl, by kernel_rfl⟩⟩
theorem ty34 : tyOk Try.prog 34 (⟨.fn, 1, 8, [.nilFunc]⟩) := ⟨⟨Try.t34, _, by kernel_rfl, rfl, rfl, rfl, rfl⟩, ⟨_, _, _, Try.underlying34⟩⟩
theorem ty35 : tyOk Try.prog 35 (⟨.fn, 1, 8, [.nilFunc]⟩) := ⟨⟨Try.t35, _, by kernel_rfl, rfl, rfl, rfl, rfl⟩, ⟨_, _, _, Try.underlying35⟩⟩
theorem ty36 : tyOk Try.prog 36 (⟨.sl 2, 1, 24, [.slice none 0 0]⟩) := ⟨⟨Try.t36, _, by kernel_rfl, rfl, rfl, rfl, rfl⟩, Try.underlying36⟩
theorem ty37 : tyOk Try.prog 37 (⟨.other, 0, 0, []⟩) := rfl
theorem ty38 : tyOk Try.prog 38 (⟨.fn, 1, 8, [.nilFunc]⟩) := ⟨⟨Try.t38, _, by kernel_rfl, rfl, rfl, rfl, rfl⟩, ⟨_, _, _, Try.underlying38⟩⟩
theorem ty39 : tyOk Try.prog 39 (⟨.fn, 1, 8, [.nilFunc]⟩) := ⟨⟨Try.t39, _, by kernel_rfl, rfl, rfl, rfl, rfl⟩, ⟨_, _, _, Try.underlying39⟩⟩
theorem ty40 : tyOk Try.prog 40 (⟨.sl 54, 1, 24, [.slice none 0 0]⟩) := ⟨⟨Try.t40, _, by kernel_rfl, rfl, rfl, rfl, rfl⟩, Try.underlying40⟩
theorem ty41 : tyOk Try.prog 41 (⟨.fn, 1, 8, [.nilFunc]⟩) := ⟨⟨Try.t41, _, by kernel_rfl, rfl, rfl, rfl, rfl⟩, ⟨_, _, _, Try.underlying41⟩⟩
theorem ty42 : tyOk Try.prog 42 (⟨.st [(0, 3), (1, 3), (2, 3), (3, 3), (4, 2)], 5, 40, [.int .i64 0, .int .i64 0, .int .i64 0, .int .i64 0, .int .i64 0]⟩) := ⟨⟨Try.t42, _, by kernel_rfl, rfl, rfl, rfl, rfl⟩, ⟨_, [(0, 1), (1, 1), (2, 1), (3, 1), (4, 1)], Try.underlying42, by kernel_rfl, by kernel_rfl⟩⟩
theorem ty43 : tyOk Try.prog 43 (⟨.fn, 1, 8, [.nilFunc]⟩) := ⟨⟨Try.t43, _, by kernel_rfl, rfl, rfl, rfl, rfl⟩, ⟨_, _, _, Try.underlying43⟩⟩
theorem ty44 : tyOk Try.prog 44 (⟨.fn, 1, 8, [.nilFunc]⟩) := ⟨⟨Try.t44, _, by kernel_rfl, rfl, rfl, rfl, rfl⟩, ⟨_, _, _, Try.underlying44⟩⟩
theorem ty45 : tyOk Try.prog 45 (⟨.fn, 1, 8, [.nilFunc]⟩) := ⟨⟨Try.t45, _, by kernel_rfl, rfl, rfl, rfl, rfl⟩, ⟨_, _, _, Try.underlying45⟩⟩
theorem ty46 : tyOk Try.prog 46 (⟨.fn, 1, 8, [.nilFunc]⟩) := ⟨⟨Try.t46, _, by kernel_rfl, rfl, rfl, rfl, rfl⟩, ⟨_, _, _, Try.underlying46⟩⟩
theorem ty47 : tyOk Try.prog 47 (⟨.fn, 1, 8, [.nilFunc]⟩) := ⟨⟨Try.t47, _, by kernel_rfl, rfl, rfl, rfl, rfl⟩, ⟨_, _, _, Try.underlying47⟩⟩
theorem ty48 : tyOk Try.prog 48 (⟨.fn, 1, 8, [.nilFunc]⟩) := ⟨⟨Try.t48, _, by kernel_rfl, rfl, rfl, rfl, rfl⟩, ⟨_, _, _, Try.underlying48⟩⟩
theorem ty49 : tyOk Try.prog 49 (⟨.fn, 1, 8, [.nilFunc]⟩) := ⟨⟨Try.t49, _, by kernel_rfl, rfl, rfl, rfl, rfl⟩, ⟨_, _, _, Try.underlying49⟩⟩
theorem ty50 : tyOk Try.prog 50 (⟨.ptr, 1, 8, [.pointer none]⟩) := ⟨⟨Try.t50, _, by kernel_rfl, rfl, rfl, rfl, rfl⟩, ⟨_, Try.underlying50⟩⟩
theorem ty51 : tyOk Try.prog 51 (⟨.st [(0, 22), (1, 2), (2, 31)], 7, 72, [.slice none 0 0, .int .i64 0, .int .i64 0, .int .i64 0, .int .i64 0, .int .i64 0, .int .i64 0]⟩) := ⟨⟨Try.t51, _, by kernel_rfl, rfl, rfl, rfl, rfl⟩, ⟨_, [(0, 1), (1, 1), (2, 5)], Try.underlying51, by kernel_rfl, by kernel_rfl⟩⟩
theorem ty52 : tyOk Try.prog 52 (⟨.st [(0, 22), (1, 2), (2, 31)], 7, 72, [.slice none 0 0, .int .i64 0, .int .i64 0, .int .i64 0, .int .i64 0, .int .i64 0, .int .i64 0]⟩) := ⟨⟨Try.t52, _, by kernel_rfl, rfl, rfl, rfl, rfl⟩, ⟨_, [(0, 1), (1, 1), (2, 5)], Try.underlying52, by kernel_rfl, by kernel_rfl⟩⟩
theorem ty53 : tyOk Try.prog 53 (⟨.fn, 1, 8, [.nilFunc]⟩) := ⟨⟨Try.t53, _, by kernel_rfl, rfl, rfl, rfl, rfl⟩, ⟨_, _, _, Try.underlying53⟩⟩
theorem ty54 : tyOk Try.prog 54 (⟨.st [(0, 2), (1, 2), (2, 2), (3, 2)], 4, 32, [.int .i64 0, .int .i64 0, .int .i64 0, .int .i64 0]⟩) := ⟨⟨Try.t54, _, by kernel_rfl, rfl, rfl, rfl, rfl⟩, ⟨_, [(0, 1), (1, 1), (2, 1), (3, 1)], Try.underlying54, by kernel_rfl, by kernel_rfl⟩⟩
theorem ty55 : tyOk Try.prog 55 (⟨.fn, 1, 8, [.nilFunc]⟩) := ⟨⟨Try.t55, _, by kernel_rfl, rfl, rfl, rfl, rfl⟩, ⟨_, _, _, Try.underlying55⟩⟩
theorem ty56 : tyOk Try.prog 56 (⟨.sl 42, 1, 24, [.slice none 0 0]⟩) := ⟨⟨Try.t56, _, by kernel_rfl, rfl, rfl, rfl, rfl⟩, Try.underlying56⟩
theorem ty57 : tyOk Try.prog 57 (⟨.other, 0, 0, []⟩) := rfl
theorem ty58 : tyOk Try.prog 58 (⟨.fn, 1, 8, [.nilFunc]⟩) := ⟨⟨Try.t58, _, by kernel_rfl, rfl, rfl, rfl, rfl⟩, ⟨_, _, _, Try.underlying58⟩⟩
theorem ty59 : tyOk Try.prog 59 (⟨.fn, 1, 8, [.nilFunc]⟩) := ⟨⟨Try.t59, _, by kernel_rfl, rfl, rfl, rfl, rfl⟩, ⟨_, _, _, Try.underlying59⟩⟩
theorem ty60 : tyOk Try.prog 60 (⟨.fn, 1, 8, [.nilFunc]⟩) := ⟨⟨Try.t60, _, by kernel_rfl, rfl, rfl, rfl, rfl⟩, ⟨_, _, _, Try.underlying60⟩⟩
theorem ty61 : tyOk Try.prog 61 (⟨.fn, 1, 8, [.nilFunc]⟩) := ⟨⟨Try.t61, _, by kernel_rfl, rfl, rfl, rfl, rfl⟩, ⟨_, _, _, Try.underlying61⟩⟩
theorem ty62 : tyOk Try.prog 62 (⟨.ptr, 1, 8, [.pointer none]⟩) := ⟨⟨Try.t62, _, by kernel_rfl, rfl, rfl, rfl, rfl⟩, ⟨_, Try.underlying62⟩⟩
theorem ty63 : tyOk Try.prog 63 (⟨.fn, 1, 8, [.nilFunc]⟩) := ⟨⟨Try.t63, _, by kernel_rfl, rfl, rfl, rfl, rfl⟩, ⟨_, _, _, Try.underlying63⟩⟩
theorem ty64 : tyOk Try.prog 64 (⟨.fn, 1, 8, [.nilFunc]⟩) := ⟨⟨Try.t64, _, by kernel_rfl, rfl, rfl, rfl, rfl⟩, ⟨_, _, _, Try.underlying64⟩⟩
theorem ty65 : tyOk Try.prog 65 (⟨.st [(0, 17), (1, 17), (2, 17), (3, 9)], 4, 40, [.pointer none, .pointer none, .pointer none, .string ⟨#[]⟩]⟩) := ⟨⟨Try.t65, _, by kernel_rfl, rfl, rfl, rfl, rfl⟩, ⟨_, [(0, 1), (1, 1), (2, 1), (3, 1)], Try.underlying65, by kernel_rfl, by kernel_rfl⟩⟩
theorem ty66 : tyOk Try.prog 66 (⟨.st [(0, 17), (1, 17), (2, 17), (3, 9)], 4, 40, [.pointer none, .pointer none, .pointer none, .string ⟨#[]⟩]⟩) := ⟨⟨Try.t66, _, by kernel_rfl, rfl, rfl, rfl, rfl⟩, ⟨_, [(0, 1), (1, 1), (2, 1), (3, 1)], Try.underlying66, by kernel_rfl, by kernel_rfl⟩⟩
theorem ty67 : tyOk Try.prog 67 (⟨.arr 0 16, 0, 0, []⟩) := ⟨⟨Try.t67, _, by kernel_rfl, rfl, rfl, rfl, rfl⟩, Try.underlying67⟩
theorem ty68 : tyOk Try.prog 68 (⟨.st [(0, 67)], 0, 0, []⟩) := ⟨⟨Try.t68, _, by kernel_rfl, rfl, rfl, rfl, rfl⟩, ⟨_, [(0, 0)], Try.underlying68, by kernel_rfl, by kernel_rfl⟩⟩
theorem ty69 : tyOk Try.prog 69 (⟨.st [(0, 67)], 0, 0, []⟩) := ⟨⟨Try.t69, _, by kernel_rfl, rfl, rfl, rfl, rfl⟩, ⟨_, [(0, 0)], Try.underlying69, by kernel_rfl, by kernel_rfl⟩⟩
theorem ty70 : tyOk Try.prog 70 (⟨.fn, 1, 8, [.nilFunc]⟩) := ⟨⟨Try.t70, _, by kernel_rfl, rfl, rfl, rfl, rfl⟩, ⟨_, _, _, Try.underlying70⟩⟩
theorem ty71 : tyOk Try.prog 71 (⟨.int .u32, 1, 4, [.int .u32 0]⟩) := ⟨⟨Try.t71, _, by kernel_rfl, rfl, rfl, rfl, rfl⟩, Try.underlying71⟩
theorem ty72 : tyOk Try.prog 72 (⟨.int .u8, 1, 1, [.int .u8 0]⟩) := ⟨⟨Try.t72, _, by kernel_rfl, rfl, rfl, rfl, rfl⟩, Try.underlying72⟩
theorem ty73 : tyOk Try.prog 73 (⟨.int .u8, 1, 1, [.int .u8 0]⟩) := ⟨⟨Try.t73, _, by kernel_rfl, rfl, rfl, rfl, rfl⟩, Try.underlying73⟩
theorem ty74 : tyOk Try.prog 74 (⟨.fn, 1, 8, [.nilFunc]⟩) := ⟨⟨Try.t74, _, by kernel_rfl, rfl, rfl, rfl, rfl⟩, ⟨_, _, _, Try.underlying74⟩⟩
theorem ty75 : tyOk Try.prog 75 (⟨.ptr, 1, 8, [.pointer none]⟩) := ⟨⟨Try.t75, _, by kernel_rfl, rfl, rfl, rfl, rfl⟩, ⟨_, Try.underlying75⟩⟩
theorem ty76 : tyOk Try.prog 76 (⟨.int .i32, 1, 4, [.int .i32 0]⟩) := ⟨⟨Try.t76, _, by kernel_rfl, rfl, rfl, rfl, rfl⟩, Try.underlying76⟩
theorem ty77 : tyOk Try.prog 77 (⟨.int .i32, 1, 4, [.int .i32 0]⟩) := ⟨⟨Try.t77, _, by kernel_rfl, rfl, rfl, rfl, rfl⟩, Try.underlying77⟩
theorem ty78 : tyOk Try.prog 78 (⟨.st [(0, 12), (1, 12), (2, 71), (3, 72), (4, 5), (5, 5), (6, 73), (7, 74), (8, 75), (9, 76), (10, 77)], 11, 48, [.int .u64 0, .int .u64 0, .int .u32 0, .int .u8 0, .int .u8 0, .int .u8 0, .int .u8 0, .nilFunc, .pointer none, .int .i32 0, .int .i32 0]⟩) := ⟨⟨Try.t78, _, by kernel_rfl, rfl, rfl, rfl, rfl⟩, ⟨_, [(0, 1), (1, 1), (2, 1), (3, 1), (4, 1), (5, 1), (6, 1), (7, 1), (8, 1), (9, 1), (10, 1)], Try.underlying78, by kernel_rfl, by kernel_rfl⟩⟩
theorem ty79 : tyOk Try.prog 79 (⟨.st [(0, 12), (1, 12), (2, 71), (3, 72), (4, 5), (5, 5), (6, 73), (7, 74), (8, 75), (9, 76), (10, 77)], 11, 48, [.int .u64 0, .int .u64 0, .int .u32 0, .int .u8 0, .int .u8 0, .int .u8 0, .int .u8 0, .nilFunc, .pointer none, .int .i32 0, .int .i32 0]⟩) := ⟨⟨Try.t79, _, by kernel_rfl, rfl, rfl, rfl, rfl⟩, ⟨_, [(0, 1), (1, 1), (2, 1), (3, 1), (4, 1), (5, 1), (6, 1), (7, 1), (8, 1), (9, 1), (10, 1)], Try.underlying79, by kernel_rfl, by kernel_rfl⟩⟩
theorem ty80 : tyOk Try.prog 80 (⟨.other, 0, 0, []⟩) := rfl
theorem ttok : TTok Try.prog tt := fun t => match t with
  | 0 => ty0
  | 1 => ty1
  | 2 => ty2
  | 3 => ty3
  | 4 => ty4
  | 5 => ty5
  | 6 => ty6
  | 7 => ty7
  | 8 => ty8
  | 9 => ty9
  | 10 => ty10
  | 11 => ty11
  | 12 => ty12
  | 13 => ty13
  | 14 => ty14
  | 15 => ty15
  | 16 => ty16
  | 17 => ty17
  | 18 => ty18
  | 19 => ty19
  | 20 => ty20
  | 21 => ty21
  | 22 => ty22
  | 23 => ty23
  | 24 => ty24
  | 25 => ty25
  | 26 => ty26
  | 27 => ty27
  | 28 => ty28
  | 29 => ty29
  | 30 => ty30
  | 31 => ty31
  | 32 => ty32
  | 33 => ty33
  | 34 => ty34
  | 35 => ty35
  | 36 => ty36
  | 37 => ty37
  | 38 => ty38
  | 39 => ty39
  | 40 => ty40
  | 41 => ty41
  | 42 => ty42
  | 43 => ty43
  | 44 => ty44
  | 45 => ty45
  | 46 => ty46
  | 47 => ty47
  | 48 => ty48
  | 49 => ty49
  | 50 => ty50
  | 51 => ty51
  | 52 => ty52
  | 53 => ty53
  | 54 => ty54
  | 55 => ty55
  | 56 => ty56
  | 57 => ty57
  | 58 => ty58
  | 59 => ty59
  | 60 => ty60
  | 61 => ty61
  | 62 => ty62
  | 63 => ty63
  | 64 => ty64
  | 65 => ty65
  | 66 => ty66
  | 67 => ty67
  | 68 => ty68
  | 69 => ty69
  | 70 => ty70
  | 71 => ty71
  | 72 => ty72
  | 73 => ty73
  | 74 => ty74
  | 75 => ty75
  | 76 => ty76
  | 77 => ty77
  | 78 => ty78
  | 79 => ty79
  | 80 => ty80
  | _ + 81 => rfl

noncomputable def cf : Cfg := { P := Try.prog, tt := tt, fns := [3, 4, 5, 6, 7, 8, 9, 10, 11, 12, 13, 14, 15, 16, 17, 18, 19, 20, 21, 22, 23, 24, 25, 26, 27, 28, 29] }

theorem cfok : CfgOk cf where
  mix := by kernel_rfl
  tt := ttok
  fns := List.forall_mem_cons.2 ⟨Try.call3, List.forall_mem_cons.2 ⟨Try.call4, List.forall_mem_cons.2 ⟨Try.call5, List.forall_mem_cons.2 ⟨Try.call6, List.forall_mem_cons.2 ⟨Try.call7, List.forall_mem_cons.2 ⟨Try.call8, List.forall_mem_cons.2 ⟨Try.call9, List.forall_mem_cons.2 ⟨Try.call10, List.forall_mem_cons.2 ⟨Try.call11, List.forall_mem_cons.2 ⟨Try.call12, List.forall_mem_cons.2 ⟨Try.call13, List.forall_mem_cons.2 ⟨Try.call14, List.forall_mem_cons.2 ⟨Try.call15, List.forall_mem_cons.2 ⟨Try.call16, List.forall_mem_cons.2 ⟨Try.call17, List.forall_mem_cons.2 ⟨Try.call18, List.forall_mem_cons.2 ⟨Try.call19, List.forall_mem_cons.2 ⟨Try.call20, List.forall_mem_cons.2 ⟨Try.call21, List.forall_mem_cons.2 ⟨Try.call22, List.forall_mem_cons.2 ⟨Try.call23, List.forall_mem_cons.2 ⟨Try.call24, List.forall_mem_cons.2 ⟨Try.call25, List.forall_mem_cons.2 ⟨Try.call26, List.forall_mem_cons.2 ⟨Try.call27, List.forall_mem_cons.2 ⟨Try.call28, List.forall_mem_cons.2 ⟨Try.call29, List.forall_mem_nil _⟩⟩⟩⟩⟩⟩⟩⟩⟩⟩⟩⟩⟩⟩⟩⟩⟩⟩⟩⟩⟩⟩⟩⟩⟩⟩⟩

/-
  0: main.main
  1: gosem.cut
  2: gosem.cut.init
  3: calamus/calamuslaw22.PageFills
  4: calamus/calamuslaw22.PageWidths
  5: calamus/calamuslaw22.PageJoins
  6: calamus/calamuslaw22.PageKnown
  7: calamus/calamuslaw22.many
  8: calamus/calamuslaw22.works
  9: calamus/page.Place
  10: calamus/calamuslaw22.follows
  11: calamus/page.Widths
  12: calamus/calamusref22.Widths
  13: calamus/calamuslaw22.plain
  14: calamus/calamuslaw22.spot
  15: calamus/calamuslaw22.goes
  16: calamus/calamuslaw22.two
  17: calamus/calamuslaw22.PagePlaces
  18: calamus/page.Right
  19: calamus/page.in
  20: (*calamus/page.filler).top
  21: (*calamus/page.filler).line
  22: calamus/calamusref22.Right
  23: calamus/calamusref22.in
  24: calamus/calamusref22.Next
  25: calamus/calamusref22.Place
  26: slices.ContainsFunc[[]calamus/page.Frame,calamus/page.Frame]
  27: calamus/page.Right$1
  28: (calamus/page.Frame).right
  29: slices.IndexFunc[[]calamus/page.Frame,calamus/page.Frame]
  30: (runtime.boundsError).Error
  31: (runtime.boundsError).RuntimeError
  32: (runtime.errorString).Error
  33: (runtime.errorString).RuntimeError
  34: (runtime.plainError).Error
  35: (runtime.plainError).RuntimeError
  36: (runtime.errorAddressString).Error
  37: (runtime.errorAddressString).RuntimeError
  38: (*runtime.TypeAssertionError).Error
  39: (*runtime.TypeAssertionError).RuntimeError
  40: (*runtime.PanicNilError).Error
  41: (*runtime.PanicNilError).RuntimeError
  42: (*internal/abi.Type).Align
  43: (internal/runtime/maps.unhashableTypeError).Error
  44: (internal/runtime/maps.unhashableTypeError).RuntimeError
  45: (calamus/api.Errno).Error
  46: (internal/abi.Kind).String
-/
end Go.Proofs.Ytllbgbaahggapaa
