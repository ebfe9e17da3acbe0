import Derived.Test.YtcpaaekghajalaaEng
import Derived.Test.YtcpaaekghajalaaProg
namespace Go.Proofs.Ytcpaaekghajalaa
open Go Go.Eng

def tt : TT := [
  ⟨.other, 0, 0, []⟩,
  ⟨.fn, 1, 8, [.nilFunc]⟩,
  ⟨.int .i64, 1, 8, [.int .i64 0]⟩,
  ⟨.int .i64, 1, 8, [.int .i64 0]⟩,
  ⟨.bool, 1, 1, [.bool false]⟩,
  ⟨.int .u8, 1, 1, [.int .u8 0]⟩,
  ⟨.int .u8, 1, 1, [.int .u8 0]⟩,
  ⟨.st [(0, 2), (1, 3), (2, 4), (3, 6)], 4, 24, [.int .i64 0, .int .i64 0, .bool false, .int .u8 0]⟩,
  ⟨.st [(0, 2), (1, 3), (2, 4), (3, 6)], 4, 24, [.int .i64 0, .int .i64 0, .bool false, .int .u8 0]⟩,
  ⟨.str, 1, 16, [.string ⟨#[]⟩]⟩,
  ⟨.str, 1, 16, [.string ⟨#[]⟩]⟩,
  ⟨.str, 1, 16, [.string ⟨#[]⟩]⟩,
  ⟨.int .u64, 1, 8, [.int .u64 0]⟩,
  ⟨.st [(0, 9), (1, 12)], 2, 24, [.string ⟨#[]⟩, .int .u64 0]⟩,
  ⟨.st [(0, 9), (1, 12)], 2, 24, [.string ⟨#[]⟩, .int .u64 0]⟩,
  ⟨.ptr, 1, 8, [.pointer none]⟩,
  ⟨.ptr, 1, 8, [.pointer none]⟩,
  ⟨.ptr, 1, 8, [.pointer none]⟩,
  ⟨.st [(0, 17)], 1, 8, [.pointer none]⟩,
  ⟨.st [(0, 17)], 1, 8, [.pointer none]⟩,
  ⟨.other, 0, 0, []⟩,
  ⟨.int .i32, 1, 4, [.int .i32 0]⟩,
  ⟨.sl 23, 1, 24, [.slice none 0 0]⟩,
  ⟨.int .u8, 1, 1, [.int .u8 0]⟩,
  ⟨.fn, 1, 8, [.nilFunc]⟩,
  ⟨.fn, 1, 8, [.nilFunc]⟩,
  ⟨.fn, 1, 8, [.nilFunc]⟩,
  ⟨.fn, 1, 8, [.nilFunc]⟩,
  ⟨.fn, 1, 8, [.nilFunc]⟩,
  ⟨.sl 5, 1, 24, [.slice none 0 0]⟩,
  ⟨.fn, 1, 8, [.nilFunc]⟩,
  ⟨.fn, 1, 8, [.nilFunc]⟩,
  ⟨.fn, 1, 8, [.nilFunc]⟩,
  ⟨.sl 34, 1, 24, [.slice none 0 0]⟩,
  ⟨.int .u16, 1, 2, [.int .u16 0]⟩,
  ⟨.fn, 1, 8, [.nilFunc]⟩,
  ⟨.fn, 1, 8, [.nilFunc]⟩,
  ⟨.fn, 1, 8, [.nilFunc]⟩,
  ⟨.fn, 1, 8, [.nilFunc]⟩,
  ⟨.fn, 1, 8, [.nilFunc]⟩,
  ⟨.fn, 1, 8, [.nilFunc]⟩,
  ⟨.fn, 1, 8, [.nilFunc]⟩,
  ⟨.fn, 1, 8, [.nilFunc]⟩,
  ⟨.fn, 1, 8, [.nilFunc]⟩,
  ⟨.fn, 1, 8, [.nilFunc]⟩,
  ⟨.arr 2 23, 2, 2, [.int .u8 0, .int .u8 0]⟩,
  ⟨.arr 2 5, 2, 2, [.int .u8 0, .int .u8 0]⟩,
  ⟨.fn, 1, 8, [.nilFunc]⟩,
  ⟨.ptr, 1, 8, [.pointer none]⟩,
  ⟨.sl 3, 1, 24, [.slice none 0 0]⟩,
  ⟨.st [(0, 22), (1, 49), (2, 23), (3, 23)], 4, 56, [.slice none 0 0, .slice none 0 0, .int .u8 0, .int .u8 0]⟩,
  ⟨.st [(0, 22), (1, 49), (2, 23), (3, 23)], 4, 56, [.slice none 0 0, .slice none 0 0, .int .u8 0, .int .u8 0]⟩,
  ⟨.fn, 1, 8, [.nilFunc]⟩,
  ⟨.fn, 1, 8, [.nilFunc]⟩,
  ⟨.fn, 1, 8, [.nilFunc]⟩,
  ⟨.fn, 1, 8, [.nilFunc]⟩,
  ⟨.fn, 1, 8, [.nilFunc]⟩,
  ⟨.fn, 1, 8, [.nilFunc]⟩,
  ⟨.fn, 1, 8, [.nilFunc]⟩,
  ⟨.st [(0, 17), (1, 17), (2, 17), (3, 9)], 4, 40, [.pointer none, .pointer none, .pointer none, .string ⟨#[]⟩]⟩,
  ⟨.st [(0, 17), (1, 17), (2, 17), (3, 9)], 4, 40, [.pointer none, .pointer none, .pointer none, .string ⟨#[]⟩]⟩,
  ⟨.arr 0 16, 0, 0, []⟩,
  ⟨.st [(0, 61)], 0, 0, []⟩,
  ⟨.st [(0, 61)], 0, 0, []⟩,
  ⟨.fn, 1, 8, [.nilFunc]⟩,
  ⟨.int .u32, 1, 4, [.int .u32 0]⟩,
  ⟨.int .u8, 1, 1, [.int .u8 0]⟩,
  ⟨.int .u8, 1, 1, [.int .u8 0]⟩,
  ⟨.fn, 1, 8, [.nilFunc]⟩,
  ⟨.ptr, 1, 8, [.pointer none]⟩,
  ⟨.int .i32, 1, 4, [.int .i32 0]⟩,
  ⟨.int .i32, 1, 4, [.int .i32 0]⟩,
  ⟨.st [(0, 12), (1, 12), (2, 65), (3, 66), (4, 5), (5, 5), (6, 67), (7, 68), (8, 69), (9, 70), (10, 71)], 11, 48, [.int .u64 0, .int .u64 0, .int .u32 0, .int .u8 0, .int .u8 0, .int .u8 0, .int .u8 0, .nilFunc, .pointer none, .int .i32 0, .int .i32 0]⟩,
  ⟨.st [(0, 12), (1, 12), (2, 65), (3, 66), (4, 5), (5, 5), (6, 67), (7, 68), (8, 69), (9, 70), (10, 71)], 11, 48, [.int .u64 0, .int .u64 0, .int .u32 0, .int .u8 0, .int .u8 0, .int .u8 0, .int .u8 0, .nilFunc, .pointer none, .int .i32 0, .int .i32 0]⟩,
  ⟨.other, 0, 0, []⟩]

theorem ty0 : tyOk Try.prog 0 (⟨.other, 0, 0, []⟩) := rfl
theorem ty1 : tyOk Try.prog 1 (⟨.fn, 1, 8, [.nilFunc]⟩) := ⟨⟨Try.t1, _, by kernel_rfl, rfl, rfl, rfl, rfl⟩, ⟨_, _, _, Try.underlying1⟩⟩
theorem ty2 : tyOk Try.prog 2 (⟨.int .i64, 1, 8, [.int .i64 0]⟩) := ⟨⟨Try.t2, _, by kernel_rfl, rfl, rfl, rfl, rfl⟩, Try.underlying2⟩
theorem ty3 : tyOk Try.prog 3 (⟨.int .i64, 1, 8, [.int .i64 0]⟩) := ⟨⟨Try.t3, _, by kernel_rfl, rfl, rfl, rfl, rfl⟩, Try.underlying3⟩
theorem ty4 : tyOk Try.prog 4 (⟨.bool, 1, 1, [.bool false]⟩) := ⟨⟨Try.t4, _, by kernel_rfl, rfl, rfl, rfl, rfl⟩, Try.underlying4⟩
theorem ty5 : tyOk Try.prog 5 (⟨.int .u8, 1, 1, [.int .u8 0]⟩) := ⟨⟨Try.t5, _, by kernel_rfl, rfl, rfl, rfl, rfl⟩, Try.underlying5⟩
theorem ty6 : tyOk Try.prog 6 (⟨.int .u8, 1, 1, [.int .u8 0]⟩) := ⟨⟨Try.t6, _, by kernel_rfl, rfl, rfl, rfl, rfl⟩, Try.underlying6⟩
theorem ty7 : tyOk Try.prog 7 (⟨.st [(0, 2), (1, 3), (2, 4), (3, 6)], 4, 24, [.int .i64 0, .int .i64 0, .bool false, .int .u8 0]⟩) := ⟨⟨Try.t7, _, by kernel_rfl, rfl, rfl, rfl, rfl⟩, ⟨_, [(0, 1), (1, 1), (2, 1), (3, 1)], Try.underlying7, by kernel_rfl, by kernel_rfl⟩⟩
theorem ty8 : tyOk Try.prog 8 (⟨.st [(0, 2), (1, 3), (2, 4), (3, 6)], 4, 24, [.int .i64 0, .int .i64 0, .bool false, .int .u8 0]⟩) := ⟨⟨Try.t8, _, by kernel_rfl, rfl, rfl, rfl, rfl⟩, ⟨_, [(0, 1), (1, 1), (2, 1), (3, 1)], Try.underlying8, by kernel_rfl, by kernel_rfl⟩⟩
theorem ty9 : tyOk Try.prog 9 (⟨.str, 1, 16, [.string ⟨#[]⟩]⟩) := ⟨⟨Try.t9, _, by kernel_rfl, rfl, rfl, rfl, rfl⟩, Try.underlying9⟩
theorem ty10 : tyOk Try.prog 10 (⟨.str, 1, 16, [.string ⟨#[]⟩]⟩) := ⟨⟨Try.t10, _, by kernel_rfl, rfl, rfl, rfl, rfl⟩, Try.underlying10⟩
theorem ty11 : tyOk Try.prog 11 (⟨.str, 1, 16, [.string ⟨#[]⟩]⟩) := ⟨⟨Try.t11, _, by kernel_rfl, rfl, rfl, rfl, rfl⟩, Try.underlying11⟩
theorem ty12 : tyOk Try.prog 12 (⟨.int .u64, 1, 8, [.int .u64 0]⟩) := ⟨⟨Try.t12, _, by kernel_rfl, rfl, rfl, rfl, rfl⟩, Try.underlying12⟩
theorem ty13 : tyOk Try.prog 13 (⟨.st [(0, 9), (1, 12)], 2, 24, [.string ⟨#[]⟩, .int .u64 0]⟩) := ⟨⟨Try.t13, _, by kernel_rfl, rfl, rfl, rfl, rfl⟩, ⟨_, [(0, 1), (1, 1)], Try.underlying13, by kernel_rfl, by kernel_rfl⟩⟩
theorem ty14 : tyOk Try.prog 14 (⟨.st [(0, 9), (1, 12)], 2, 24, [.string ⟨#[]⟩, .int .u64 0]⟩) := ⟨⟨Try.t14, _, by kernel_rfl, rfl, rfl, rfl, rfl⟩, ⟨_, [(0, 1), (1, 1)], Try.underlying14, by kernel_rfl, by kernel_rfl⟩⟩
theorem ty15 : tyOk Try.prog 15 (⟨.ptr, 1, 8, [.pointer none]⟩) := ⟨⟨Try.t15, _, by kernel_rfl, rfl, rfl, rfl, rfl⟩, ⟨_, Try.underlying15⟩⟩
theorem ty16 : tyOk Try.prog 16 (⟨.ptr, 1, 8, [.pointer none]⟩) := ⟨⟨Try.t16, _, by kernel_rfl, rfl, rfl, rfl, rfl⟩, ⟨_, Try.underlying16⟩⟩
theorem ty17 : tyOk Try.prog 17 (⟨.ptr, 1, 8, [.pointer none]⟩) := ⟨⟨Try.t17, _, by kernel_rfl, rfl, rfl, rfl, rfl⟩, ⟨_, Try.underlying17⟩⟩
theorem ty18 : tyOk Try.prog 18 (⟨.st [(0, 17)], 1, 8, [.pointer none]⟩) := ⟨⟨Try.t18, _, by kernel_rfl, rfl, rfl, rfl, rfl⟩, ⟨_, [(0, 1)], Try.underlying18, by kernel_rfl, by kernel_rfl⟩⟩
theorem ty19 : tyOk Try.prog 19 (⟨.st [(0, 17)], 1, 8, [.pointer none]⟩) := ⟨⟨Try.t19, _, by kernel_rfl, rfl, rfl, rfl, rfl⟩, ⟨_, [(0, 1)], Try.underlying19, by kernel_rfl, by kernel_rfl⟩⟩
theorem ty20 : tyOk Try.prog 20 (⟨.other, 0, 0, []⟩) := rfl
theorem ty21 : tyOk Try.prog 21 (⟨.int .i32, 1, 4, [.int .i32 0]⟩) := ⟨⟨Try.t21, _, by kernel_rfl, rfl, rfl, rfl, rfl⟩, Try.underlying21⟩
theorem ty22 : tyOk Try.prog 22 (⟨.sl 23, 1, 24, [.slice none 0 0]⟩) := ⟨⟨Try.t22, _, by kernel_rfl, rfl, rfl, rfl, rfl⟩, Try.underlying22⟩
theorem ty23 : tyOk Try.prog 23 (⟨.int .u8, 1, 1, [.int .u8 0]⟩) := ⟨⟨Try.t23, _, by kernel_rfl, rfl, rfl, rfl, rfl⟩, Try.underlying23⟩
theorem ty24 : tyOk Try.prog 24 (⟨.fn, 1, 8, [.nilFunc]⟩) := ⟨⟨Try.t24, _, by kernel_rfl, rfl, rfl, rfl, rfl⟩, ⟨_, _, _, Try.underlying24⟩⟩
theorem ty25 : tyOk Try.prog 25 (⟨.fn, 1, 8, [.nilFunc]⟩) := ⟨⟨Try.t25, _, by kernel_rfl, rfl, rfl, rfl, rfl⟩, ⟨_, _, _, Try.underlying25⟩⟩
theorem ty26 : tyOk Try.prog 26 (⟨.fn, 1, 8, [.nilFunc]⟩) := ⟨⟨Try.t26, _, by kernel_rfl, rfl, rfl, rfl, rfl⟩, ⟨_, _, _, Try.underlying26⟩⟩
theorem ty27 : tyOk Try.prog 27 (⟨.fn, 1, 8, [.nilFunc]⟩) := ⟨⟨Try.t27, _, by kernel_rfl, rfl, rfl, rfl, rfl⟩, ⟨_, _, _, Try.underlying27⟩⟩
theorem ty28 : tyOk Try.prog 28 (⟨.fn, 1, 8, [.nilFunc]⟩) := ⟨⟨Try.t28, _, by kernel_rfl, rfl, rfl, rfl, rfl⟩, ⟨_, _, _, Try.underlying28⟩⟩
theorem ty29 : tyOk Try.prog 29 (⟨.sl 5, 1, 24, [.slice none 0 0]⟩) := ⟨⟨Try.t29, _, by kernel_rfl, rfl, rfl, rfl, rfl⟩, Try.underlying29⟩
theorem ty30 : tyOk Try.prog 30 (⟨.fn, 1, 8, [.nilFunc]⟩) := ⟨⟨Try.t30, _, by kernel_rfl, rfl, rfl, rfl, rfl⟩, ⟨_, _, _, Try.underlying30⟩⟩
theorem ty31 : tyOk Try.prog 31 (⟨.fn, 1, 8, [.nilFunc]⟩) := ⟨⟨Try.t31, _, by kernel_rfl, rfl, rfl, rfl, rfl⟩, ⟨_, _, _, Try.underlying31⟩⟩
theorem ty32 : tyOk Try.prog 32 (⟨.fn, 1, 8, [.nilFunc]⟩) := ⟨⟨Try.t32, _, by kernel_rfl, rfl, rfl, rfl, rfl⟩, ⟨_, _, _, Try.underlying32⟩⟩
theorem ty33 : tyOk Try.prog 33 (⟨.sl 34, 1, 24, [.slice none 0 0]⟩) := ⟨⟨Try.t33, _, by kernel_rfl, rfl, rfl, rfl, rfl⟩, Try.underlying33⟩
theorem ty34 : tyOk Try.prog 34 (⟨.int .u16, 1, 2, [.int .u16 0]⟩) := ⟨⟨Try.t34, _, by kernel_rfl, rfl, rfl, rfl, rfl⟩, Try.underlying34⟩
theorem ty35 : tyOk Try.prog 35 (⟨.fn, 1, 8, [.nilFunc]⟩) := ⟨⟨Try.t35, _, by kernel_rfl, rfl, rfl, rfl, rfl⟩, ⟨_, _, _, Try.underlying35⟩⟩
theorem ty36 : tyOk Try.prog 36 (⟨.fn, 1, 8, [.nilFunc]⟩) := ⟨⟨Try.t36, _, by kernel_rfl, rfl, rfl, rfl, rfl⟩, ⟨_, _, _, Try.underlying36⟩⟩
theorem ty37 : tyOk Try.prog 37 (⟨.fn, 1, 8, [.nilFunc]⟩) := ⟨⟨Try.t37, _, by kernel_rfl, rfl, rfl, rfl, rfl⟩, ⟨_, _, _, Try.underlying37⟩⟩
theorem ty38 : tyOk Try.prog 38 (⟨.fn, 1, 8, [.nilFunc]⟩) := ⟨⟨Try.t38, _, by kernel_rfl, rfl, rfl, rfl, rfl⟩, ⟨_, _, _, Try.underlying38⟩⟩
theorem ty39 : tyOk Try.prog 39 (⟨.fn, 1, 8, [.nilFunc]⟩) := ⟨⟨Try.t39, _, by kernel_rfl, rfl, rfl, rfl, rfl⟩, ⟨_, _, _, Try.underlying39⟩⟩
theorem ty40 : tyOk Try.prog 40 (⟨.fn, 1, 8, [.nilFunc]⟩) := ⟨⟨Try.t40, _, by kernel_rfl, rfl, rfl, rfl, rfl⟩, ⟨_, _, _, Try.underlying40⟩⟩
theorem ty41 : tyOk Try.prog 41 (⟨.fn, 1, 8, [.nilFunc]⟩) := ⟨⟨Try.t41, _, by kernel_rfl, rfl, rfl, rfl, rfl⟩, ⟨_, _, _, Try.underlying41⟩⟩
theorem ty42 : tyOk Try.prog 42 (⟨.fn, 1, 8, [.nilFunc]⟩) := ⟨⟨Try.t42, _, by kernel_rfl, rfl, rfl, rfl, rfl⟩, ⟨_, _, _, Try.underlying42⟩⟩
theorem ty43 : tyOk Try.prog 43 (⟨.fn, 1, 8, [.nilFunc]⟩) := ⟨⟨Try.t43, _, by kernel_rfl, rfl, rfl, rfl, rfl⟩, ⟨_, _, _, Try.underlying43⟩⟩
theorem ty44 : tyOk Try.prog 44 (⟨.fn, 1, 8, [.nilFunc]⟩) := ⟨⟨Try.t44, _, by kernel_rfl, rfl, rfl, rfl, rfl⟩, ⟨_, _, _, Try.underlying44⟩⟩
theorem ty45 : tyOk Try.prog 45 (⟨.arr 2 23, 2, 2, [.int .u8 0, .int .u8 0]⟩) := ⟨⟨Try.t45, _, by kernel_rfl, rfl, rfl, rfl, rfl⟩, Try.underlying45⟩
theorem ty46 : tyOk Try.prog 46 (⟨.arr 2 5, 2, 2, [.int .u8 0, .int .u8 0]⟩) := ⟨⟨Try.t46, _, by kernel_rfl, rfl, rfl, rfl, rfl⟩, Try.underlying46⟩
theorem ty47 : tyOk Try.prog 47 (⟨.fn, 1, 8, [.nilFunc]⟩) := ⟨⟨Try.t47, _, by kernel_rfl, rfl, rfl, rfl, rfl⟩, ⟨_, _, _, Try.underlying47⟩⟩
theorem ty48 : tyOk Try.prog 48 (⟨.ptr, 1, 8, [.pointer none]⟩) := ⟨⟨Try.t48, _, by kernel_rfl, rfl, rfl, rfl, rfl⟩, ⟨_, Try.underlying48⟩⟩
theorem ty49 : tyOk Try.prog 49 (⟨.sl 3, 1, 24, [.slice none 0 0]⟩) := ⟨⟨Try.t49, _, by kernel_rfl, rfl, rfl, rfl, rfl⟩, Try.underlying49⟩
theorem ty50 : tyOk Try.prog 50 (⟨.st [(0, 22), (1, 49), (2, 23), (3, 23)], 4, 56, [.slice none 0 0, .slice none 0 0, .int .u8 0, .int .u8 0]⟩) := ⟨⟨Try.t50, _, by kernel_rfl, rfl, rfl, rfl, rfl⟩, ⟨_, [(0, 1), (1, 1), (2, 1), (3, 1)], Try.underlying50, by kernel_rfl, by kernel_rfl⟩⟩
theorem ty51 : tyOk Try.prog 51 (⟨.st [(0, 22), (1, 49), (2, 23), (3, 23)], 4, 56, [.slice none 0 0, .slice none 0 0, .int .u8 0, .int .u8 0]⟩) := ⟨⟨Try.t51, _, by kernel_rfl, rfl, rfl, rfl, rfl⟩, ⟨_, [(0, 1), (1, 1), (2, 1), (3, 1)], Try.underlying51, by kernel_rfl, by kernel_rfl⟩⟩
theorem ty52 : tyOk Try.prog 52 (⟨.fn, 1, 8, [.nilFunc]⟩) := ⟨⟨Try.t52, _, by kernel_rfl, rfl, rfl, rfl, rfl⟩, ⟨_, _, _, Try.underlying52⟩⟩
theorem ty53 : tyOk Try.prog 53 (⟨.fn, 1, 8, [.nilFunc]⟩) := ⟨⟨Try.t53, _, by kernel_rfl, rfl, rfl, rfl, rfl⟩, ⟨_, _, _, Try.underlying53⟩⟩
theorem ty54 : tyOk Try.prog 54 (⟨.fn, 1, 8, [.nilFunc]⟩) := ⟨⟨Try.t54, _, by kernel_rfl, rfl, rfl, rfl, rfl⟩, ⟨_, _, _, Try.underlying54⟩⟩
theorem ty55 : tyOk Try.prog 55 (⟨.fn, 1, 8, [.nilFunc]⟩) := ⟨⟨Try.t55, _, by kernel_rfl, rfl, rfl, rfl, rfl⟩, ⟨_, _, _, Try.underlying55⟩⟩
theorem ty56 : tyOk Try.prog 56 (⟨.fn, 1, 8, [.nilFunc]⟩) := ⟨⟨Try.t56, _, by kernel_rfl, rfl, rfl, rfl, rfl⟩, ⟨_, _, _, Try.underlying56⟩⟩
theorem ty57 : tyOk Try.prog 57 (⟨.fn, 1, 8, [.nilFunc]⟩) := ⟨⟨Try.t57, _, by kernel_rfl, rfl, rfl, rfl, rfl⟩, ⟨_, _, _, Try.underlying57⟩⟩
theorem ty58 : tyOk Try.prog 58 (⟨.fn, 1, 8, [.nilFunc]⟩) := ⟨⟨Try.t58, _, by kernel_rfl, rfl, rfl, rfl, rfl⟩, ⟨_, _, _, Try.underlying58⟩⟩
theorem ty59 : tyOk Try.prog 59 (⟨.st [(0, 17), (1, 17), (2, 17), (3, 9)], 4, 40, [.pointer none, .pointer none, .pointer none, .string ⟨#[]⟩]⟩) := ⟨⟨Try.t59, _, by kernel_rfl, rfl, rfl, rfl, rfl⟩, ⟨_, [(0, 1), (1, 1), (2, 1), (3, 1)], Try.underlying59, by kernel_rfl, by kernel_rfl⟩⟩
theorem ty60 : tyOk Try.prog 60 (⟨.st [(0, 17), (1, 17), (2, 17), (3, 9)], 4, 40, [.pointer none, .pointer none, .pointer none, .string ⟨#[]⟩]⟩) := ⟨⟨Try.t60, _, by kernel_rfl, rfl, rfl, rfl, rfl⟩, ⟨_, [(0, 1), (1, 1), (2, 1), (3, 1)], Try.underlying60, by kernel_rfl, by kernel_rfl⟩⟩
theorem ty61 : tyOk Try.prog 61 (⟨.arr 0 16, 0, 0, []⟩) := ⟨⟨Try.t61, _, by kernel_rfl, rfl, rfl, rfl, rfl⟩, Try.underlying61⟩
theorem ty62 : tyOk Try.prog 62 (⟨.st [(0, 61)], 0, 0, []⟩) := ⟨⟨Try.t62, _, by kernel_rfl, rfl, rfl, rfl, rfl⟩, ⟨_, [(0, 0)], Try.underlying62, by kernel_rfl, by kernel_rfl⟩⟩
theorem ty63 : tyOk Try.prog 63 (⟨.st [(0, 61)], 0, 0, []⟩) := ⟨⟨Try.t63, _, by kernel_rfl, rfl, rfl, rfl, rfl⟩, ⟨_, [(0, 0)], Try.underlying63, by kernel_rfl, by kernel_rfl⟩⟩
theorem ty64 : tyOk Try.prog 64 (⟨.fn, 1, 8, [.nilFunc]⟩) := ⟨⟨Try.t64, _, by kernel_rfl, rfl, rfl, rfl, rfl⟩, ⟨_, _, _, Try.underlying64⟩⟩
theorem ty65 : tyOk Try.prog 65 (⟨.int .u32, 1, 4, [.int .u32 0]⟩) := ⟨⟨Try.t65, _, by kernel_rfl, rfl, rfl, rfl, rfl⟩, Try.underlying65⟩
theorem ty66 : tyOk Try.prog 66 (⟨.int .u8, 1, 1, [.int .u8 0]⟩) := ⟨⟨Try.t66, _, by kernel_rfl, rfl, rfl, rfl, rfl⟩, Try.underlying66⟩
theorem ty67 : tyOk Try.prog 67 (⟨.int .u8, 1, 1, [.int .u8 0]⟩) := ⟨⟨Try.t67, _, by kernel_rfl, rfl, rfl, rfl, rfl⟩, Try.underlying67⟩
theorem ty68 : tyOk Try.prog 68 (⟨.fn, 1, 8, [.nilFunc]⟩) := ⟨⟨Try.t68, _, by kernel_rfl, rfl, rfl, rfl, rfl⟩, ⟨_, _, _, Try.underlying68⟩⟩
theorem ty69 : tyOk Try.prog 69 (⟨.ptr, 1, 8, [.pointer none]⟩) := ⟨⟨Try.t69, _, by kernel_rfl, rfl, rfl, rfl, rfl⟩, ⟨_, Try.underlying69⟩⟩
theorem ty70 : tyOk Try.prog 70 (⟨.int .i32, 1, 4, [.int .i32 0]⟩) := ⟨⟨Try.t70, _, by kernel_rfl, rfl, rfl, rfl, rfl⟩, Try.underlying70⟩
theorem ty71 : tyOk Try.prog 71 (⟨.int .i32, 1, 4, [.int .i32 0]⟩) := ⟨⟨Try.t71, _, by kernel_rfl, rfl, rfl, rfl, rfl⟩, Try.underlying71⟩
theorem ty72 : tyOk Try.prog 72 (⟨.st [(0, 12), (1, 12), (2, 65), (3, 66), (4, 5), (5, 5), (6, 67), (7, 68), (8, 69), (9, 70), (10, 71)], 11, 48, [.int .u64 0, .int .u64 0, .int .u32 0, .int .u8 0, .int .u8 0, .int .u8 0, .int .u8 0, .nilFunc, .pointer none, .int .i32 0, .int .i32 0]⟩) := ⟨⟨Try.t72, _, by kernel_rfl, rfl, rfl, rfl, rfl⟩, ⟨_, [(0, 1), (1, 1), (2, 1), (3, 1), (4, 1), (5, 1), (6, 1), (7, 1), (8, 1), (9, 1), (10, 1)], Try.underlying72, by kernel_rfl, by kernel_rfl⟩⟩
theorem ty73 : tyOk Try.prog 73 (⟨.st [(0, 12), (1, 12), (2, 65), (3, 66), (4, 5), (5, 5), (6, 67), (7, 68), (8, 69), (9, 70), (10, 71)], 11, 48, [.int .u64 0, .int .u64 0, .int .u32 0, .int .u8 0, .int .u8 0, .int .u8 0, .int .u8 0, .nilFunc, .pointer none, .int .i32 0, .int .i32 0]⟩) := ⟨⟨Try.t73, _, by kernel_rfl, rfl, rfl, rfl, rfl⟩, ⟨_, [(0, 1), (1, 1), (2, 1), (3, 1), (4, 1), (5, 1), (6, 1), (7, 1), (8, 1), (9, 1), (10, 1)], Try.underlying73, by kernel_rfl, by kernel_rfl⟩⟩
theorem ty74 : tyOk Try.prog 74 (⟨.other, 0, 0, []⟩) := rfl
theorem ttok : TTok Try.prog tt := fun t => match t with
  | 0 => ty0
  | 1 => ty1
  | 2 => ty2
  | 3 => ty3
  | 4 => ty4
  | 5 => ty5
  | 6 => ty6
  | 7 => ty7
  | 8 => ty8
  | 9 => ty9
  | 10 => ty10
  | 11 => ty11
  | 12 => ty12
  | 13 => ty13
  | 14 => ty14
  | 15 => ty15
  | 16 => ty16
  | 17 => ty17
  | 18 => ty18
  | 19 => ty19
  | 20 => ty20
  | 21 => ty21
  | 22 => ty22
  | 23 => ty23
  | 24 => ty24
  | 25 => ty25
  | 26 => ty26
  | 27 => ty27
  | 28 => ty28
  | 29 => ty29
  | 30 => ty30
  | 31 => ty31
  | 32 => ty32
  | 33 => ty33
  | 34 => ty34
  | 35 => ty35
  | 36 => ty36
  | 37 => ty37
  | 38 => ty38
  | 39 => ty39
  | 40 => ty40
  | 41 => ty41
  | 42 => ty42
  | 43 => ty43
  | 44 => ty44
  | 45 => ty45
  | 46 => ty46
  | 47 => ty47
  | 48 => ty48
  | 49 => ty49
  | 50 => ty50
  | 51 => ty51
  | 52 => ty52
  | 53 => ty53
  | 54 => ty54
  | 55 => ty55
  | 56 => ty56
  | 57 => ty57
  | 58 => ty58
  | 59 => ty59
  | 60 => ty60
  | 61 => ty61
  | 62 => ty62
  | 63 => ty63
  | 64 => ty64
  | 65 => ty65
  | 66 => ty66
  | 67 => ty67
  | 68 => ty68
  | 69 => ty69
  | 70 => ty70
  | 71 => ty71
  | 72 => ty72
  | 73 => ty73
  | 74 => ty74
  | _ + 75 => rfl

noncomputable def cf : Cfg := { P := Try.prog, tt := tt, fns := [3, 4, 5, 6, 7, 8, 9, 10, 11, 12, 13, 14, 15, 16, 17, 18, 19, 20, 21, 22, 23, 24, 25, 26, 27, 28, 29, 30, 31, 32, 33, 34, 35, 36, 37, 38, 39, 40, 41, 42, 43, 44, 45, 46] }

theorem cfok : CfgOk cf where
  mix := by kernel_rfl
  tt := ttok
  fns := List.forall_mem_cons.2 ⟨Try.call3, List.forall_mem_cons.2 ⟨Try.call4, List.forall_mem_cons.2 ⟨Try.call5, List.forall_mem_cons.2 ⟨Try.call6, List.forall_mem_cons.2 ⟨Try.call7, List.forall_mem_cons.2 ⟨Try.call8, List.forall_mem_cons.2 ⟨Try.call9, List.forall_mem_cons.2 ⟨Try.call10, List.forall_mem_cons.2 ⟨Try.call11, List.forall_mem_cons.2 ⟨Try.call12, List.forall_mem_cons.2 ⟨Try.call13, List.forall_mem_cons.2 ⟨Try.call14, List.forall_mem_cons.2 ⟨Try.call15, List.forall_mem_cons.2 ⟨Try.call16, List.forall_mem_cons.2 ⟨Try.call17, List.forall_mem_cons.2 ⟨Try.call18, List.forall_mem_cons.2 ⟨Try.call19, List.forall_mem_cons.2 ⟨Try.call20, List.forall_mem_cons.2 ⟨Try.call21, List.forall_mem_cons.2 ⟨Try.call22, List.forall_mem_cons.2 ⟨Try.call23, List.forall_mem_cons.2 ⟨Try.call24, List.forall_mem_cons.2 ⟨Try.call25, List.forall_mem_cons.2 ⟨Try.call26, List.forall_mem_cons.2 ⟨Try.call27, List.forall_mem_cons.2 ⟨Try.call28, List.forall_mem_cons.2 ⟨Try.call29, List.forall_mem_cons.2 ⟨Try.call30, List.forall_mem_cons.2 ⟨Try.call31, List.forall_mem_cons.2 ⟨Try.call32, List.forall_mem_cons.2 ⟨Try.call33, List.forall_mem_cons.2 ⟨Try.call34, List.forall_mem_cons.2 ⟨Try.call35, List.forall_mem_cons.2 ⟨Try.call36, List.forall_mem_cons.2 ⟨Try.call37, List.forall_mem_cons.2 ⟨Try.call38, List.forall_mem_cons.2 ⟨Try.call39, List.forall_mem_cons.2 ⟨Try.call40, List.forall_mem_cons.2 ⟨Try.call41, List.forall_mem_cons.2 ⟨Try.call42, List.forall_mem_cons.2 ⟨Try.call43, List.forall_mem_cons.2 ⟨Try.call44, List.forall_mem_cons.2 ⟨Try.call45, List.forall_mem_cons.2 ⟨Try.call46, List.forall_mem_nil _⟩⟩⟩⟩⟩⟩⟩⟩⟩⟩⟩⟩⟩⟩⟩⟩⟩⟩⟩⟩⟩⟩⟩⟩⟩⟩⟩⟩⟩⟩⟩⟩⟩⟩⟩⟩⟩⟩⟩⟩⟩⟩⟩⟩

/-
  0: main.main
  1: gosem.cut
  2: gosem.cut.init
  3: calamus/calamuslaw11.ResolveNeutral
  4: calamus/calamuslaw11.ResolveLevels
  5: calamus/calamuslaw11.ResolveEnds
  6: calamus/calamuslaw11.ResolvePassed
  7: calamus/calamuslaw11.ResolveCuts
  8: calamus/calamuslaw11.ResolveKnown
  9: calamus/calamuslaw11.ResolveWeak
  10: calamus/calamuslaw11.ResolveWeakEnds
  11: calamus/calamuslaw11.ResolveWeakPassed
  12: calamus/calamuslaw11.ResolveWeakCuts
  13: calamus/calamuslaw11.ResolveWeakAgain
  14: calamus/calamuslaw11.ResolveWeakKnown
  15: calamus/calamuslaw11.works
  16: calamus/calamuslaw11.own
  17: calamus/calamuslaw11.is
  18: calamus/resolve.Neutral
  19: calamus/calamusref11.Neutral
  20: calamus/resolve.Levels
  21: calamus/calamusref11.Levels
  22: calamus/calamuslaw11.cleared
  23: calamus/calamusref11.IsNeutral
  24: calamus/calamuslaw11.arabic
  25: calamus/resolve.Weak
  26: calamus/calamusref11.Weak
  27: slices.Clone[[]calamus/api.Class,calamus/api.Class]
  28: calamus/resolve.edge
  29: slices.Backward[[]calamus/api.Class,calamus/api.Class]
  30: calamus/resolve.neutral
  31: calamus/resolve.side
  32: calamus/calamusref11.ends
  33: calamus/calamusref11.Side
  34: calamus/resolve.more
  35: (*calamus/resolve.row).first
  36: calamus/resolve.Weak$1
  37: (*calamus/resolve.row).at
  38: (*calamus/resolve.row).terms
  39: calamus/calamusref11.w1
  40: calamus/calamusref11.w2
  41: calamus/calamusref11.w4
  42: calamus/calamusref11.w5
  43: calamus/calamusref11.w7
  44: slices.Backward[[]calamus/api.Class,calamus/api.Class]$1
  45: calamus/resolve.isolate
  46: calamus/calamusref11.Isolate
  47: (runtime.boundsError).Error
  48: (runtime.boundsError).RuntimeError
  49: (runtime.errorString).Error
  50: (runtime.errorString).RuntimeError
  51: (runtime.plainError).Error
  52: (runtime.plainError).RuntimeError
  53: (runtime.errorAddressString).Error
  54: (runtime.errorAddressString).RuntimeError
  55: (*runtime.TypeAssertionError).Error
  56: (*runtime.TypeAssertionError).RuntimeError
  57: (*runtime.PanicNilError).Error
  58: (*runtime.PanicNilError).RuntimeError
  59: (*internal/abi.Type).Align
  60: (internal/runtime/maps.unhashableTypeError).Error
  61: (internal/runtime/maps.unhashableTypeError).RuntimeError
  62: (internal/abi.Kind).String
-/
end Go.Proofs.Ytcpaaekghajalaa
