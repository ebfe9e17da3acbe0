import Derived.Test.YtaiapnemlnmeiaaEng
import Derived.Test.YtaiapnemlnmeiaaProg
namespace Go.Proofs.Ytaiapnemlnmeiaa
open Go Go.Eng

def tt : TT := [
  ⟨.other, 0, 0, []⟩,
  ⟨.fn, 1, 8, [.nilFunc]⟩,
  ⟨.int .i64, 1, 8, [.int .i64 0]⟩,
  ⟨.int .i64, 1, 8, [.int .i64 0]⟩,
  ⟨.bool, 1, 1, [.bool false]⟩,
  ⟨.int .u8, 1, 1, [.int .u8 0]⟩,
  ⟨.int .u8, 1, 1, [.int .u8 0]⟩,
  ⟨.st [(0, 2), (1, 3), (2, 4), (3, 6)], 4, 24, [.int .i64 0, .int .i64 0, .bool false, .int .u8 0]⟩,
  ⟨.st [(0, 2), (1, 3), (2, 4), (3, 6)], 4, 24, [.int .i64 0, .int .i64 0, .bool false, .int .u8 0]⟩,
  ⟨.str, 1, 16, [.string ⟨#[]⟩]⟩,
  ⟨.str, 1, 16, [.string ⟨#[]⟩]⟩,
  ⟨.str, 1, 16, [.string ⟨#[]⟩]⟩,
  ⟨.int .u64, 1, 8, [.int .u64 0]⟩,
  ⟨.st [(0, 9), (1, 12)], 2, 24, [.string ⟨#[]⟩, .int .u64 0]⟩,
  ⟨.st [(0, 9), (1, 12)], 2, 24, [.string ⟨#[]⟩, .int .u64 0]⟩,
  ⟨.ptr, 1, 8, [.pointer none]⟩,
  ⟨.ptr, 1, 8, [.pointer none]⟩,
  ⟨.ptr, 1, 8, [.pointer none]⟩,
  ⟨.st [(0, 17)], 1, 8, [.pointer none]⟩,
  ⟨.st [(0, 17)], 1, 8, [.pointer none]⟩,
  ⟨.other, 0, 0, []⟩,
  ⟨.int .i32, 1, 4, [.int .i32 0]⟩,
  ⟨.int .u16, 1, 2, [.int .u16 0]⟩,
  ⟨.int .i16, 1, 2, [.int .i16 0]⟩,
  ⟨.sl 22, 1, 24, [.slice none 0 0]⟩,
  ⟨.sl 5, 1, 24, [.slice none 0 0]⟩,
  ⟨.sl 138, 1, 24, [.slice none 0 0]⟩,
  ⟨.sl 56, 1, 24, [.slice none 0 0]⟩,
  ⟨.sl 61, 1, 24, [.slice none 0 0]⟩,
  ⟨.st [(0, 22), (1, 23), (2, 23), (3, 24), (4, 25), (5, 26), (6, 27), (7, 28), (8, 27), (9, 28)], 10, 176, [.int .u16 0, .int .i16 0, .int .i16 0, .slice none 0 0, .slice none 0 0, .slice none 0 0, .slice none 0 0, .slice none 0 0, .slice none 0 0, .slice none 0 0]⟩,
  ⟨.st [(0, 22), (1, 23), (2, 23), (3, 24), (4, 25), (5, 26), (6, 27), (7, 28), (8, 27), (9, 28)], 10, 176, [.int .u16 0, .int .i16 0, .int .i16 0, .slice none 0 0, .slice none 0 0, .slice none 0 0, .slice none 0 0, .slice none 0 0, .slice none 0 0, .slice none 0 0]⟩,
  ⟨.fn, 1, 8, [.nilFunc]⟩,
  ⟨.fn, 1, 8, [.nilFunc]⟩,
  ⟨.sl 38, 1, 24, [.slice none 0 0]⟩,
  ⟨.int .i64, 1, 8, [.int .i64 0]⟩,
  ⟨.other, 0, 0, []⟩,
  ⟨.fn, 1, 8, [.nilFunc]⟩,
  ⟨.st [(0, 21), (1, 3), (2, 21), (3, 21)], 4, 24, [.int .i32 0, .int .i64 0, .int .i32 0, .int .i32 0]⟩,
  ⟨.st [(0, 21), (1, 3), (2, 21), (3, 21)], 4, 24, [.int .i32 0, .int .i64 0, .int .i32 0, .int .i32 0]⟩,
  ⟨.fn, 1, 8, [.nilFunc]⟩,
  ⟨.sl 45, 1, 24, [.slice none 0 0]⟩,
  ⟨.other, 0, 0, []⟩,
  ⟨.fn, 1, 8, [.nilFunc]⟩,
  ⟨.sl 21, 1, 24, [.slice none 0 0]⟩,
  ⟨.st [(0, 22), (1, 3), (2, 3), (3, 21), (4, 21), (5, 21)], 6, 40, [.int .u16 0, .int .i64 0, .int .i64 0, .int .i32 0, .int .i32 0, .int .i32 0]⟩,
  ⟨.st [(0, 22), (1, 3), (2, 3), (3, 21), (4, 21), (5, 21)], 6, 40, [.int .u16 0, .int .i64 0, .int .i64 0, .int .i32 0, .int .i32 0, .int .i32 0]⟩,
  ⟨.fn, 1, 8, [.nilFunc]⟩,
  ⟨.fn, 1, 8, [.nilFunc]⟩,
  ⟨.sl 63, 1, 24, [.slice none 0 0]⟩,
  ⟨.sl 85, 1, 24, [.slice none 0 0]⟩,
  ⟨.sl 88, 1, 24, [.slice none 0 0]⟩,
  ⟨.st [(0, 48), (1, 49), (2, 50)], 3, 72, [.slice none 0 0, .slice none 0 0, .slice none 0 0]⟩,
  ⟨.st [(0, 48), (1, 49), (2, 50)], 3, 72, [.slice none 0 0, .slice none 0 0, .slice none 0 0]⟩,
  ⟨.sl 52, 1, 24, [.slice none 0 0]⟩,
  ⟨.sl 98, 1, 24, [.slice none 0 0]⟩,
  ⟨.st [(0, 22), (1, 22), (2, 54), (3, 53)], 4, 56, [.int .u16 0, .int .u16 0, .slice none 0 0, .slice none 0 0]⟩,
  ⟨.st [(0, 22), (1, 22), (2, 54), (3, 53)], 4, 56, [.int .u16 0, .int .u16 0, .slice none 0 0, .slice none 0 0]⟩,
  ⟨.arr 4 5, 4, 4, [.int .u8 0, .int .u8 0, .int .u8 0, .int .u8 0]⟩,
  ⟨.arr 4 5, 4, 4, [.int .u8 0, .int .u8 0, .int .u8 0, .int .u8 0]⟩,
  ⟨.sl 3, 1, 24, [.slice none 0 0]⟩,
  ⟨.st [(0, 58), (4, 59)], 5, 32, [.int .u8 0, .int .u8 0, .int .u8 0, .int .u8 0, .slice none 0 0]⟩,
  ⟨.st [(0, 58), (4, 59)], 5, 32, [.int .u8 0, .int .u8 0, .int .u8 0, .int .u8 0, .slice none 0 0]⟩,
  ⟨.st [(0, 22), (1, 22), (2, 23)], 3, 6, [.int .u16 0, .int .u16 0, .int .i16 0]⟩,
  ⟨.st [(0, 22), (1, 22), (2, 23)], 3, 6, [.int .u16 0, .int .u16 0, .int .i16 0]⟩,
  ⟨.fn, 1, 8, [.nilFunc]⟩,
  ⟨.fn, 1, 8, [.nilFunc]⟩,
  ⟨.fn, 1, 8, [.nilFunc]⟩,
  ⟨.fn, 1, 8, [.nilFunc]⟩,
  ⟨.fn, 1, 8, [.nilFunc]⟩,
  ⟨.ptr, 1, 8, [.pointer none]⟩,
  ⟨.ptr, 1, 8, [.pointer none]⟩,
  ⟨.st [(0, 30), (10, 24), (11, 33)], 12, 224, [.int .u16 0, .int .i16 0, .int .i16 0, .slice none 0 0, .slice none 0 0, .slice none 0 0, .slice none 0 0, .slice none 0 0, .slice none 0 0, .slice none 0 0, .slice none 0 0, .slice none 0 0]⟩,
  ⟨.st [(0, 30), (10, 24), (11, 33)], 12, 224, [.int .u16 0, .int .i16 0, .int .i16 0, .slice none 0 0, .slice none 0 0, .slice none 0 0, .slice none 0 0, .slice none 0 0, .slice none 0 0, .slice none 0 0, .slice none 0 0, .slice none 0 0]⟩,
  ⟨.fn, 1, 8, [.nilFunc]⟩,
  ⟨.fn, 1, 8, [.nilFunc]⟩,
  ⟨.fn, 1, 8, [.nilFunc]⟩,
  ⟨.fn, 1, 8, [.nilFunc]⟩,
  ⟨.fn, 1, 8, [.nilFunc]⟩,
  ⟨.fn, 1, 8, [.nilFunc]⟩,
  ⟨.fn, 1, 8, [.nilFunc]⟩,
  ⟨.fn, 1, 8, [.nilFunc]⟩,
  ⟨.fn, 1, 8, [.nilFunc]⟩,
  ⟨.sl 83, 1, 24, [.slice none 0 0]⟩,
  ⟨.arr 2 21, 2, 8, [.int .i32 0, .int .i32 0]⟩,
  ⟨.st [(0, 22), (1, 22), (2, 23), (3, 23)], 4, 8, [.int .u16 0, .int .u16 0, .int .i16 0, .int .i16 0]⟩,
  ⟨.st [(0, 22), (1, 22), (2, 23), (3, 23)], 4, 8, [.int .u16 0, .int .u16 0, .int .i16 0, .int .i16 0]⟩,
  ⟨.sl 90, 1, 24, [.slice none 0 0]⟩,
  ⟨.st [(0, 22), (1, 86)], 2, 32, [.int .u16 0, .slice none 0 0]⟩,
  ⟨.st [(0, 22), (1, 86)], 2, 32, [.int .u16 0, .slice none 0 0]⟩,
  ⟨.st [(0, 4), (1, 23), (2, 23)], 3, 6, [.bool false, .int .i16 0, .int .i16 0]⟩,
  ⟨.st [(0, 4), (1, 23), (2, 23)], 3, 6, [.bool false, .int .i16 0, .int .i16 0]⟩,
  ⟨.fn, 1, 8, [.nilFunc]⟩,
  ⟨.sl 140, 1, 24, [.slice none 0 0]⟩,
  ⟨.sl 107, 1, 24, [.slice none 0 0]⟩,
  ⟨.sl 109, 1, 24, [.slice none 0 0]⟩,
  ⟨.sl 24, 1, 24, [.slice none 0 0]⟩,
  ⟨.sl 142, 1, 24, [.slice none 0 0]⟩,
  ⟨.st [(0, 92), (1, 93), (2, 94), (3, 95), (4, 95), (5, 95), (6, 96)], 7, 168, [.slice none 0 0, .slice none 0 0, .slice none 0 0, .slice none 0 0, .slice none 0 0, .slice none 0 0, .slice none 0 0]⟩,
  ⟨.st [(0, 92), (1, 93), (2, 94), (3, 95), (4, 95), (5, 95), (6, 96)], 7, 168, [.slice none 0 0, .slice none 0 0, .slice none 0 0, .slice none 0 0, .slice none 0 0, .slice none 0 0, .slice none 0 0]⟩,
  ⟨.st [], 0, 0, []⟩,
  ⟨.st [], 0, 0, []⟩,
  ⟨.fn, 1, 8, [.nilFunc]⟩,
  ⟨.fn, 1, 8, [.nilFunc]⟩,
  ⟨.fn, 1, 8, [.nilFunc]⟩,
  ⟨.fn, 1, 8, [.nilFunc]⟩,
  ⟨.fn, 1, 8, [.nilFunc]⟩,
  ⟨.st [(0, 22), (1, 24)], 2, 32, [.int .u16 0, .slice none 0 0]⟩,
  ⟨.st [(0, 22), (1, 24)], 2, 32, [.int .u16 0, .slice none 0 0]⟩,
  ⟨.st [(0, 24), (1, 22)], 2, 32, [.slice none 0 0, .int .u16 0]⟩,
  ⟨.st [(0, 24), (1, 22)], 2, 32, [.slice none 0 0, .int .u16 0]⟩,
  ⟨.sl 95, 1, 24, [.slice none 0 0]⟩,
  ⟨.fn, 1, 8, [.nilFunc]⟩,
  ⟨.fn, 1, 8, [.nilFunc]⟩,
  ⟨.fn, 1, 8, [.nilFunc]⟩,
  ⟨.fn, 1, 8, [.nilFunc]⟩,
  ⟨.fn, 1, 8, [.nilFunc]⟩,
  ⟨.fn, 1, 8, [.nilFunc]⟩,
  ⟨.fn, 1, 8, [.nilFunc]⟩,
  ⟨.fn, 1, 8, [.nilFunc]⟩,
  ⟨.fn, 1, 8, [.nilFunc]⟩,
  ⟨.ptr, 1, 8, [.pointer none]⟩,
  ⟨.fn, 1, 8, [.nilFunc]⟩,
  ⟨.st [(0, 17), (1, 17), (2, 17), (3, 9)], 4, 40, [.pointer none, .pointer none, .pointer none, .string ⟨#[]⟩]⟩,
  ⟨.st [(0, 17), (1, 17), (2, 17), (3, 9)], 4, 40, [.pointer none, .pointer none, .pointer none, .string ⟨#[]⟩]⟩,
  ⟨.arr 0 16, 0, 0, []⟩,
  ⟨.st [(0, 124)], 0, 0, []⟩,
  ⟨.st [(0, 124)], 0, 0, []⟩,
  ⟨.fn, 1, 8, [.nilFunc]⟩,
  ⟨.int .u32, 1, 4, [.int .u32 0]⟩,
  ⟨.int .u8, 1, 1, [.int .u8 0]⟩,
  ⟨.int .u8, 1, 1, [.int .u8 0]⟩,
  ⟨.fn, 1, 8, [.nilFunc]⟩,
  ⟨.ptr, 1, 8, [.pointer none]⟩,
  ⟨.int .i32, 1, 4, [.int .i32 0]⟩,
  ⟨.int .i32, 1, 4, [.int .i32 0]⟩,
  ⟨.st [(0, 12), (1, 12), (2, 128), (3, 129), (4, 5), (5, 5), (6, 130), (7, 131), (8, 132), (9, 133), (10, 134)], 11, 48, [.int .u64 0, .int .u64 0, .int .u32 0, .int .u8 0, .int .u8 0, .int .u8 0, .int .u8 0, .nilFunc, .pointer none, .int .i32 0, .int .i32 0]⟩,
  ⟨.st [(0, 12), (1, 12), (2, 128), (3, 129), (4, 5), (5, 5), (6, 130), (7, 131), (8, 132), (9, 133), (10, 134)], 11, 48, [.int .u64 0, .int .u64 0, .int .u32 0, .int .u8 0, .int .u8 0, .int .u8 0, .int .u8 0, .nilFunc, .pointer none, .int .i32 0, .int .i32 0]⟩,
  ⟨.st [(0, 21), (1, 22)], 2, 8, [.int .i32 0, .int .u16 0]⟩,
  ⟨.st [(0, 21), (1, 22)], 2, 8, [.int .i32 0, .int .u16 0]⟩,
  ⟨.st [(0, 22), (1, 22)], 2, 4, [.int .u16 0, .int .u16 0]⟩,
  ⟨.st [(0, 22), (1, 22)], 2, 4, [.int .u16 0, .int .u16 0]⟩,
  ⟨.st [(0, 3), (1, 3)], 2, 16, [.int .i64 0, .int .i64 0]⟩,
  ⟨.st [(0, 3), (1, 3)], 2, 16, [.int .i64 0, .int .i64 0]⟩,
  ⟨.other, 0, 0, []⟩]

theorem ty0 : tyOk Try.prog 0 (⟨.other, 0, 0, []⟩) := rfl
theorem ty1 : tyOk Try.prog 1 (⟨.fn, 1, 8, [.nilFunc]⟩) := ⟨⟨Try.t1, _, by kernel_rfl, rfl, rfl, rfl, rfl⟩, ⟨_, _, _, Try.underlying1⟩⟩
theorem ty2 : tyOk Try.prog 2 (⟨.int .i64, 1, 8, [.int .i64 0]⟩) := ⟨⟨Try.t2, _, by kernel_rfl, rfl, rfl, rfl, rfl⟩, Try.underlying2⟩
theorem ty3 : tyOk Try.prog 3 (⟨.int .i64, 1, 8, [.int .i64 0]⟩) := ⟨⟨Try.t3, _, by kernel_rfl, rfl, rfl, rfl, rfl⟩, Try.underlying3⟩
theorem ty4 : tyOk Try.prog 4 (⟨.bool, 1, 1, [.bool false]⟩) := ⟨⟨Try.t4, _, by kernel_rfl, rfl, rfl, rfl, rfl⟩, Try.underlying4⟩
theorem ty5 : tyOk Try.prog 5 (⟨.int .u8, 1, 1, [.int .u8 0]⟩) := ⟨⟨Try.t5, _, by kernel_rfl, rfl, rfl, rfl, rfl⟩, Try.underlying5⟩
theorem ty6 : tyOk Try.prog 6 (⟨.int .u8, 1, 1, [.int .u8 0]⟩) := ⟨⟨Try.t6, _, by kernel_rfl, rfl, rfl, rfl, rfl⟩, Try.underlying6⟩
theorem ty7 : tyOk Try.prog 7 (⟨.st [(0, 2), (1, 3), (2, 4), (3, 6)], 4, 24, [.int .i64 0, .int .i64 0, .bool false, .int .u8 0]⟩) := ⟨⟨Try.t7, _, by kernel_rfl, rfl, rfl, rfl, rfl⟩, ⟨_, [(0, 1), (1, 1), (2, 1), (3, 1)], Try.underlying7, by kernel_rfl, by kernel_rfl⟩⟩
theorem ty8 : tyOk Try.prog 8 (⟨.st [(0, 2), (1, 3), (2, 4), (3, 6)], 4, 24, [.int .i64 0, .int .i64 0, .bool false, .int .u8 0]⟩) := ⟨⟨Try.t8, _, by kernel_rfl, rfl, rfl, rfl, rfl⟩, ⟨_, [(0, 1), (1, 1), (2, 1), (3, 1)], Try.underlying8, by kernel_rfl, by kernel_rfl⟩⟩
theorem ty9 : tyOk Try.prog 9 (⟨.str, 1, 16, [.string ⟨#[]⟩]⟩) := ⟨⟨Try.t9, _, by kernel_rfl, rfl, rfl, rfl, rfl⟩, Try.underlying9⟩
theorem ty10 : tyOk Try.prog 10 (⟨.str, 1, 16, [.string ⟨#[]⟩]⟩) := ⟨⟨Try.t10, _, by kernel_rfl, rfl, rfl, rfl, rfl⟩, Try.underlying10⟩
theorem ty11 : tyOk Try.prog 11 (⟨.str, 1, 16, [.string ⟨#[]⟩]⟩) := ⟨⟨Try.t11, _, by kernel_rfl, rfl, rfl, rfl, rfl⟩, Try.underlying11⟩
theorem ty12 : tyOk Try.prog 12 (⟨.int .u64, 1, 8, [.int .u64 0]⟩) := ⟨⟨Try.t12, _, by kernel_rfl, rfl, rfl, rfl, rfl⟩, Try.underlying12⟩
theorem ty13 : tyOk Try.prog 13 (⟨.st [(0, 9), (1, 12)], 2, 24, [.string ⟨#[]⟩, .int .u64 0]⟩) := ⟨⟨Try.t13, _, by kernel_rfl, rfl, rfl, rfl, rfl⟩, ⟨_, [(0, 1), (1, 1)], Try.underlying13, by kernel_rfl, by kernel_rfl⟩⟩
theorem ty14 : tyOk Try.prog 14 (⟨.st [(0, 9), (1, 12)], 2, 24, [.string ⟨#[]⟩, .int .u64 0]⟩) := ⟨⟨Try.t14, _, by kernel_rfl, rfl, rfl, rfl, rfl⟩, ⟨_, [(0, 1), (1, 1)], Try.underlying14, by kernel_rfl, by kernel_rfl⟩⟩
theorem ty15 : tyOk Try.prog 15 (⟨.ptr, 1, 8, [.pointer none]⟩) := ⟨⟨Try.t15, _, by kernel_rfl, rfl, rfl, rfl, rfl⟩, ⟨_, Try.underlying15⟩⟩
theorem ty16 : tyOk Try.prog 16 (⟨.ptr, 1, 8, [.pointer none]⟩) := ⟨⟨Try.t16, _, by kernel_rfl, rfl, rfl, rfl, rfl⟩, ⟨_, Try.underlying16⟩⟩
theorem ty17 : tyOk Try.prog 17 (⟨.ptr, 1, 8, [.pointer none]⟩) := ⟨⟨Try.t17, _, by kernel_rfl, rfl, rfl, rfl, rfl⟩, ⟨_, Try.underlying17⟩⟩
theorem ty18 : tyOk Try.prog 18 (⟨.st [(0, 17)], 1, 8, [.pointer none]⟩) := ⟨⟨Try.t18, _, by kernel_rfl, rfl, rfl, rfl, rfl⟩, ⟨_, [(0, 1)], Try.underlying18, by kernel_rfl, by kernel_rfl⟩⟩
theorem ty19 : tyOk Try.prog 19 (⟨.st [(0, 17)], 1, 8, [.pointer none]⟩) := ⟨⟨Try.t19, _, by kernel_rfl, rfl, rfl, rfl, rfl⟩, ⟨_, [(0, 1)], Try.underlying19, by kernel_rfl, by kernel_rfl⟩⟩
theorem ty20 : tyOk Try.prog 20 (⟨.other, 0, 0, []⟩) := rfl
theorem ty21 : tyOk Try.prog 21 (⟨.int .i32, 1, 4, [.int .i32 0]⟩) := ⟨⟨Try.t21, _, by kernel_rfl, rfl, rfl, rfl, rfl⟩, Try.underlying21⟩
theorem ty22 : tyOk Try.prog 22 (⟨.int .u16, 1, 2, [.int .u16 0]⟩) := ⟨⟨Try.t22, _, by kernel_rfl, rfl, rfl, rfl, rfl⟩, Try.underlying22⟩
theorem ty23 : tyOk Try.prog 23 (⟨.int .i16, 1, 2, [.int .i16 0]⟩) := ⟨⟨Try.t23, _, by kernel_rfl, rfl, rfl, rfl, rfl⟩, Try.underlying23⟩
theorem ty24 : tyOk Try.prog 24 (⟨.sl 22, 1, 24, [.slice none 0 0]⟩) := ⟨⟨Try.t24, _, by kernel_rfl, rfl, rfl, rfl, rfl⟩, Try.underlying24⟩
theorem ty25 : tyOk Try.prog 25 (⟨.sl 5, 1, 24, [.slice none 0 0]⟩) := ⟨⟨Try.t25, _, by kernel_rfl, rfl, rfl, rfl, rfl⟩, Try.underlying25⟩
theorem ty26 : tyOk Try.prog 26 (⟨.sl 138, 1, 24, [.slice none 0 0]⟩) := ⟨⟨Try.t26, _, by kernel_rfl, rfl, rfl, rfl, rfl⟩, Try.underlying26⟩
theorem ty27 : tyOk Try.prog 27 (⟨.sl 56, 1, 24, [.slice none 0 0]⟩) := ⟨⟨Try.t27, _, by kernel_rfl, rfl, rfl, rfl, rfl⟩, Try.underlying27⟩
theorem ty28 : tyOk Try.prog 28 (⟨.sl 61, 1, 24, [.slice none 0 0]⟩) := ⟨⟨Try.t28, _, by kernel_rfl, rfl, rfl, rfl, rfl⟩, Try.underlying28⟩
theorem ty29 : tyOk Try.prog 29 (⟨.st [(0, 22), (1, 23), (2, 23), (3, 24), (4, 25), (5, 26), (6, 27), (7, 28), (8, 27), (9, 28)], 10, 176, [.int .u16 0, .int .i16 0, .int .i16 0, .slice none 0 0, .slice none 0 0, .slice none 0 0, .slice none 0 0, .slice none 0 0, .slice none 0 0, .slice none 0 0]⟩) := ⟨⟨Try.t29, _, by kernel_rfl, rfl, rfl, rfl, rfl⟩, ⟨_, [(0, 1), (1, 1), (2, 1), (3, 1), (4, 1), (5, 1), (6, 1), (7, 1), (8, 1), (9, 1)], Try.underlying29, by kernel_rfl, by kernel_rfl⟩⟩
theorem ty30 : tyOk Try.prog 30 (⟨.st [(0, 22), (1, 23), (2, 23), (3, 24), (4, 25), (5, 26), (6, 27), (7, 28), (8, 27), (9, 28)], 10, 176, [.int .u16 0, .int .i16 0, .int .i16 0, .slice none 0 0, .slice none 0 0, .slice none 0 0, .slice none 0 0, .slice none 0 0, .slice none 0 0, .slice none 0 0]⟩) := ⟨⟨Try.t30, _, by kernel_rfl, rfl, rfl, rfl, rfl⟩, ⟨_, [(0, 1), (1, 1), (2, 1), (3, 1), (4, 1), (5, 1), (6, 1), (7, 1), (8, 1), (9, 1)], Try.underlying30, by kernel_rfl, by kernel_rfl⟩⟩
theorem ty31 : tyOk Try.prog 31 (⟨.fn, 1, 8, [.nilFunc]⟩) := ⟨⟨Try.t31, _, by kernel_rfl, rfl, rfl, rfl, rfl⟩, ⟨_, _, _, Try.underlying31⟩⟩
theorem ty32 : tyOk Try.prog 32 (⟨.fn, 1, 8, [.nilFunc]⟩) := ⟨⟨Try.t32, _, by kernel_rfl, rfl, rfl, rfl, rfl⟩, ⟨_, _, _, Try.underlying32⟩⟩
theorem ty33 : tyOk Try.prog 33 (⟨.sl 38, 1, 24, [.slice none 0 0]⟩) := ⟨⟨Try.t33, _, by kernel_rfl, rfl, rfl, rfl, rfl⟩, Try.underlying33⟩
theorem ty34 : tyOk Try.prog 34 (⟨.int .i64, 1, 8, [.int .i64 0]⟩) := ⟨⟨Try.t34, _, by kernel_rfl, rfl, rfl, rfl, rfl⟩, Try.underlying34⟩
theorem ty35 : tyOk Try.prog 35 (⟨.other, 0, 0, []⟩) := rfl
theorem ty36 : tyOk Try.prog 36 (⟨.fn, 1, 8, [.nilFunc]⟩) := ⟨⟨Try.t36, _, by kernel_rfl, rfl, rfl, rfl, rfl⟩, ⟨_, _, _, Try.underlying36⟩⟩
theorem ty37 : tyOk Try.prog 37 (⟨.st [(0, 21), (1, 3), (2, 21), (3, 21)], 4, 24, [.int .i32 0, .int .i64 0, .int .i32 0, .int .i32 0]⟩) := ⟨⟨Try.t37, _, by kernel_rfl, rfl, rfl, rfl, rfl⟩, ⟨_, [(0, 1), (1, 1), (2, 1), (3, 1)], Try.underlying37, by kernel_rfl, by kernel_rfl⟩⟩
theorem ty38 : tyOk Try.prog 38 (⟨.st [(0, 21), (1, 3), (2, 21), (3, 21)], 4, 24, [.int .i32 0, .int .i64 0, .int .i32 0, .int .i32 0]⟩) := ⟨⟨Try.t38, _, by kernel_rfl, rfl, rfl, rfl, rfl⟩, ⟨_, [(0, 1), (1, 1), (2, 1), (3, 1)], Try.underlying38, by kernel_rfl, by kernel_rfl⟩⟩
theorem ty39 : tyOk Try.prog 39 (⟨.fn, 1, 8, [.nilFunc]⟩) := ⟨⟨Try.t39, _, by kernel_rfl, rfl, rfl, rfl, rfl⟩, ⟨_, _, _, Try.underlying39⟩⟩
theorem ty40 : tyOk Try.prog 40 (⟨.sl 45, 1, 24, [.slice none 0 0]⟩) := ⟨⟨Try.t40, _, by kernel_rfl, rfl, rfl, rfl, rfl⟩, Try.underlying40⟩
theorem ty41 : tyOk Try.prog 41 (⟨.other, 0, 0, []⟩) := rfl
theorem ty42 : tyOk Try.prog 42 (⟨.fn, 1, 8, [.nilFunc]⟩) := ⟨⟨Try.t42, _, by kernel_rfl, rfl, rfl, rfl, rfl⟩, ⟨_, _, _, Try.underlying42⟩⟩
theorem ty43 : tyOk Try.prog 43 (⟨.sl 21, 1, 24, [.slice none 0 0]⟩) := ⟨⟨Try.t43, _, by kernel_rfl, rfl, rfl, rfl, rfl⟩, Try.underlying43⟩
theorem ty44 : tyOk Try.prog 44 (⟨.st [(0, 22), (1, 3), (2, 3), (3, 21), (4, 21), (5, 21)], 6, 40, [.int .u16 0, .int .i64 0, .int .i64 0, .int .i32 0, .int .i32 0, .int .i32 0]⟩) := ⟨⟨Try.t44, _, by kernel_rfl, rfl, rfl, rfl, rfl⟩, ⟨_, [(0, 1), (1, 1), (2, 1), (3, 1), (4, 1), (5, 1)], Try.underlying44, by kernel_rfl, by kernel_rfl⟩⟩
theorem ty45 : tyOk Try.prog 45 (⟨.st [(0, 22), (1, 3), (2, 3), (3, 21), (4, 21), (5, 21)], 6, 40, [.int .u16 0, .int .i64 0, .int .i64 0, .int .i32 0, .int .i32 0, .int .i32 0]⟩) := ⟨⟨Try.t45, _, by kernel_rfl, rfl, rfl, rfl, rfl⟩, ⟨_, [(0, 1), (1, 1), (2, 1), (3, 1), (4, 1), (5, 1)], Try.underlying45, by kernel_rfl, by kernel_rfl⟩⟩
theorem ty46 : tyOk Try.prog 46 (⟨.fn, 1, 8, [.nilFunc]⟩) := ⟨⟨Try.t46, _, by kernel_rfl, rfl, rfl, rfl, rfl⟩, ⟨_, _, _, Try.underlying46⟩⟩
theorem ty47 : tyOk Try.prog 47 (⟨.fn, 1, 8, [.nilFunc]⟩) := ⟨⟨Try.t47, _, by kernel_rfl, rfl, rfl, rfl, rfl⟩, ⟨_, _, _, Try.underlying47⟩⟩
theorem ty48 : tyOk Try.prog 48 (⟨.sl 63, 1, 24, [.slice none 0 0]⟩) := ⟨⟨Try.t48, _, by kernel_rfl, rfl, rfl, rfl, rfl⟩, Try.underlying48⟩
theorem ty49 : tyOk Try.prog 49 (⟨.sl 85, 1, 24, [.slice none 0 0]⟩) := ⟨⟨Try.t49, _, by kernel_rfl, rfl, rfl, rfl, rfl⟩, Try.underlying49⟩
theorem ty50 : tyOk Try.prog 50 (⟨.sl 88, 1, 24, [.slice none 0 0]⟩) := ⟨⟨Try.t50, _, by kernel_rfl, rfl, rfl, rfl, rfl⟩, Try.underlying50⟩
theorem ty51 : tyOk Try.prog 51 (⟨.st [(0, 48), (1, 49), (2, 50)], 3, 72, [.slice none 0 0, .slice none 0 0, .slice none 0 0]⟩) := ⟨⟨Try.t51, _, by kernel_rfl, rfl, rfl, rfl, rfl⟩, ⟨_, [(0, 1), (1, 1), (2, 1)], Try.underlying51, by kernel_rfl, by kernel_rfl⟩⟩
theorem ty52 : tyOk Try.prog 52 (⟨.st [(0, 48), (1, 49), (2, 50)], 3, 72, [.slice none 0 0, .slice none 0 0, .slice none 0 0]⟩) := ⟨⟨Try.t52, _, by kernel_rfl, rfl, rfl, rfl, rfl⟩, ⟨_, [(0, 1), (1, 1), (2, 1)], Try.underlying52, by kernel_rfl, by kernel_rfl⟩⟩
theorem ty53 : tyOk Try.prog 53 (⟨.sl 52, 1, 24, [.slice none 0 0]⟩) := ⟨⟨Try.t53, _, by kernel_rfl, rfl, rfl, rfl, rfl⟩, Try.underlying53⟩
theorem ty54 : tyOk Try.prog 54 (⟨.sl 98, 1, 24, [.slice none 0 0]⟩) := ⟨⟨Try.t54, _, by kernel_rfl, rfl, rfl, rfl, rfl⟩, Try.underlying54⟩
theorem ty55 : tyOk Try.prog 55 (⟨.st [(0, 22), (1, 22), (2, 54), (3, 53)], 4, 56, [.int .u16 0, .int .u16 0, .slice none 0 0, .slice none 0 0]⟩) := ⟨⟨Try.t55, _, by kernel_rfl, rfl, rfl, rfl, rfl⟩, ⟨_, [(0, 1), (1, 1), (2, 1), (3, 1)], Try.underlying55, by kernel_rfl, by kernel_rfl⟩⟩
theorem ty56 : tyOk Try.prog 56 (⟨.st [(0, 22), (1, 22), (2, 54), (3, 53)], 4, 56, [.int .u16 0, .int .u16 0, .slice none 0 0, .slice none 0 0]⟩) := ⟨⟨Try.t56, _, by kernel_rfl, rfl, rfl, rfl, rfl⟩, ⟨_, [(0, 1), (1, 1), (2, 1), (3, 1)], Try.underlying56, by kernel_rfl, by kernel_rfl⟩⟩
theorem ty57 : tyOk Try.prog 57 (⟨.arr 4 5, 4, 4, [.int .u8 0, .int .u8 0, .int .u8 0, .int .u8 0]⟩) := ⟨⟨Try.t57, _, by kernel_rfl, rfl, rfl, rfl, rfl⟩, Try.underlying57⟩
theorem ty58 : tyOk Try.prog 58 (⟨.arr 4 5, 4, 4, [.int .u8 0, .int .u8 0, .int .u8 0, .int .u8 0]⟩) := ⟨⟨Try.t58, _, by kernel_rfl, rfl, rfl, rfl, rfl⟩, Try.underlying58⟩
theorem ty59 : tyOk Try.prog 59 (⟨.sl 3, 1, 24, [.slice none 0 0]⟩) := ⟨⟨Try.t59, _, by kernel_rfl, rfl, rfl, rfl, rfl⟩, Try.underlying59⟩
theorem ty60 : tyOk Try.prog 60 (⟨.st [(0, 58), (4, 59)], 5, 32, [.int .u8 0, .int .u8 0, .int .u8 0, .int .u8 0, .slice none 0 0]⟩) := ⟨⟨Try.t60, _, by kernel_rfl, rfl, rfl, rfl, rfl⟩, ⟨_, [(0, 4), (4, 1)], Try.underlying60, by kernel_rfl, by kernel_rfl⟩⟩
theorem ty61 : tyOk Try.prog 61 (⟨.st [(0, 58), (4, 59)], 5, 32, [.int .u8 0, .int .u8 0, .int .u8 0, .int .u8 0, .slice none 0 0]⟩) := ⟨⟨Try.t61, _, by kernel_rfl, rfl, rfl, rfl, rfl⟩, ⟨_, [(0, 4), (4, 1)], Try.underlying61, by kernel_rfl, by kernel_rfl⟩⟩
theorem ty62 : tyOk Try.prog 62 (⟨.st [(0, 22), (1, 22), (2, 23)], 3, 6, [.int .u16 0, .int .u16 0, .int .i16 0]⟩) := ⟨⟨Try.t62, _, by kernel_rfl, rfl, rfl, rfl, rfl⟩, ⟨_, [(0, 1), (1, 1), (2, 1)], Try.underlying62, by kernel_rfl, by kernel_rfl⟩⟩
theorem ty63 : tyOk Try.prog 63 (⟨.st [(0, 22), (1, 22), (2, 23)], 3, 6, [.int .u16 0, .int .u16 0, .int .i16 0]⟩) := ⟨⟨Try.t63, _, by kernel_rfl, rfl, rfl, rfl, rfl⟩, ⟨_, [(0, 1), (1, 1), (2, 1)], Try.underlying63, by kernel_rfl, by kernel_rfl⟩⟩
theorem ty64 : tyOk Try.prog 64 (⟨.fn, 1, 8, [.nilFunc]⟩) := ⟨⟨Try.t64, _, by kernel_rfl, rfl, rfl, rfl, rfl⟩, ⟨_, _, _, Try.underlying64⟩⟩
theorem ty65 : tyOk Try.prog 65 (⟨.fn, 1, 8, [.nilFunc]⟩) := ⟨⟨Try.t65, _, by kernel_rfl, rfl, rfl, rfl, rfl⟩, ⟨_, _, _, Try.underlying65⟩⟩
theorem ty66 : tyOk Try.prog 66 (⟨.fn, 1, 8, [.nilFunc]⟩) := ⟨⟨Try.t66, _, by kernel_rfl, rfl, rfl, rfl, rfl⟩, ⟨_, _, _, Try.underlying66⟩⟩
theorem ty67 : tyOk Try.prog 67 (⟨.fn, 1, 8, [.nilFunc]⟩) := ⟨⟨Try.t67, _, by kernel_rfl, rfl, rfl, rfl, rfl⟩, ⟨_, _, _, Try.underlying67⟩⟩
theorem ty68 : tyOk Try.prog 68 (⟨.fn, 1, 8, [.nilFunc]⟩) := ⟨⟨Try.t68, _, by kernel_rfl, rfl, rfl, rfl, rfl⟩, ⟨_, _, _, Try.underlying68⟩⟩
theorem ty69 : tyOk Try.prog 69 (⟨.ptr, 1, 8, [.pointer none]⟩) := ⟨⟨Try.t69, _, by kernel_rfl, rfl, rfl, rfl, rfl⟩, ⟨_, Try.underlying69⟩⟩
theorem ty70 : tyOk Try.prog 70 (⟨.ptr, 1, 8, [.pointer none]⟩) := ⟨⟨Try.t70, _, by kernel_rfl, rfl, rfl, rfl, rfl⟩, ⟨_, Try.underlying70⟩⟩
theorem ty71 : tyOk Try.prog 71 (⟨.st [(0, 30), (10, 24), (11, 33)], 12, 224, [.int .u16 0, .int .i16 0, .int .i16 0, .slice none 0 0, .slice none 0 0, .slice none 0 0, .slice none 0 0, .slice none 0 0, .slice none 0 0, .slice none 0 0, .slice none 0 0, .slice none 0 0]⟩) := ⟨⟨Try.t71, _, by kernel_rfl, rfl, rfl, rfl, rfl⟩, ⟨_, [(0, 10), (10, 1), (11, 1)], Try.underlying71, by kernel_rfl, by kernel_rfl⟩⟩
theorem ty72 : tyOk Try.prog 72 (⟨.st [(0, 30), (10, 24), (11, 33)], 12, 224, [.int .u16 0, .int .i16 0, .int .i16 0, .slice none 0 0, .slice none 0 0, .slice none 0 0, .slice none 0 0, .slice none 0 0, .slice none 0 0, .slice none 0 0, .slice none 0 0, .slice none 0 0]⟩) := ⟨⟨Try.t72, _, by kernel_rfl, rfl, rfl, rfl, rfl⟩, ⟨_, [(0, 10), (10, 1), (11, 1)], Try.underlying72, by kernel_rfl, by kernel_rfl⟩⟩
theorem ty73 : tyOk Try.prog 73 (⟨.fn, 1, 8, [.nilFunc]⟩) := ⟨⟨Try.t73, _, by kernel_rfl, rfl, rfl, rfl, rfl⟩, ⟨_, _, _, Try.underlying73⟩⟩
theorem ty74 : tyOk Try.prog 74 (⟨.fn, 1, 8, [.nilFunc]⟩) := ⟨⟨Try.t74, _, by kernel_rfl, rfl, rfl, rfl, rfl⟩, ⟨_, _, _, Try.underlying74⟩⟩
theorem ty75 : tyOk Try.prog 75 (⟨.fn, 1, 8, [.nilFunc]⟩) := ⟨⟨Try.t75, _, by kernel_rfl, rfl, rfl, rfl, rfl⟩, ⟨_, _, _, Try.underlying75⟩⟩
theorem ty76 : tyOk Try.prog 76 (⟨.fn, 1, 8, [.nilFunc]⟩) := ⟨⟨Try.t76, _, by kernel_rfl, rfl, rfl, rfl, rfl⟩, ⟨_, _, _, Try.underlying76⟩⟩
theorem ty77 : tyOk Try.prog 77 (⟨.fn, 1, 8, [.nilFunc]⟩) := ⟨⟨Try.t77, _, by kernel_rfl, rfl, rfl, rfl, rfl⟩, ⟨_, _, _, Try.underlying77⟩⟩
theorem ty78 : tyOk Try.prog 78 (⟨.fn, 1, 8, [.nilFunc]⟩) := ⟨⟨Try.t78, _, by kernel_rfl, rfl, rfl, rfl, rfl⟩, ⟨_, _, _, Try.underlying78⟩⟩
theorem ty79 : tyOk Try.prog 79 (⟨.fn, 1, 8, [.nilFunc]⟩) := ⟨⟨Try.t79, _, by kernel_rfl, rfl, rfl, rfl, rfl⟩, ⟨_, _, _, Try.underlying79⟩⟩
theorem ty80 : tyOk Try.prog 80 (⟨.fn, 1, 8, [.nilFunc]⟩) := ⟨⟨Try.t80, _, by kernel_rfl, rfl, rfl, rfl, rfl⟩, ⟨_, _, _, Try.underlying80⟩⟩
theorem ty81 : tyOk Try.prog 81 (⟨.fn, 1, 8, [.nilFunc]⟩) := ⟨⟨Try.t81, _, by kernel_rfl, rfl, rfl, rfl, rfl⟩, ⟨_, _, _, Try.underlying81⟩⟩
theorem ty82 : tyOk Try.prog 82 (⟨.sl 83, 1, 24, [.slice none 0 0]⟩) := ⟨⟨Try.t82, _, by kernel_rfl, rfl, rfl, rfl, rfl⟩, Try.underlying82⟩
theorem ty83 : tyOk Try.prog 83 (⟨.arr 2 21, 2, 8, [.int .i32 0, .int .i32 0]⟩) := ⟨⟨Try.t83, _, by kernel_rfl, rfl, rfl, rfl, rfl⟩, Try.underlying83⟩
theorem ty84 : tyOk Try.prog 84 (⟨.st [(0, 22), (1, 22), (2, 23), (3, 23)], 4, 8, [.int .u16 0, .int .u16 0, .int .i16 0, .int .i16 0]⟩) := ⟨⟨Try.t84, _, by kernel_rfl, rfl, rfl, rfl, rfl⟩, ⟨_, [(0, 1), (1, 1), (2, 1), (3, 1)], Try.underlying84, by kernel_rfl, by kernel_rfl⟩⟩
theorem ty85 : tyOk Try.prog 85 (⟨.st [(0, 22), (1, 22), (2, 23), (3, 23)], 4, 8, [.int .u16 0, .int .u16 0, .int .i16 0, .int .i16 0]⟩) := ⟨⟨Try.t85, _, by kernel_rfl, rfl, rfl, rfl, rfl⟩, ⟨_, [(0, 1), (1, 1), (2, 1), (3, 1)], Try.underlying85, by kernel_rfl, by kernel_rfl⟩⟩
theorem ty86 : tyOk Try.prog 86 (⟨.sl 90, 1, 24, [.slice none 0 0]⟩) := ⟨⟨Try.t86, _, by kernel_rfl, rfl, rfl, rfl, rfl⟩, Try.underlying86⟩
theorem ty87 : tyOk Try.prog 87 (⟨.st [(0, 22), (1, 86)], 2, 32, [.int .u16 0, .slice none 0 0]⟩) := ⟨⟨Try.t87, _, by kernel_rfl, rfl, rfl, rfl, rfl⟩, ⟨_, [(0, 1), (1, 1)], Try.underlying87, by kernel_rfl, by kernel_rfl⟩⟩
theorem ty88 : tyOk Try.prog 88 (⟨.st [(0, 22), (1, 86)], 2, 32, [.int .u16 0, .slice none 0 0]⟩) := ⟨⟨Try.t88, _, by kernel_rfl, rfl, rfl, rfl, rfl⟩, ⟨_, [(0, 1), (1, 1)], Try.underlying88, by kernel_rfl, by kernel_rfl⟩⟩
theorem ty89 : tyOk Try.prog 89 (⟨.st [(0, 4), (1, 23), (2, 23)], 3, 6, [.bool false, .int .i16 0, .int .i16 0]⟩) := ⟨⟨Try.t89, _, by kernel_rfl, rfl, rfl, rfl, rfl⟩, ⟨_, [(0, 1), (1, 1), (2, 1)], Try.underlying89, by kernel_rfl, by kernel_rfl⟩⟩
theorem ty90 : tyOk Try.prog 90 (⟨.st [(0, 4), (1, 23), (2, 23)], 3, 6, [.bool false, .int .i16 0, .int .i16 0]⟩) := ⟨⟨Try.t90, _, by kernel_rfl, rfl, rfl, rfl, rfl⟩, ⟨_, [(0, 1), (1, 1), (2, 1)], Try.underlying90, by kernel_rfl, by kernel_rfl⟩⟩
theorem ty91 : tyOk Try.prog 91 (⟨.fn, 1, 8, [.nilFunc]⟩) := ⟨⟨Try.t91, _, by kernel_rfl, rfl, rfl, rfl, rfl⟩, ⟨_, _, _, Try.underlying91⟩⟩
theorem ty92 : tyOk Try.prog 92 (⟨.sl 140, 1, 24, [.slice none 0 0]⟩) := ⟨⟨Try.t92, _, by kernel_rfl, rfl, rfl, rfl, rfl⟩, Try.underlying92⟩
theorem ty93 : tyOk Try.prog 93 (⟨.sl 107, 1, 24, [.slice none 0 0]⟩) := ⟨⟨Try.t93, _, by kernel_rfl, rfl, rfl, rfl, rfl⟩, Try.underlying93⟩
theorem ty94 : tyOk Try.prog 94 (⟨.sl 109, 1, 24, [.slice none 0 0]⟩) := ⟨⟨Try.t94, _, by kernel_rfl, rfl, rfl, rfl, rfl⟩, Try.underlying94⟩
theorem ty95 : tyOk Try.prog 95 (⟨.sl 24, 1, 24, [.slice none 0 0]⟩) := ⟨⟨Try.t95, _, by kernel_rfl, rfl, rfl, rfl, rfl⟩, Try.underlying95⟩
theorem ty96 : tyOk Try.prog 96 (⟨.sl 142, 1, 24, [.slice none 0 0]⟩) := ⟨⟨Try.t96, _, by kernel_rfl, rfl, rfl, rfl, rfl⟩, Try.underlying96⟩
theorem ty97 : tyOk Try.prog 97 (⟨.st [(0, 92), (1, 93), (2, 94), (3, 95), (4, 95), (5, 95), (6, 96)], 7, 168, [.slice none 0 0, .slice none 0 0, .slice none 0 0, .slice none 0 0, .slice none 0 0, .slice none 0 0, .slice none 0 0]⟩) := ⟨⟨Try.t97, _, by kernel_rfl, rfl, rfl, rfl, rfl⟩, ⟨_, [(0, 1), (1, 1), (2, 1), (3, 1), (4, 1), (5, 1), (6, 1)], Try.underlying97, by kernel_rfl, by kernel_rfl⟩⟩
theorem ty98 : tyOk Try.prog 98 (⟨.st [(0, 92), (1, 93), (2, 94), (3, 95), (4, 95), (5, 95), (6, 96)], 7, 168, [.slice none 0 0, .slice none 0 0, .slice none 0 0, .slice none 0 0, .slice none 0 0, .slice none 0 0, .slice none 0 0]⟩) := ⟨⟨Try.t98, _, by kernel_rfl, rfl, rfl, rfl, rfl⟩, ⟨_, [(0, 1), (1, 1), (2, 1), (3, 1), (4, 1), (5, 1), (6, 1)], Try.underlying98, by kernel_rfl, by kernel_rfl⟩⟩
theorem ty99 : tyOk Try.prog 99 (⟨.st [], 0, 0, []⟩) := ⟨⟨Try.t99, _, by kernel_rfl, rfl, rfl, rfl, rfl⟩, ⟨_, [], Try.underlying99, by kernel_rfl, by kernel_rfl⟩⟩
theorem ty100 : tyOk Try.prog 100 (⟨.st [], 0, 0, []⟩) := ⟨⟨Try.t100, _, by kernel_rfl, rfl, rfl, rfl, rfl⟩, ⟨_, [], Try.underlying100, by kernel_rfl, by kernel_rfl⟩⟩
theorem ty101 : tyOk Try.prog 101 (⟨.fn, 1, 8, [.nilFunc]⟩) := ⟨⟨Try.t101, _, by kernel_rfl, rfl, rfl, rfl, rfl⟩, ⟨_, _, _, Try.underlying101⟩⟩
theorem ty102 : tyOk Try.prog 102 (⟨.fn, 1, 8, [.nilFunc]⟩) := ⟨⟨Try.t102, _, by kernel_rfl, rfl, rfl, rfl, rfl⟩, ⟨_, _, _, Try.underlying102⟩⟩
theorem ty103 : tyOk Try.prog 103 (⟨.fn, 1, 8, [.nilFunc]⟩) := ⟨⟨Try.t103, _, by kernel_rfl, rfl, rfl, rfl, rfl⟩, ⟨_, _, _, Try.underlying103⟩⟩
theorem ty104 : tyOk Try.prog 104 (⟨.fn, 1, 8, [.nilFunc]⟩) := ⟨⟨Try.t104, _, by kernel_rfl, rfl, rfl, rfl, rfl⟩, ⟨_, _, _, Try.underlying104⟩⟩
theorem ty105 : tyOk Try.prog 105 (⟨.fn, 1, 8, [.nilFunc]⟩) := ⟨⟨Try.t105, _, by kernel_rfl, rfl, rfl, rfl, rfl⟩, ⟨_, _, _, Try.underlying105⟩⟩
theorem ty106 : tyOk Try.prog 106 (⟨.st [(0, 22), (1, 24)], 2, 32, [.int .u16 0, .slice none 0 0]⟩) := ⟨⟨Try.t106, _, by kernel_rfl, rfl, rfl, rfl, rfl⟩, ⟨_, [(0, 1), (1, 1)], Try.underlying106, by kernel_rfl, by kernel_rfl⟩⟩
theorem ty107 : tyOk Try.prog 107 (⟨.st [(0, 22), (1, 24)], 2, 32, [.int .u16 0, .slice none 0 0]⟩) := ⟨⟨Try.t107, _, by kernel_rfl, rfl, rfl, rfl, rfl⟩, ⟨_, [(0, 1), (1, 1)], Try.underlying107, by kernel_rfl, by kernel_rfl⟩⟩
theorem ty108 : tyOk Try.prog 108 (⟨.st [(0, 24), (1, 22)], 2, 32, [.slice none 0 0, .int .u16 0]⟩) := ⟨⟨Try.t108, _, by kernel_rfl, rfl, rfl, rfl, rfl⟩, ⟨_, [(0, 1), (1, 1)], Try.underlying108, by kernel_rfl, by kernel_rfl⟩⟩
theorem ty109 : tyOk Try.prog 109 (⟨.st [(0, 24), (1, 22)], 2, 32, [.slice none 0 0, .int .u16 0]⟩) := ⟨⟨Try.t109, _, by kernel_rfl, rfl, rfl, rfl, rfl⟩, ⟨_, [(0, 1), (1, 1)], Try.underlying109, by kernel_rfl, by kernel_rfl⟩⟩
theorem ty110 : tyOk Try.prog 110 (⟨.sl 95, 1, 24, [.slice none 0 0]⟩) := ⟨⟨Try.t110, _, by kernel_rfl, rfl, rfl, rfl, rfl⟩, Try.underlying110⟩
theorem ty111 : tyOk Try.prog 111 (⟨.fn, 1, 8, [.nilFunc]⟩) := ⟨⟨Try.t111, _, by kernel_rfl, rfl, rfl, rfl, rfl⟩, ⟨_, _, _, Try.underlying111⟩⟩
theorem ty112 : tyOk Try.prog 112 (⟨.fn, 1, 8, [.nilFunc]⟩) := ⟨⟨Try.t112, _, by kernel_rfl, rfl, rfl, rfl, rfl⟩, ⟨_, _, _, Try.underlying112⟩⟩
theorem ty113 : tyOk Try.prog 113 (⟨.fn, 1, 8, [.nilFunc]⟩) := ⟨⟨Try.t113, _, by kernel_rfl, rfl, rfl, rfl, rfl⟩, ⟨_, _, _, Try.underlying113⟩⟩
theorem ty114 : tyOk Try.prog 114 (⟨.fn, 1, 8, [.nilFunc]⟩) := ⟨⟨Try.t114, _, by kernel_rfl, rfl, rfl, rfl, rfl⟩, ⟨_, _, _, Try.underlying114⟩⟩
theorem ty115 : tyOk Try.prog 115 (⟨.fn, 1, 8, [.nilFunc]⟩) := ⟨⟨Try.t115, _, by kernel_rfl, rfl, rfl, rfl, rfl⟩, ⟨_, _, _, Try.underlying115⟩⟩
theorem ty116 : tyOk Try.prog 116 (⟨.fn, 1, 8, [.nilFunc]⟩) := ⟨⟨Try.t116, _, by kernel_rfl, rfl, rfl, rfl, rfl⟩, ⟨_, _, _, Try.underlying116⟩⟩
theorem ty117 : tyOk Try.prog 117 (⟨.fn, 1, 8, [.nilFunc]⟩) := ⟨⟨Try.t117, _, by kernel_rfl, rfl, rfl, rfl, rfl⟩, ⟨_, _, _, Try.underlying117⟩⟩
theorem ty118 : tyOk Try.prog 118 (⟨.fn, 1, 8, [.nilFunc]⟩) := ⟨⟨Try.t118, _, by kernel_rfl, rfl, rfl, rfl, rfl⟩, ⟨_, _, _, Try.underlying118⟩⟩
theorem ty119 : tyOk Try.prog 119 (⟨.fn, 1, 8, [.nilFunc]⟩) := ⟨⟨Try.t119, _, by kernel_rfl, rfl, rfl, rfl, rfl⟩, ⟨_, _, _, Try.underlying119⟩⟩
theorem ty120 : tyOk Try.prog 120 (⟨.ptr, 1, 8, [.pointer none]⟩) := ⟨⟨Try.t120, _, by kernel_rfl, rfl, rfl, rfl, rfl⟩, ⟨_, Try.underlying120⟩⟩
theorem ty121 : tyOk Try.prog 121 (⟨.fn, 1, 8, [.nilFunc]⟩) := ⟨⟨Try.t121, _, by kernel_rfl, rfl, rfl, rfl, rfl⟩, ⟨_, _, _, Try.underlying121⟩⟩
theorem ty122 : tyOk Try.prog 122 (⟨.st [(0, 17), (1, 17), (2, 17), (3, 9)], 4, 40, [.pointer none, .pointer none, .pointer none, .string ⟨#[]⟩]⟩) := ⟨⟨Try.t122, _, by kernel_rfl, rfl, rfl, rfl, rfl⟩, ⟨_, [(0, 1), (1, 1), (2, 1), (3, 1)], Try.underlying122, by kernel_rfl, by kernel_rfl⟩⟩
theorem ty123 : tyOk Try.prog 123 (⟨.st [(0, 17), (1, 17), (2, 17), (3, 9)], 4, 40, [.pointer none, .pointer none, .pointer none, .string ⟨#[]⟩]⟩) := ⟨⟨Try.t123, _, by kernel_rfl, rfl, rfl, rfl, rfl⟩, ⟨_, [(0, 1), (1, 1), (2, 1), (3, 1)], Try.underlying123, by kernel_rfl, by kernel_rfl⟩⟩
theorem ty124 : tyOk Try.prog 124 (⟨.arr 0 16, 0, 0, []⟩) := ⟨⟨Try.t124, _, by kernel_rfl, rfl, rfl, rfl, rfl⟩, Try.underlying124⟩
theorem ty125 : tyOk Try.prog 125 (⟨.st [(0, 124)], 0, 0, []⟩) := ⟨⟨Try.t125, _, by kernel_rfl, rfl, rfl, rfl, rfl⟩, ⟨_, [(0, 0)], Try.underlying125, by kernel_rfl, by kernel_rfl⟩⟩
theorem ty126 : tyOk Try.prog 126 (⟨.st [(0, 124)], 0, 0, []⟩) := ⟨⟨Try.t126, _, by kernel_rfl, rfl, rfl, rfl, rfl⟩, ⟨_, [(0, 0)], Try.underlying126, by kernel_rfl, by kernel_rfl⟩⟩
theorem ty127 : tyOk Try.prog 127 (⟨.fn, 1, 8, [.nilFunc]⟩) := ⟨⟨Try.t127, _, by kernel_rfl, rfl, rfl, rfl, rfl⟩, ⟨_, _, _, Try.underlying127⟩⟩
theorem ty128 : tyOk Try.prog 128 (⟨.int .u32, 1, 4, [.int .u32 0]⟩) := ⟨⟨Try.t128, _, by kernel_rfl, rfl, rfl, rfl, rfl⟩, Try.underlying128⟩
theorem ty129 : tyOk Try.prog 129 (⟨.int .u8, 1, 1, [.int .u8 0]⟩) := ⟨⟨Try.t129, _, by kernel_rfl, rfl, rfl, rfl, rfl⟩, Try.underlying129⟩
theorem ty130 : tyOk Try.prog 130 (⟨.int .u8, 1, 1, [.int .u8 0]⟩) := ⟨⟨Try.t130, _, by kernel_rfl, rfl, rfl, rfl, rfl⟩, Try.underlying130⟩
theorem ty131 : tyOk Try.prog 131 (⟨.fn, 1, 8, [.nilFunc]⟩) := ⟨⟨Try.t131, _, by kernel_rfl, rfl, rfl, rfl, rfl⟩, ⟨_, _, _, Try.underlying131⟩⟩
theorem ty132 : tyOk Try.prog 132 (⟨.ptr, 1, 8, [.pointer none]⟩) := ⟨⟨Try.t132, _, by kernel_rfl, rfl, rfl, rfl, rfl⟩, ⟨_, Try.underlying132⟩⟩
theorem ty133 : tyOk Try.prog 133 (⟨.int .i32, 1, 4, [.int .i32 0]⟩) := ⟨⟨Try.t133, _, by kernel_rfl, rfl, rfl, rfl, rfl⟩, Try.underlying133⟩
theorem ty134 : tyOk Try.prog 134 (⟨.int .i32, 1, 4, [.int .i32 0]⟩) := ⟨⟨Try.t134, _, by kernel_rfl, rfl, rfl, rfl, rfl⟩, Try.underlying134⟩
theorem ty135 : tyOk Try.prog 135 (⟨.st [(0, 12), (1, 12), (2, 128), (3, 129), (4, 5), (5, 5), (6, 130), (7, 131), (8, 132), (9, 133), (10, 134)], 11, 48, [.int .u64 0, .int .u64 0, .int .u32 0, .int .u8 0, .int .u8 0, .int .u8 0, .int .u8 0, .nilFunc, .pointer none, .int .i32 0, .int .i32 0]⟩) := ⟨⟨Try.t135, _, by kernel_rfl, rfl, rfl, rfl, rfl⟩, ⟨_, [(0, 1), (1, 1), (2, 1), (3, 1), (4, 1), (5, 1), (6, 1), (7, 1), (8, 1), (9, 1), (10, 1)], Try.underlying135, by kernel_rfl, by kernel_rfl⟩⟩
theorem ty136 : tyOk Try.prog 136 (⟨.st [(0, 12), (1, 12), (2, 128), (3, 129), (4, 5), (5, 5), (6, 130), (7, 131), (8, 132), (9, 133), (10, 134)], 11, 48, [.int .u64 0, .int .u64 0, .int .u32 0, .int .u8 0, .int .u8 0, .int .u8 0, .int .u8 0, .nilFunc, .pointer none, .int .i32 0, .int .i32 0]⟩) := ⟨⟨Try.t136, _, by kernel_rfl, rfl, rfl, rfl, rfl⟩, ⟨_, [(0, 1), (1, 1), (2, 1), (3, 1), (4, 1), (5, 1), (6, 1), (7, 1), (8, 1), (9, 1), (10, 1)], Try.underlying136, by kernel_rfl, by kernel_rfl⟩⟩
theorem ty137 : tyOk Try.prog 137 (⟨.st [(0, 21), (1, 22)], 2, 8, [.int .i32 0, .int .u16 0]⟩) := ⟨⟨Try.t137, _, by kernel_rfl, rfl, rfl, rfl, rfl⟩, ⟨_, [(0, 1), (1, 1)], Try.underlying137, by kernel_rfl, by kernel_rfl⟩⟩
theorem ty138 : tyOk Try.prog 138 (⟨.st [(0, 21), (1, 22)], 2, 8, [.int .i32 0, .int .u16 0]⟩) := ⟨⟨Try.t138, _, by kernel_rfl, rfl, rfl, rfl, rfl⟩, ⟨_, [(0, 1), (1, 1)], Try.underlying138, by kernel_rfl, by kernel_rfl⟩⟩
theorem ty139 : tyOk Try.prog 139 (⟨.st [(0, 22), (1, 22)], 2, 4, [.int .u16 0, .int .u16 0]⟩) := ⟨⟨Try.t139, _, by kernel_rfl, rfl, rfl, rfl, rfl⟩, ⟨_, [(0, 1), (1, 1)], Try.underlying139, by kernel_rfl, by kernel_rfl⟩⟩
theorem ty140 : tyOk Try.prog 140 (⟨.st [(0, 22), (1, 22)], 2, 4, [.int .u16 0, .int .u16 0]⟩) := ⟨⟨Try.t140, _, by kernel_rfl, rfl, rfl, rfl, rfl⟩, ⟨_, [(0, 1), (1, 1)], Try.underlying140, by kernel_rfl, by kernel_rfl⟩⟩
theorem ty141 : tyOk Try.prog 141 (⟨.st [(0, 3), (1, 3)], 2, 16, [.int .i64 0, .int .i64 0]⟩) := ⟨⟨Try.t141, _, by kernel_rfl, rfl, rfl, rfl, rfl⟩, ⟨_, [(0, 1), (1, 1)], Try.underlying141, by kernel_rfl, by kernel_rfl⟩⟩
theorem ty142 : tyOk Try.prog 142 (⟨.st [(0, 3), (1, 3)], 2, 16, [.int .i64 0, .int .i64 0]⟩) := ⟨⟨Try.t142, _, by kernel_rfl, rfl, rfl, rfl, rfl⟩, ⟨_, [(0, 1), (1, 1)], Try.underlying142, by kernel_rfl, by kernel_rfl⟩⟩
theorem ty143 : tyOk Try.prog 143 (⟨.other, 0, 0, []⟩) := rfl
theorem ttok : TTok Try.prog tt := fun t => match t with
  | 0 => ty0
  | 1 => ty1
  | 2 => ty2
  | 3 => ty3
  | 4 => ty4
  | 5 => ty5
  | 6 => ty6
  | 7 => ty7
  | 8 => ty8
  | 9 => ty9
  | 10 => ty10
  | 11 => ty11
  | 12 => ty12
  | 13 => ty13
  | 14 => ty14
  | 15 => ty15
  | 16 => ty16
  | 17 => ty17
  | 18 => ty18
  | 19 => ty19
  | 20 => ty20
  | 21 => ty21
  | 22 => ty22
  | 23 => ty23
  | 24 => ty24
  | 25 => ty25
  | 26 => ty26
  | 27 => ty27
  | 28 => ty28
  | 29 => ty29
  | 30 => ty30
  | 31 => ty31
  | 32 => ty32
  | 33 => ty33
  | 34 => ty34
  | 35 => ty35
  | 36 => ty36
  | 37 => ty37
  | 38 => ty38
  | 39 => ty39
  | 40 => ty40
  | 41 => ty41
  | 42 => ty42
  | 43 => ty43
  | 44 => ty44
  | 45 => ty45
  | 46 => ty46
  | 47 => ty47
  | 48 => ty48
  | 49 => ty49
  | 50 => ty50
  | 51 => ty51
  | 52 => ty52
  | 53 => ty53
  | 54 => ty54
  | 55 => ty55
  | 56 => ty56
  | 57 => ty57
  | 58 => ty58
  | 59 => ty59
  | 60 => ty60
  | 61 => ty61
  | 62 => ty62
  | 63 => ty63
  | 64 => ty64
  | 65 => ty65
  | 66 => ty66
  | 67 => ty67
  | 68 => ty68
  | 69 => ty69
  | 70 => ty70
  | 71 => ty71
  | 72 => ty72
  | 73 => ty73
  | 74 => ty74
  | 75 => ty75
  | 76 => ty76
  | 77 => ty77
  | 78 => ty78
  | 79 => ty79
  | 80 => ty80
  | 81 => ty81
  | 82 => ty82
  | 83 => ty83
  | 84 => ty84
  | 85 => ty85
  | 86 => ty86
  | 87 => ty87
  | 88 => ty88
  | 89 => ty89
  | 90 => ty90
  | 91 => ty91
  | 92 => ty92
  | 93 => ty93
  | 94 => ty94
  | 95 => ty95
  | 96 => ty96
  | 97 => ty97
  | 98 => ty98
  | 99 => ty99
  | 100 => ty100
  | 101 => ty101
  | 102 => ty102
  | 103 => ty103
  | 104 => ty104
  | 105 => ty105
  | 106 => ty106
  | 107 => ty107
  | 108 => ty108
  | 109 => ty109
  | 110 => ty110
  | 111 => ty111
  | 112 => ty112
  | 113 => ty113
  | 114 => ty114
  | 115 => ty115
  | 116 => ty116
  | 117 => ty117
  | 118 => ty118
  | 119 => ty119
  | 120 => ty120
  | 121 => ty121
  | 122 => ty122
  | 123 => ty123
  | 124 => ty124
  | 125 => ty125
  | 126 => ty126
  | 127 => ty127
  | 128 => ty128
  | 129 => ty129
  | 130 => ty130
  | 131 => ty131
  | 132 => ty132
  | 133 => ty133
  | 134 => ty134
  | 135 => ty135
  | 136 => ty136
  | 137 => ty137
  | 138 => ty138
  | 139 => ty139
  | 140 => ty140
  | 141 => ty141
  | 142 => ty142
  | 143 => ty143
  | _ + 144 => rfl

noncomputable def cf : Cfg := { P := Try.prog, tt := tt, fns := [3, 4, 5, 6, 7, 8, 9, 10, 11, 12, 13, 14, 15, 16, 17, 18, 19, 20, 21, 22, 23, 24, 25, 26, 27, 28, 29, 30, 31, 32, 33, 34, 35, 36, 37, 38, 39] }

theorem cfok : CfgOk cf where
  mix := by kernel_rfl
  tt := ttok
  fns := List.forall_mem_cons.2 ⟨Try.call3, List.forall_mem_cons.2 ⟨Try.call4, List.forall_mem_cons.2 ⟨Try.call5, List.forall_mem_cons.2 ⟨Try.call6, List.forall_mem_cons.2 ⟨Try.call7, List.forall_mem_cons.2 ⟨Try.call8, List.forall_mem_cons.2 ⟨Try.call9, List.forall_mem_cons.2 ⟨Try.call10, List.forall_mem_cons.2 ⟨Try.call11, List.forall_mem_cons.2 ⟨Try.call12, List.forall_mem_cons.2 ⟨Try.call13, List.forall_mem_cons.2 ⟨Try.call14, List.forall_mem_cons.2 ⟨Try.call15, List.forall_mem_cons.2 ⟨Try.call16, List.forall_mem_cons.2 ⟨Try.call17, List.forall_mem_cons.2 ⟨Try.call18, List.forall_mem_cons.2 ⟨Try.call19, List.forall_mem_cons.2 ⟨Try.call20, List.forall_mem_cons.2 ⟨Try.call21, List.forall_mem_cons.2 ⟨Try.call22, List.forall_mem_cons.2 ⟨Try.call23, List.forall_mem_cons.2 ⟨Try.call24, List.forall_mem_cons.2 ⟨Try.call25, List.forall_mem_cons.2 ⟨Try.call26, List.forall_mem_cons.2 ⟨Try.call27, List.forall_mem_cons.2 ⟨Try.call28, List.forall_mem_cons.2 ⟨Try.call29, List.forall_mem_cons.2 ⟨Try.call30, List.forall_mem_cons.2 ⟨Try.call31, List.forall_mem_cons.2 ⟨Try.call32, List.forall_mem_cons.2 ⟨Try.call33, List.forall_mem_cons.2 ⟨Try.call34, List.forall_mem_cons.2 ⟨Try.call35, List.forall_mem_cons.2 ⟨Try.call36, List.forall_mem_cons.2 ⟨Try.call37, List.forall_mem_cons.2 ⟨Try.call38, List.forall_mem_cons.2 ⟨Try.call39, List.forall_mem_nil _⟩⟩⟩⟩⟩⟩⟩⟩⟩⟩⟩⟩⟩⟩⟩⟩⟩⟩⟩⟩⟩⟩⟩⟩⟩⟩⟩⟩⟩⟩⟩⟩⟩⟩⟩⟩⟩

/-
  0: main.main
  1: gosem.cut
  2: gosem.cut.init
  3: calamus/calamuslaw17.AttachMeets
  4: calamus/calamuslaw17.AttachKerns
  5: calamus/calamuslaw17.AttachPens
  6: calamus/calamuslaw17.few
  7: calamus/calamuslaw17.works
  8: calamus/attach.Apply
  9: calamus/font.Advance
  10: calamus/attach.Origins
  11: calamus/calamuslaw17.points
  12: calamus/calamuskit.Weight
  13: calamus/calamuslaw17.example
  14: calamus/attach.guard
  15: calamus/attach.on
  16: (*calamus/attach.worker).by
  17: (*calamus/attach.worker).passed
  18: calamus/attach.Origins$1
  19: calamus/attach.row
  20: calamus/attach.narrow
  21: calamus/calamuskit.subWeight
  22: slices.ContainsFunc[[]calamus/api.Feature,calamus/api.Feature]
  23: calamus/attach.on$1
  24: slices.Contains[[]int,int]
  25: (*calamus/attach.worker).kern
  26: (*calamus/attach.worker).base
  27: (*calamus/attach.worker).mark
  28: (*calamus/attach.worker).by$1
  29: calamus/font.Class
  30: calamus/attach.row$1
  31: slices.IndexFunc[[]calamus/api.Feature,calamus/api.Feature]
  32: slices.Index[[]int,int]
  33: slices.IndexFunc[[]calamus/api.Kern,calamus/api.Kern]
  34: (*calamus/attach.worker).kern$1
  35: (*calamus/attach.worker).stand
  36: slices.IndexFunc[[]calamus/api.Mark,calamus/api.Mark]
  37: (*calamus/attach.worker).stand$1
  38: slices.IndexFunc[[]calamus/api.Base,calamus/api.Base]
  39: (*calamus/attach.worker).stand$2
  40: (runtime.boundsError).Error
  41: (runtime.boundsError).RuntimeError
  42: (runtime.errorString).Error
  43: (runtime.errorString).RuntimeError
  44: (runtime.plainError).Error
  45: (runtime.plainError).RuntimeError
  46: (runtime.errorAddressString).Error
  47: (runtime.errorAddressString).RuntimeError
  48: (*runtime.TypeAssertionError).Error
  49: (*runtime.TypeAssertionError).RuntimeError
  50: (*runtime.PanicNilError).Error
  51: (*runtime.PanicNilError).RuntimeError
  52: (*internal/abi.Type).Align
  53: (internal/runtime/maps.unhashableTypeError).Error
  54: (internal/runtime/maps.unhashableTypeError).RuntimeError
  55: (calamus/api.Errno).Error
  56: (internal/abi.Kind).String
-/
end Go.Proofs.Ytaiapnemlnmeiaa
