import Derived.Test.YtjflgkadagkllaaEng
import Derived.Test.YtjflgkadagkllaaProg
namespace Go.Proofs.Ytjflgkadagkllaa
open Go Go.Eng

def tt : TT := [
  ⟨.other, 0, 0, []⟩,
  ⟨.fn, 1, 8, [.nilFunc]⟩,
  ⟨.int .i64, 1, 8, [.int .i64 0]⟩,
  ⟨.int .i64, 1, 8, [.int .i64 0]⟩,
  ⟨.bool, 1, 1, [.bool false]⟩,
  ⟨.int .u8, 1, 1, [.int .u8 0]⟩,
  ⟨.int .u8, 1, 1, [.int .u8 0]⟩,
  ⟨.st [(0, 2), (1, 3), (2, 4), (3, 6)], 4, 24, [.int .i64 0, .int .i64 0, .bool false, .int .u8 0]⟩,
  ⟨.st [(0, 2), (1, 3), (2, 4), (3, 6)], 4, 24, [.int .i64 0, .int .i64 0, .bool false, .int .u8 0]⟩,
  ⟨.str, 1, 16, [.string ⟨#[]⟩]⟩,
  ⟨.str, 1, 16, [.string ⟨#[]⟩]⟩,
  ⟨.str, 1, 16, [.string ⟨#[]⟩]⟩,
  ⟨.int .u64, 1, 8, [.int .u64 0]⟩,
  ⟨.st [(0, 9), (1, 12)], 2, 24, [.string ⟨#[]⟩, .int .u64 0]⟩,
  ⟨.st [(0, 9), (1, 12)], 2, 24, [.string ⟨#[]⟩, .int .u64 0]⟩,
  ⟨.ptr, 1, 8, [.pointer none]⟩,
  ⟨.ptr, 1, 8, [.pointer none]⟩,
  ⟨.ptr, 1, 8, [.pointer none]⟩,
  ⟨.st [(0, 17)], 1, 8, [.pointer none]⟩,
  ⟨.st [(0, 17)], 1, 8, [.pointer none]⟩,
  ⟨.other, 0, 0, []⟩,
  ⟨.int .i32, 1, 4, [.int .i32 0]⟩,
  ⟨.sl 5, 1, 24, [.slice none 0 0]⟩,
  ⟨.fn, 1, 8, [.nilFunc]⟩,
  ⟨.sl 51, 1, 24, [.slice none 0 0]⟩,
  ⟨.sl 43, 1, 24, [.slice none 0 0]⟩,
  ⟨.int .i64, 1, 8, [.int .i64 0]⟩,
  ⟨.other, 0, 0, []⟩,
  ⟨.fn, 1, 8, [.nilFunc]⟩,
  ⟨.ptr, 1, 8, [.pointer none]⟩,
  ⟨.fn, 1, 8, [.nilFunc]⟩,
  ⟨.fn, 1, 8, [.nilFunc]⟩,
  ⟨.fn, 1, 8, [.nilFunc]⟩,
  ⟨.fn, 1, 8, [.nilFunc]⟩,
  ⟨.fn, 1, 8, [.nilFunc]⟩,
  ⟨.fn, 1, 8, [.nilFunc]⟩,
  ⟨.fn, 1, 8, [.nilFunc]⟩,
  ⟨.fn, 1, 8, [.nilFunc]⟩,
  ⟨.fn, 1, 8, [.nilFunc]⟩,
  ⟨.arr 4 5, 4, 4, [.int .u8 0, .int .u8 0, .int .u8 0, .int .u8 0]⟩,
  ⟨.arr 4 5, 4, 4, [.int .u8 0, .int .u8 0, .int .u8 0, .int .u8 0]⟩,
  ⟨.sl 3, 1, 24, [.slice none 0 0]⟩,
  ⟨.st [(0, 40), (4, 41)], 5, 32, [.int .u8 0, .int .u8 0, .int .u8 0, .int .u8 0, .slice none 0 0]⟩,
  ⟨.st [(0, 40), (4, 41)], 5, 32, [.int .u8 0, .int .u8 0, .int .u8 0, .int .u8 0, .slice none 0 0]⟩,
  ⟨.fn, 1, 8, [.nilFunc]⟩,
  ⟨.fn, 1, 8, [.nilFunc]⟩,
  ⟨.fn, 1, 8, [.nilFunc]⟩,
  ⟨.int .u16, 1, 2, [.int .u16 0]⟩,
  ⟨.sl 109, 1, 24, [.slice none 0 0]⟩,
  ⟨.sl 56, 1, 24, [.slice none 0 0]⟩,
  ⟨.st [(0, 47), (1, 47), (2, 48), (3, 49)], 4, 56, [.int .u16 0, .int .u16 0, .slice none 0 0, .slice none 0 0]⟩,
  ⟨.st [(0, 47), (1, 47), (2, 48), (3, 49)], 4, 56, [.int .u16 0, .int .u16 0, .slice none 0 0, .slice none 0 0]⟩,
  ⟨.sl 135, 1, 24, [.slice none 0 0]⟩,
  ⟨.sl 59, 1, 24, [.slice none 0 0]⟩,
  ⟨.sl 62, 1, 24, [.slice none 0 0]⟩,
  ⟨.st [(0, 52), (1, 53), (2, 54)], 3, 72, [.slice none 0 0, .slice none 0 0, .slice none 0 0]⟩,
  ⟨.st [(0, 52), (1, 53), (2, 54)], 3, 72, [.slice none 0 0, .slice none 0 0, .slice none 0 0]⟩,
  ⟨.int .i16, 1, 2, [.int .i16 0]⟩,
  ⟨.st [(0, 47), (1, 47), (2, 57), (3, 57)], 4, 8, [.int .u16 0, .int .u16 0, .int .i16 0, .int .i16 0]⟩,
  ⟨.st [(0, 47), (1, 47), (2, 57), (3, 57)], 4, 8, [.int .u16 0, .int .u16 0, .int .i16 0, .int .i16 0]⟩,
  ⟨.sl 64, 1, 24, [.slice none 0 0]⟩,
  ⟨.st [(0, 47), (1, 60)], 2, 32, [.int .u16 0, .slice none 0 0]⟩,
  ⟨.st [(0, 47), (1, 60)], 2, 32, [.int .u16 0, .slice none 0 0]⟩,
  ⟨.st [(0, 4), (1, 57), (2, 57)], 3, 6, [.bool false, .int .i16 0, .int .i16 0]⟩,
  ⟨.st [(0, 4), (1, 57), (2, 57)], 3, 6, [.bool false, .int .i16 0, .int .i16 0]⟩,
  ⟨.st [], 0, 0, []⟩,
  ⟨.st [], 0, 0, []⟩,
  ⟨.other, 0, 0, []⟩,
  ⟨.fn, 1, 8, [.nilFunc]⟩,
  ⟨.fn, 1, 8, [.nilFunc]⟩,
  ⟨.fn, 1, 8, [.nilFunc]⟩,
  ⟨.sl 77, 1, 24, [.slice none 0 0]⟩,
  ⟨.other, 0, 0, []⟩,
  ⟨.fn, 1, 8, [.nilFunc]⟩,
  ⟨.other, 0, 0, []⟩,
  ⟨.fn, 1, 8, [.nilFunc]⟩,
  ⟨.st [(0, 47), (1, 47), (2, 41)], 3, 32, [.int .u16 0, .int .u16 0, .slice none 0 0]⟩,
  ⟨.st [(0, 47), (1, 47), (2, 41)], 3, 32, [.int .u16 0, .int .u16 0, .slice none 0 0]⟩,
  ⟨.ptr, 1, 8, [.pointer none]⟩,
  ⟨.st [(0, 29), (1, 3), (2, 3)], 3, 24, [.pointer none, .int .i64 0, .int .i64 0]⟩,
  ⟨.st [(0, 29), (1, 3), (2, 3)], 3, 24, [.pointer none, .int .i64 0, .int .i64 0]⟩,
  ⟨.other, 0, 0, []⟩,
  ⟨.other, 0, 0, []⟩,
  ⟨.fn, 1, 8, [.nilFunc]⟩,
  ⟨.st [], 0, 0, []⟩,
  ⟨.st [(0, 4)], 1, 1, [.bool false]⟩,
  ⟨.st [(0, 4)], 1, 1, [.bool false]⟩,
  ⟨.fn, 1, 8, [.nilFunc]⟩,
  ⟨.ptr, 1, 8, [.pointer none]⟩,
  ⟨.st [(0, 4)], 1, 1, [.bool false]⟩,
  ⟨.st [(0, 4)], 1, 1, [.bool false]⟩,
  ⟨.fn, 1, 8, [.nilFunc]⟩,
  ⟨.st [(0, 88), (1, 22)], 2, 32, [.pointer none, .slice none 0 0]⟩,
  ⟨.st [(0, 88), (1, 22)], 2, 32, [.pointer none, .slice none 0 0]⟩,
  ⟨.sl 100, 1, 24, [.slice none 0 0]⟩,
  ⟨.other, 0, 0, []⟩,
  ⟨.fn, 1, 8, [.nilFunc]⟩,
  ⟨.ptr, 1, 8, [.pointer none]⟩,
  ⟨.st [(0, 22), (1, 3), (2, 3), (3, 4)], 4, 48, [.slice none 0 0, .int .i64 0, .int .i64 0, .bool false]⟩,
  ⟨.st [(0, 22), (1, 3), (2, 3), (3, 4)], 4, 48, [.slice none 0 0, .int .i64 0, .int .i64 0, .bool false]⟩,
  ⟨.st [(0, 47), (1, 47), (2, 41)], 3, 32, [.int .u16 0, .int .u16 0, .slice none 0 0]⟩,
  ⟨.fn, 1, 8, [.nilFunc]⟩,
  ⟨.fn, 1, 8, [.nilFunc]⟩,
  ⟨.sl 140, 1, 24, [.slice none 0 0]⟩,
  ⟨.sl 142, 1, 24, [.slice none 0 0]⟩,
  ⟨.sl 145, 1, 24, [.slice none 0 0]⟩,
  ⟨.sl 122, 1, 24, [.slice none 0 0]⟩,
  ⟨.sl 147, 1, 24, [.slice none 0 0]⟩,
  ⟨.st [(0, 103), (1, 104), (2, 105), (3, 106), (4, 106), (5, 106), (6, 107)], 7, 168, [.slice none 0 0, .slice none 0 0, .slice none 0 0, .slice none 0 0, .slice none 0 0, .slice none 0 0, .slice none 0 0]⟩,
  ⟨.st [(0, 103), (1, 104), (2, 105), (3, 106), (4, 106), (5, 106), (6, 107)], 7, 168, [.slice none 0 0, .slice none 0 0, .slice none 0 0, .slice none 0 0, .slice none 0 0, .slice none 0 0, .slice none 0 0]⟩,
  ⟨.fn, 1, 8, [.nilFunc]⟩,
  ⟨.fn, 1, 8, [.nilFunc]⟩,
  ⟨.fn, 1, 8, [.nilFunc]⟩,
  ⟨.fn, 1, 8, [.nilFunc]⟩,
  ⟨.fn, 1, 8, [.nilFunc]⟩,
  ⟨.sl 22, 1, 24, [.slice none 0 0]⟩,
  ⟨.fn, 1, 8, [.nilFunc]⟩,
  ⟨.fn, 1, 8, [.nilFunc]⟩,
  ⟨.int .u64, 1, 8, [.int .u64 0]⟩,
  ⟨.int .u32, 1, 4, [.int .u32 0]⟩,
  ⟨.fn, 1, 8, [.nilFunc]⟩,
  ⟨.fn, 1, 8, [.nilFunc]⟩,
  ⟨.sl 47, 1, 24, [.slice none 0 0]⟩,
  ⟨.fn, 1, 8, [.nilFunc]⟩,
  ⟨.fn, 1, 8, [.nilFunc]⟩,
  ⟨.fn, 1, 8, [.nilFunc]⟩,
  ⟨.fn, 1, 8, [.nilFunc]⟩,
  ⟨.fn, 1, 8, [.nilFunc]⟩,
  ⟨.other, 0, 0, []⟩,
  ⟨.fn, 1, 8, [.nilFunc]⟩,
  ⟨.fn, 1, 8, [.nilFunc]⟩,
  ⟨.fn, 1, 8, [.nilFunc]⟩,
  ⟨.fn, 1, 8, [.nilFunc]⟩,
  ⟨.fn, 1, 8, [.nilFunc]⟩,
  ⟨.st [(0, 47), (1, 47), (2, 57)], 3, 6, [.int .u16 0, .int .u16 0, .int .i16 0]⟩,
  ⟨.st [(0, 47), (1, 47), (2, 57)], 3, 6, [.int .u16 0, .int .u16 0, .int .i16 0]⟩,
  ⟨.other, 0, 0, []⟩,
  ⟨.fn, 1, 8, [.nilFunc]⟩,
  ⟨.fn, 1, 8, [.nilFunc]⟩,
  ⟨.st [(0, 47), (1, 47)], 2, 4, [.int .u16 0, .int .u16 0]⟩,
  ⟨.st [(0, 47), (1, 47)], 2, 4, [.int .u16 0, .int .u16 0]⟩,
  ⟨.st [(0, 47), (1, 122)], 2, 32, [.int .u16 0, .slice none 0 0]⟩,
  ⟨.st [(0, 47), (1, 122)], 2, 32, [.int .u16 0, .slice none 0 0]⟩,
  ⟨.fn, 1, 8, [.nilFunc]⟩,
  ⟨.st [(0, 122), (1, 47)], 2, 32, [.slice none 0 0, .int .u16 0]⟩,
  ⟨.st [(0, 122), (1, 47)], 2, 32, [.slice none 0 0, .int .u16 0]⟩,
  ⟨.st [(0, 3), (1, 3)], 2, 16, [.int .i64 0, .int .i64 0]⟩,
  ⟨.st [(0, 3), (1, 3)], 2, 16, [.int .i64 0, .int .i64 0]⟩,
  ⟨.fn, 1, 8, [.nilFunc]⟩,
  ⟨.fn, 1, 8, [.nilFunc]⟩,
  ⟨.sl 106, 1, 24, [.slice none 0 0]⟩,
  ⟨.fn, 1, 8, [.nilFunc]⟩,
  ⟨.fn, 1, 8, [.nilFunc]⟩,
  ⟨.other, 0, 0, []⟩,
  ⟨.fn, 1, 8, [.nilFunc]⟩,
  ⟨.fn, 1, 8, [.nilFunc]⟩,
  ⟨.fn, 1, 8, [.nilFunc]⟩,
  ⟨.fn, 1, 8, [.nilFunc]⟩,
  ⟨.other, 0, 0, []⟩,
  ⟨.fn, 1, 8, [.nilFunc]⟩,
  ⟨.fn, 1, 8, [.nilFunc]⟩,
  ⟨.fn, 1, 8, [.nilFunc]⟩,
  ⟨.fn, 1, 8, [.nilFunc]⟩,
  ⟨.fn, 1, 8, [.nilFunc]⟩,
  ⟨.fn, 1, 8, [.nilFunc]⟩,
  ⟨.fn, 1, 8, [.nilFunc]⟩,
  ⟨.fn, 1, 8, [.nilFunc]⟩,
  ⟨.other, 0, 0, []⟩,
  ⟨.fn, 1, 8, [.nilFunc]⟩,
  ⟨.fn, 1, 8, [.nilFunc]⟩,
  ⟨.fn, 1, 8, [.nilFunc]⟩,
  ⟨.int .i64, 1, 8, [.int .i64 0]⟩,
  ⟨.other, 0, 0, []⟩,
  ⟨.fn, 1, 8, [.nilFunc]⟩,
  ⟨.fn, 1, 8, [.nilFunc]⟩,
  ⟨.fn, 1, 8, [.nilFunc]⟩,
  ⟨.fn, 1, 8, [.nilFunc]⟩,
  ⟨.other, 0, 0, []⟩,
  ⟨.fn, 1, 8, [.nilFunc]⟩,
  ⟨.fn, 1, 8, [.nilFunc]⟩,
  ⟨.fn, 1, 8, [.nilFunc]⟩,
  ⟨.int .u64, 1, 8, [.int .u64 0]⟩,
  ⟨.fn, 1, 8, [.nilFunc]⟩,
  ⟨.int .u64, 1, 8, [.int .u64 0]⟩,
  ⟨.fn, 1, 8, [.nilFunc]⟩,
  ⟨.fn, 1, 8, [.nilFunc]⟩,
  ⟨.fn, 1, 8, [.nilFunc]⟩,
  ⟨.ptr, 1, 8, [.pointer none]⟩,
  ⟨.fn, 1, 8, [.nilFunc]⟩,
  ⟨.fn, 1, 8, [.nilFunc]⟩,
  ⟨.ptr, 1, 8, [.pointer none]⟩,
  ⟨.other, 0, 0, []⟩,
  ⟨.fn, 1, 8, [.nilFunc]⟩,
  ⟨.fn, 1, 8, [.nilFunc]⟩,
  ⟨.st [(0, 17), (1, 17), (2, 17), (3, 9)], 4, 40, [.pointer none, .pointer none, .pointer none, .string ⟨#[]⟩]⟩,
  ⟨.st [(0, 17), (1, 17), (2, 17), (3, 9)], 4, 40, [.pointer none, .pointer none, .pointer none, .string ⟨#[]⟩]⟩,
  ⟨.arr 0 16, 0, 0, []⟩,
  ⟨.st [(0, 196)], 0, 0, []⟩,
  ⟨.st [(0, 196)], 0, 0, []⟩,
  ⟨.int .u8, 1, 1, [.int .u8 0]⟩,
  ⟨.int .u8, 1, 1, [.int .u8 0]⟩,
  ⟨.fn, 1, 8, [.nilFunc]⟩,
  ⟨.ptr, 1, 8, [.pointer none]⟩,
  ⟨.int .i32, 1, 4, [.int .i32 0]⟩,
  ⟨.int .i32, 1, 4, [.int .i32 0]⟩,
  ⟨.st [(0, 12), (1, 12), (2, 119), (3, 199), (4, 5), (5, 5), (6, 200), (7, 201), (8, 202), (9, 203), (10, 204)], 11, 48, [.int .u64 0, .int .u64 0, .int .u32 0, .int .u8 0, .int .u8 0, .int .u8 0, .int .u8 0, .nilFunc, .pointer none, .int .i32 0, .int .i32 0]⟩,
  ⟨.st [(0, 12), (1, 12), (2, 119), (3, 199), (4, 5), (5, 5), (6, 200), (7, 201), (8, 202), (9, 203), (10, 204)], 11, 48, [.int .u64 0, .int .u64 0, .int .u32 0, .int .u8 0, .int .u8 0, .int .u8 0, .int .u8 0, .nilFunc, .pointer none, .int .i32 0, .int .i32 0]⟩,
  ⟨.fn, 1, 8, [.nilFunc]⟩,
  ⟨.fn, 1, 8, [.nilFunc]⟩,
  ⟨.fn, 1, 8, [.nilFunc]⟩,
  ⟨.fn, 1, 8, [.nilFunc]⟩,
  ⟨.st [(0, 3), (1, 3), (2, 3)], 3, 24, [.int .i64 0, .int .i64 0, .int .i64 0]⟩,
  ⟨.st [(0, 3), (1, 3), (2, 3)], 3, 24, [.int .i64 0, .int .i64 0, .int .i64 0]⟩,
  ⟨.fn, 1, 8, [.nilFunc]⟩,
  ⟨.other, 0, 0, []⟩]

theorem ty0 : tyOk Try.prog 0 (⟨.other, 0, 0, []⟩) := rfl
theorem ty1 : tyOk Try.prog 1 (⟨.fn, 1, 8, [.nilFunc]⟩) := ⟨⟨Try.t1, _, by kernel_rfl, rfl, rfl, rfl, rfl⟩, ⟨_, _, _, Try.underlying1⟩⟩
theorem ty2 : tyOk Try.prog 2 (⟨.int .i64, 1, 8, [.int .i64 0]⟩) := ⟨⟨Try.t2, _, by kernel_rfl, rfl, rfl, rfl, rfl⟩, Try.underlying2⟩
theorem ty3 : tyOk Try.prog 3 (⟨.int .i64, 1, 8, [.int .i64 0]⟩) := ⟨⟨Try.t3, _, by kernel_rfl, rfl, rfl, rfl, rfl⟩, Try.underlying3⟩
theorem ty4 : tyOk Try.prog 4 (⟨.bool, 1, 1, [.bool false]⟩) := ⟨⟨Try.t4, _, by kernel_rfl, rfl, rfl, rfl, rfl⟩, Try.underlying4⟩
theorem ty5 : tyOk Try.prog 5 (⟨.int .u8, 1, 1, [.int .u8 0]⟩) := ⟨⟨Try.t5, _, by kernel_rfl, rfl, rfl, rfl, rfl⟩, Try.underlying5⟩
theorem ty6 : tyOk Try.prog 6 (⟨.int .u8, 1, 1, [.int .u8 0]⟩) := ⟨⟨Try.t6, _, by kernel_rfl, rfl, rfl, rfl, rfl⟩, Try.underlying6⟩
theorem ty7 : tyOk Try.prog 7 (⟨.st [(0, 2), (1, 3), (2, 4), (3, 6)], 4, 24, [.int .i64 0, .int .i64 0, .bool false, .int .u8 0]⟩) := ⟨⟨Try.t7, _, by kernel_rfl, rfl, rfl, rfl, rfl⟩, ⟨_, [(0, 1), (1, 1), (2, 1), (3, 1)], Try.underlying7, by kernel_rfl, by kernel_rfl⟩⟩
theorem ty8 : tyOk Try.prog 8 (⟨.st [(0, 2), (1, 3), (2, 4), (3, 6)], 4, 24, [.int .i64 0, .int .i64 0, .bool false, .int .u8 0]⟩) := ⟨⟨Try.t8, _, by kernel_rfl, rfl, rfl, rfl, rfl⟩, ⟨_, [(0, 1), (1, 1), (2, 1), (3, 1)], Try.underlying8, by kernel_rfl, by kernel_rfl⟩⟩
theorem ty9 : tyOk Try.prog 9 (⟨.str, 1, 16, [.string ⟨#[]⟩]⟩) := ⟨⟨Try.t9, _, by kernel_rfl, rfl, rfl, rfl, rfl⟩, Try.underlying9⟩
theorem ty10 : tyOk Try.prog 10 (⟨.str, 1, 16, [.string ⟨#[]⟩]⟩) := ⟨⟨Try.t10, _, by kernel_rfl, rfl, rfl, rfl, rfl⟩, Try.underlying10⟩
theorem ty11 : tyOk Try.prog 11 (⟨.str, 1, 16, [.string ⟨#[]⟩]⟩) := ⟨⟨Try.t11, _, by kernel_rfl, rfl, rfl, rfl, rfl⟩, Try.underlying11⟩
theorem ty12 : tyOk Try.prog 12 (⟨.int .u64, 1, 8, [.int .u64 0]⟩) := ⟨⟨Try.t12, _, by kernel_rfl, rfl, rfl, rfl, rfl⟩, Try.underlying12⟩
theorem ty13 : tyOk Try.prog 13 (⟨.st [(0, 9), (1, 12)], 2, 24, [.string ⟨#[]⟩, .int .u64 0]⟩) := ⟨⟨Try.t13, _, by kernel_rfl, rfl, rfl, rfl, rfl⟩, ⟨_, [(0, 1), (1, 1)], Try.underlying13, by kernel_rfl, by kernel_rfl⟩⟩
theorem ty14 : tyOk Try.prog 14 (⟨.st [(0, 9), (1, 12)], 2, 24, [.string ⟨#[]⟩, .int .u64 0]⟩) := ⟨⟨Try.t14, _, by kernel_rfl, rfl, rfl, rfl, rfl⟩, ⟨_, [(0, 1), (1, 1)], Try.underlying14, by kernel_rfl, by kernel_rfl⟩⟩
theorem ty15 : tyOk Try.prog 15 (⟨.ptr, 1, 8, [.pointer none]⟩) := ⟨⟨Try.t15, _, by kernel_rfl, rfl, rfl, rfl, rfl⟩, ⟨_, Try.underlying15⟩⟩
theorem ty16 : tyOk Try.prog 16 (⟨.ptr, 1, 8, [.pointer none]⟩) := ⟨⟨Try.t16, _, by kernel_rfl, rfl, rfl, rfl, rfl⟩, ⟨_, Try.underlying16⟩⟩
theorem ty17 : tyOk Try.prog 17 (⟨.ptr, 1, 8, [.pointer none]⟩) := ⟨⟨Try.t17, _, by kernel_rfl, rfl, rfl, rfl, rfl⟩, ⟨_, Try.underlying17⟩⟩
theorem ty18 : tyOk Try.prog 18 (⟨.st [(0, 17)], 1, 8, [.pointer none]⟩) := ⟨⟨Try.t18, _, by kernel_rfl, rfl, rfl, rfl, rfl⟩, ⟨_, [(0, 1)], Try.underlying18, by kernel_rfl, by kernel_rfl⟩⟩
theorem ty19 : tyOk Try.prog 19 (⟨.st [(0, 17)], 1, 8, [.pointer none]⟩) := ⟨⟨Try.t19, _, by kernel_rfl, rfl, rfl, rfl, rfl⟩, ⟨_, [(0, 1)], Try.underlying19, by kernel_rfl, by kernel_rfl⟩⟩
theorem ty20 : tyOk Try.prog 20 (⟨.other, 0, 0, []⟩) := rfl
theorem ty21 : tyOk Try.prog 21 (⟨.int .i32, 1, 4, [.int .i32 0]⟩) := ⟨⟨Try.t21, _, by kernel_rfl, rfl, rfl, rfl, rfl⟩, Try.underlying21⟩
theorem ty22 : tyOk Try.prog 22 (⟨.sl 5, 1, 24, [.slice none 0 0]⟩) := ⟨⟨Try.t22, _, by kernel_rfl, rfl, rfl, rfl, rfl⟩, Try.underlying22⟩
theorem ty23 : tyOk Try.prog 23 (⟨.fn, 1, 8, [.nilFunc]⟩) := ⟨⟨Try.t23, _, by kernel_rfl, rfl, rfl, rfl, rfl⟩, ⟨_, _, _, Try.underlying23⟩⟩
theorem ty24 : tyOk Try.prog 24 (⟨.sl 51, 1, 24, [.slice none 0 0]⟩) := ⟨⟨Try.t24, _, by kernel_rfl, rfl, rfl, rfl, rfl⟩, Try.underlying24⟩
theorem ty25 : tyOk Try.prog 25 (⟨.sl 43, 1, 24, [.slice none 0 0]⟩) := ⟨⟨Try.t25, _, by kernel_rfl, rfl, rfl, rfl, rfl⟩, Try.underlying25⟩
theorem ty26 : tyOk Try.prog 26 (⟨.int .i64, 1, 8, [.int .i64 0]⟩) := ⟨⟨Try.t26, _, by kernel_rfl, rfl, rfl, rfl, rfl⟩, Try.underlying26⟩
theorem ty27 : tyOk Try.prog 27 (⟨.other, 0, 0, []⟩) := rfl
theorem ty28 : tyOk Try.prog 28 (⟨.fn, 1, 8, [.nilFunc]⟩) := ⟨⟨Try.t28, _, by kernel_rfl, rfl, rfl, rfl, rfl⟩, ⟨_, _, _, Try.underlying28⟩⟩
theorem ty29 : tyOk Try.prog 29 (⟨.ptr, 1, 8, [.pointer none]⟩) := ⟨⟨Try.t29, _, by kernel_rfl, rfl, rfl, rfl, rfl⟩, ⟨_, Try.underlying29⟩⟩
theorem ty30 : tyOk Try.prog 30 (⟨.fn, 1, 8, [.nilFunc]⟩) := ⟨⟨Try.t30, _, by kernel_rfl, rfl, rfl, rfl, rfl⟩, ⟨_, _, _, Try.underlying30⟩⟩
theorem ty31 : tyOk Try.prog 31 (⟨.fn, 1, 8, [.nilFunc]⟩) := ⟨⟨Try.t31, _, by kernel_rfl, rfl, rfl, rfl, rfl⟩, ⟨_, _, _, Try.underlying31⟩⟩
theorem ty32 : tyOk Try.prog 32 (⟨.fn, 1, 8, [.nilFunc]⟩) := ⟨⟨Try.t32, _, by kernel_rfl, rfl, rfl, rfl, rfl⟩, ⟨_, _, _, Try.underlying32⟩⟩
theorem ty33 : tyOk Try.prog 33 (⟨.fn, 1, 8, [.nilFunc]⟩) := ⟨⟨Try.t33, _, by kernel_rfl, rfl, rfl, rfl, rfl⟩, ⟨_, _, _, Try.underlying33⟩⟩
theorem ty34 : tyOk Try.prog 34 (⟨.fn, 1, 8, [.nilFunc]⟩) := ⟨⟨Try.t34, _, by kernel_rfl, rfl, rfl, rfl, rfl⟩, ⟨_, _, _, Try.underlying34⟩⟩
theorem ty35 : tyOk Try.prog 35 (⟨.fn, 1, 8, [.nilFunc]⟩) := ⟨⟨Try.t35, _, by kernel_rfl, rfl, rfl, rfl, rfl⟩, ⟨_, _, _, Try.underlying35⟩⟩
theorem ty36 : tyOk Try.prog 36 (⟨.fn, 1, 8, [.nilFunc]⟩) := ⟨⟨Try.t36, _, by kernel_rfl, rfl, rfl, rfl, rfl⟩, ⟨_, _, _, Try.underlying36⟩⟩
theorem ty37 : tyOk Try.prog 37 (⟨.fn, 1, 8, [.nilFunc]⟩) := ⟨⟨Try.t37, _, by kernel_rfl, rfl, rfl, rfl, rfl⟩, ⟨_, _, _, Try.underlying37⟩⟩
theorem ty38 : tyOk Try.prog 38 (⟨.fn, 1, 8, [.nilFunc]⟩) := ⟨⟨Try.t38, _, by kernel_rfl, rfl, rfl, rfl, rfl⟩, ⟨_, _, _, Try.underlying38⟩⟩
theorem ty39 : tyOk Try.prog 39 (⟨.arr 4 5, 4, 4, [.int .u8 0, .int .u8 0, .int .u8 0, .int .u8 0]⟩) := ⟨⟨Try.t39, _, by kernel_rfl, rfl, rfl, rfl, rfl⟩, Try.underlying39⟩
theorem ty40 : tyOk Try.prog 40 (⟨.arr 4 5, 4, 4, [.int .u8 0, .int .u8 0, .int .u8 0, .int .u8 0]⟩) := ⟨⟨Try.t40, _, by kernel_rfl, rfl, rfl, rfl, rfl⟩, Try.underlying40⟩
theorem ty41 : tyOk Try.prog 41 (⟨.sl 3, 1, 24, [.slice none 0 0]⟩) := ⟨⟨Try.t41, _, by kernel_rfl, rfl, rfl, rfl, rfl⟩, Try.underlying41⟩
theorem ty42 : tyOk Try.prog 42 (⟨.st [(0, 40), (4, 41)], 5, 32, [.int .u8 0, .int .u8 0, .int .u8 0, .int .u8 0, .slice none 0 0]⟩) := ⟨⟨Try.t42, _, by kernel_rfl, rfl, rfl, rfl, rfl⟩, ⟨_, [(0, 4), (4, 1)], Try.underlying42, by kernel_rfl, by kernel_rfl⟩⟩
theorem ty43 : tyOk Try.prog 43 (⟨.st [(0, 40), (4, 41)], 5, 32, [.int .u8 0, .int .u8 0, .int .u8 0, .int .u8 0, .slice none 0 0]⟩) := ⟨⟨Try.t43, _, by kernel_rfl, rfl, rfl, rfl, rfl⟩, ⟨_, [(0, 4), (4, 1)], Try.underlying43, by kernel_rfl, by kernel_rfl⟩⟩
theorem ty44 : tyOk Try.prog 44 (⟨.fn, 1, 8, [.nilFunc]⟩) := ⟨⟨Try.t44, _, by kernel_rfl, rfl, rfl, rfl, rfl⟩, ⟨_, _, _, Try.underlying44⟩⟩
theorem ty45 : tyOk Try.prog 45 (⟨.fn, 1, 8, [.nilFunc]⟩) := ⟨⟨Try.t45, _, by kernel_rfl, rfl, rfl, rfl, rfl⟩, ⟨_, _, _, Try.underlying45⟩⟩
theorem ty46 : tyOk Try.prog 46 (⟨.fn, 1, 8, [.nilFunc]⟩) := ⟨⟨Try.t46, _, by kernel_rfl, rfl, rfl, rfl, rfl⟩, ⟨_, _, _, Try.underlying46⟩⟩
theorem ty47 : tyOk Try.prog 47 (⟨.int .u16, 1, 2, [.int .u16 0]⟩) := ⟨⟨Try.t47, _, by kernel_rfl, rfl, rfl, rfl, rfl⟩, Try.underlying47⟩
theorem ty48 : tyOk Try.prog 48 (⟨.sl 109, 1, 24, [.slice none 0 0]⟩) := ⟨⟨Try.t48, _, by kernel_rfl, rfl, rfl, rfl, rfl⟩, Try.underlying48⟩
theorem ty49 : tyOk Try.prog 49 (⟨.sl 56, 1, 24, [.slice none 0 0]⟩) := ⟨⟨Try.t49, _, by kernel_rfl, rfl, rfl, rfl, rfl⟩, Try.underlying49⟩
theorem ty50 : tyOk Try.prog 50 (⟨.st [(0, 47), (1, 47), (2, 48), (3, 49)], 4, 56, [.int .u16 0, .int .u16 0, .slice none 0 0, .slice none 0 0]⟩) := ⟨⟨Try.t50, _, by kernel_rfl, rfl, rfl, rfl, rfl⟩, ⟨_, [(0, 1), (1, 1), (2, 1), (3, 1)], Try.underlying50, by kernel_rfl, by kernel_rfl⟩⟩
theorem ty51 : tyOk Try.prog 51 (⟨.st [(0, 47), (1, 47), (2, 48), (3, 49)], 4, 56, [.int .u16 0, .int .u16 0, .slice none 0 0, .slice none 0 0]⟩) := ⟨⟨Try.t51, _, by kernel_rfl, rfl, rfl, rfl, rfl⟩, ⟨_, [(0, 1), (1, 1), (2, 1), (3, 1)], Try.underlying51, by kernel_rfl, by kernel_rfl⟩⟩
theorem ty52 : tyOk Try.prog 52 (⟨.sl 135, 1, 24, [.slice none 0 0]⟩) := ⟨⟨Try.t52, _, by kernel_rfl, rfl, rfl, rfl, rfl⟩, Try.underlying52⟩
theorem ty53 : tyOk Try.prog 53 (⟨.sl 59, 1, 24, [.slice none 0 0]⟩) := ⟨⟨Try.t53, _, by kernel_rfl, rfl, rfl, rfl, rfl⟩, Try.underlying53⟩
theorem ty54 : tyOk Try.prog 54 (⟨.sl 62, 1, 24, [.slice none 0 0]⟩) := ⟨⟨Try.t54, _, by kernel_rfl, rfl, rfl, rfl, rfl⟩, Try.underlying54⟩
theorem ty55 : tyOk Try.prog 55 (⟨.st [(0, 52), (1, 53), (2, 54)], 3, 72, [.slice none 0 0, .slice none 0 0, .slice none 0 0]⟩) := ⟨⟨Try.t55, _, by kernel_rfl, rfl, rfl, rfl, rfl⟩, ⟨_, [(0, 1), (1, 1), (2, 1)], Try.underlying55, by kernel_rfl, by kernel_rfl⟩⟩
theorem ty56 : tyOk Try.prog 56 (⟨.st [(0, 52), (1, 53), (2, 54)], 3, 72, [.slice none 0 0, .slice none 0 0, .slice none 0 0]⟩) := ⟨⟨Try.t56, _, by kernel_rfl, rfl, rfl, rfl, rfl⟩, ⟨_, [(0, 1), (1, 1), (2, 1)], Try.underlying56, by kernel_rfl, by kernel_rfl⟩⟩
theorem ty57 : tyOk Try.prog 57 (⟨.int .i16, 1, 2, [.int .i16 0]⟩) := ⟨⟨Try.t57, _, by kernel_rfl, rfl, rfl, rfl, rfl⟩, Try.underlying57⟩
theorem ty58 : tyOk Try.prog 58 (⟨.st [(0, 47), (1, 47), (2, 57), (3, 57)], 4, 8, [.int .u16 0, .int .u16 0, .int .i16 0, .int .i16 0]⟩) := ⟨⟨Try.t58, _, by kernel_rfl, rfl, rfl, rfl, rfl⟩, ⟨_, [(0, 1), (1, 1), (2, 1), (3, 1)], Try.underlying58, by kernel_rfl, by kernel_rfl⟩⟩
theorem ty59 : tyOk Try.prog 59 (⟨.st [(0, 47), (1, 47), (2, 57), (3, 57)], 4, 8, [.int .u16 0, .int .u16 0, .int .i16 0, .int .i16 0]⟩) := ⟨⟨Try.t59, _, by kernel_rfl, rfl, rfl, rfl, rfl⟩, ⟨_, [(0, 1), (1, 1), (2, 1), (3, 1)], Try.underlying59, by kernel_rfl, by kernel_rfl⟩⟩
theorem ty60 : tyOk Try.prog 60 (⟨.sl 64, 1, 24, [.slice none 0 0]⟩) := ⟨⟨Try.t60, _, by kernel_rfl, rfl, rfl, rfl, rfl⟩, Try.underlying60⟩
theorem ty61 : tyOk Try.prog 61 (⟨.st [(0, 47), (1, 60)], 2, 32, [.int .u16 0, .slice none 0 0]⟩) := ⟨⟨Try.t61, _, by kernel_rfl, rfl, rfl, rfl, rfl⟩, ⟨_, [(0, 1), (1, 1)], Try.underlying61, by kernel_rfl, by kernel_rfl⟩⟩
theorem ty62 : tyOk Try.prog 62 (⟨.st [(0, 47), (1, 60)], 2, 32, [.int .u16 0, .slice none 0 0]⟩) := ⟨⟨Try.t62, _, by kernel_rfl, rfl, rfl, rfl, rfl⟩, ⟨_, [(0, 1), (1, 1)], Try.underlying62, by kernel_rfl, by kernel_rfl⟩⟩
theorem ty63 : tyOk Try.prog 63 (⟨.st [(0, 4), (1, 57), (2, 57)], 3, 6, [.bool false, .int .i16 0, .int .i16 0]⟩) := ⟨⟨Try.t63, _, by kernel_rfl, rfl, rfl, rfl, rfl⟩, ⟨_, [(0, 1), (1, 1), (2, 1)], Try.underlying63, by kernel_rfl, by kernel_rfl⟩⟩
theorem ty64 : tyOk Try.prog 64 (⟨.st [(0, 4), (1, 57), (2, 57)], 3, 6, [.bool false, .int .i16 0, .int .i16 0]⟩) := ⟨⟨Try.t64, _, by kernel_rfl, rfl, rfl, rfl, rfl⟩, ⟨_, [(0, 1), (1, 1), (2, 1)], Try.underlying64, by kernel_rfl, by kernel_rfl⟩⟩
theorem ty65 : tyOk Try.prog 65 (⟨.st [], 0, 0, []⟩) := ⟨⟨Try.t65, _, by kernel_rfl, rfl, rfl, rfl, rfl⟩, ⟨_, [], Try.underlying65, by kernel_rfl, by kernel_rfl⟩⟩
theorem ty66 : tyOk Try.prog 66 (⟨.st [], 0, 0, []⟩) := ⟨⟨Try.t66, _, by kernel_rfl, rfl, rfl, rfl, rfl⟩, ⟨_, [], Try.underlying66, by kernel_rfl, by kernel_rfl⟩⟩
theorem ty67 : tyOk Try.prog 67 (⟨.other, 0, 0, []⟩) := rfl
theorem ty68 : tyOk Try.prog 68 (⟨.fn, 1, 8, [.nilFunc]⟩) := ⟨⟨Try.t68, _, by kernel_rfl, rfl, rfl, rfl, rfl⟩, ⟨_, _, _, Try.underlying68⟩⟩
theorem ty69 : tyOk Try.prog 69 (⟨.fn, 1, 8, [.nilFunc]⟩) := ⟨⟨Try.t69, _, by kernel_rfl, rfl, rfl, rfl, rfl⟩, ⟨_, _, _, Try.underlying69⟩⟩
theorem ty70 : tyOk Try.prog 70 (⟨.fn, 1, 8, [.nilFunc]⟩) := ⟨⟨Try.t70, _, by kernel_rfl, rfl, rfl, rfl, rfl⟩, ⟨_, _, _, Try.underlying70⟩⟩
theorem ty71 : tyOk Try.prog 71 (⟨.sl 77, 1, 24, [.slice none 0 0]⟩) := ⟨⟨Try.t71, _, by kernel_rfl, rfl, rfl, rfl, rfl⟩, Try.underlying71⟩
theorem ty72 : tyOk Try.prog 72 (⟨.other, 0, 0, []⟩) := rfl
theorem ty73 : tyOk Try.prog 73 (⟨.fn, 1, 8, [.nilFunc]⟩) := ⟨⟨Try.t73, _, by kernel_rfl, rfl, rfl, rfl, rfl⟩, ⟨_, _, _, Try.underlying73⟩⟩
theorem ty74 : tyOk Try.prog 74 (⟨.other, 0, 0, []⟩) := rfl
theorem ty75 : tyOk Try.prog 75 (⟨.fn, 1, 8, [.nilFunc]⟩) := ⟨⟨Try.t75, _, by kernel_rfl, rfl, rfl, rfl, rfl⟩, ⟨_, _, _, Try.underlying75⟩⟩
theorem ty76 : tyOk Try.prog 76 (⟨.st [(0, 47), (1, 47), (2, 41)], 3, 32, [.int .u16 0, .int .u16 0, .slice none 0 0]⟩) := ⟨⟨Try.t76, _, by kernel_rfl, rfl, rfl, rfl, rfl⟩, ⟨_, [(0, 1), (1, 1), (2, 1)], Try.underlying76, by kernel_rfl, by kernel_rfl⟩⟩
theorem ty77 : tyOk Try.prog 77 (⟨.st [(0, 47), (1, 47), (2, 41)], 3, 32, [.int .u16 0, .int .u16 0, .slice none 0 0]⟩) := ⟨⟨Try.t77, _, by kernel_rfl, rfl, rfl, rfl, rfl⟩, ⟨_, [(0, 1), (1, 1), (2, 1)], Try.underlying77, by kernel_rfl, by kernel_rfl⟩⟩
theorem ty78 : tyOk Try.prog 78 (⟨.ptr, 1, 8, [.pointer none]⟩) := ⟨⟨Try.t78, _, by kernel_rfl, rfl, rfl, rfl, rfl⟩, ⟨_, Try.underlying78⟩⟩
theorem ty79 : tyOk Try.prog 79 (⟨.st [(0, 29), (1, 3), (2, 3)], 3, 24, [.pointer none, .int .i64 0, .int .i64 0]⟩) := ⟨⟨Try.t79, _, by kernel_rfl, rfl, rfl, rfl, rfl⟩, ⟨_, [(0, 1), (1, 1), (2, 1)], Try.underlying79, by kernel_rfl, by kernel_rfl⟩⟩
theorem ty80 : tyOk Try.prog 80 (⟨.st [(0, 29), (1, 3), (2, 3)], 3, 24, [.pointer none, .int .i64 0, .int .i64 0]⟩) := ⟨⟨Try.t80, _, by kernel_rfl, rfl, rfl, rfl, rfl⟩, ⟨_, [(0, 1), (1, 1), (2, 1)], Try.underlying80, by kernel_rfl, by kernel_rfl⟩⟩
theorem ty81 : tyOk Try.prog 81 (⟨.other, 0, 0, []⟩) := rfl
theorem ty82 : tyOk Try.prog 82 (⟨.other, 0, 0, []⟩) := rfl
theorem ty83 : tyOk Try.prog 83 (⟨.fn, 1, 8, [.nilFunc]⟩) := ⟨⟨Try.t83, _, by kernel_rfl, rfl, rfl, rfl, rfl⟩, ⟨_, _, _, Try.underlying83⟩⟩
theorem ty84 : tyOk Try.prog 84 (⟨.st [], 0, 0, []⟩) := ⟨⟨Try.t84, _, by kernel_rfl, rfl, rfl, rfl, rfl⟩, ⟨_, [], Try.underlying84, by kernel_rfl, by kernel_rfl⟩⟩
theorem ty85 : tyOk Try.prog 85 (⟨.st [(0, 4)], 1, 1, [.bool false]⟩) := ⟨⟨Try.t85, _, by kernel_rfl, rfl, rfl, rfl, rfl⟩, ⟨_, [(0, 1)], Try.underlying85, by kernel_rfl, by kernel_rfl⟩⟩
theorem ty86 : tyOk Try.prog 86 (⟨.st [(0, 4)], 1, 1, [.bool false]⟩) := ⟨⟨Try.t86, _, by kernel_rfl, rfl, rfl, rfl, rfl⟩, ⟨_, [(0, 1)], Try.underlying86, by kernel_rfl, by kernel_rfl⟩⟩
theorem ty87 : tyOk Try.prog 87 (⟨.fn, 1, 8, [.nilFunc]⟩) := ⟨⟨Try.t87, _, by kernel_rfl, rfl, rfl, rfl, rfl⟩, ⟨_, _, _, Try.underlying87⟩⟩
theorem ty88 : tyOk Try.prog 88 (⟨.ptr, 1, 8, [.pointer none]⟩) := ⟨⟨Try.t88, _, by kernel_rfl, rfl, rfl, rfl, rfl⟩, ⟨_, Try.underlying88⟩⟩
theorem ty89 : tyOk Try.prog 89 (⟨.st [(0, 4)], 1, 1, [.bool false]⟩) := ⟨⟨Try.t89, _, by kernel_rfl, rfl, rfl, rfl, rfl⟩, ⟨_, [(0, 1)], Try.underlying89, by kernel_rfl, by kernel_rfl⟩⟩
theorem ty90 : tyOk Try.prog 90 (⟨.st [(0, 4)], 1, 1, [.bool false]⟩) := ⟨⟨Try.t90, _, by kernel_rfl, rfl, rfl, rfl, rfl⟩, ⟨_, [(0, 1)], Try.underlying90, by kernel_rfl, by kernel_rfl⟩⟩
theorem ty91 : tyOk Try.prog 91 (⟨.fn, 1, 8, [.nilFunc]⟩) := ⟨⟨Try.t91, _, by kernel_rfl, rfl, rfl, rfl, rfl⟩, ⟨_, _, _, Try.underlying91⟩⟩
theorem ty92 : tyOk Try.prog 92 (⟨.st [(0, 88), (1, 22)], 2, 32, [.pointer none, .slice none 0 0]⟩) := ⟨⟨Try.t92, _, by kernel_rfl, rfl, rfl, rfl, rfl⟩, ⟨_, [(0, 1), (1, 1)], Try.underlying92, by kernel_rfl, by kernel_rfl⟩⟩
theorem ty93 : tyOk Try.prog 93 (⟨.st [(0, 88), (1, 22)], 2, 32, [.pointer none, .slice none 0 0]⟩) := ⟨⟨Try.t93, _, by kernel_rfl, rfl, rfl, rfl, rfl⟩, ⟨_, [(0, 1), (1, 1)], Try.underlying93, by kernel_rfl, by kernel_rfl⟩⟩
theorem ty94 : tyOk Try.prog 94 (⟨.sl 100, 1, 24, [.slice none 0 0]⟩) := ⟨⟨Try.t94, _, by kernel_rfl, rfl, rfl, rfl, rfl⟩, Try.underlying94⟩
theorem ty95 : tyOk Try.prog 95 (⟨.other, 0, 0, []⟩) := rfl
theorem ty96 : tyOk Try.prog 96 (⟨.fn, 1, 8, [.nilFunc]⟩) := ⟨⟨Try.t96, _, by kernel_rfl, rfl, rfl, rfl, rfl⟩, ⟨_, _, _, Try.underlying96⟩⟩
theorem ty97 : tyOk Try.prog 97 (⟨.ptr, 1, 8, [.pointer none]⟩) := ⟨⟨Try.t97, _, by kernel_rfl, rfl, rfl, rfl, rfl⟩, ⟨_, Try.underlying97⟩⟩
theorem ty98 : tyOk Try.prog 98 (⟨.st [(0, 22), (1, 3), (2, 3), (3, 4)], 4, 48, [.slice none 0 0, .int .i64 0, .int .i64 0, .bool false]⟩) := ⟨⟨Try.t98, _, by kernel_rfl, rfl, rfl, rfl, rfl⟩, ⟨_, [(0, 1), (1, 1), (2, 1), (3, 1)], Try.underlying98, by kernel_rfl, by kernel_rfl⟩⟩
theorem ty99 : tyOk Try.prog 99 (⟨.st [(0, 22), (1, 3), (2, 3), (3, 4)], 4, 48, [.slice none 0 0, .int .i64 0, .int .i64 0, .bool false]⟩) := ⟨⟨Try.t99, _, by kernel_rfl, rfl, rfl, rfl, rfl⟩, ⟨_, [(0, 1), (1, 1), (2, 1), (3, 1)], Try.underlying99, by kernel_rfl, by kernel_rfl⟩⟩
theorem ty100 : tyOk Try.prog 100 (⟨.st [(0, 47), (1, 47), (2, 41)], 3, 32, [.int .u16 0, .int .u16 0, .slice none 0 0]⟩) := ⟨⟨Try.t100, _, by kernel_rfl, rfl, rfl, rfl, rfl⟩, ⟨_, [(0, 1), (1, 1), (2, 1)], Try.underlying100, by kernel_rfl, by kernel_rfl⟩⟩
theorem ty101 : tyOk Try.prog 101 (⟨.fn, 1, 8, [.nilFunc]⟩) := ⟨⟨Try.t101, _, by kernel_rfl, rfl, rfl, rfl, rfl⟩, ⟨_, _, _, Try.underlying101⟩⟩
theorem ty102 : tyOk Try.prog 102 (⟨.fn, 1, 8, [.nilFunc]⟩) := ⟨⟨Try.t102, _, by kernel_rfl, rfl, rfl, rfl, rfl⟩, ⟨_, _, _, Try.underlying102⟩⟩
theorem ty103 : tyOk Try.prog 103 (⟨.sl 140, 1, 24, [.slice none 0 0]⟩) := ⟨⟨Try.t103, _, by kernel_rfl, rfl, rfl, rfl, rfl⟩, Try.underlying103⟩
theorem ty104 : tyOk Try.prog 104 (⟨.sl 142, 1, 24, [.slice none 0 0]⟩) := ⟨⟨Try.t104, _, by kernel_rfl, rfl, rfl, rfl, rfl⟩, Try.underlying104⟩
theorem ty105 : tyOk Try.prog 105 (⟨.sl 145, 1, 24, [.slice none 0 0]⟩) := ⟨⟨Try.t105, _, by kernel_rfl, rfl, rfl, rfl, rfl⟩, Try.underlying105⟩
theorem ty106 : tyOk Try.prog 106 (⟨.sl 122, 1, 24, [.slice none 0 0]⟩) := ⟨⟨Try.t106, _, by kernel_rfl, rfl, rfl, rfl, rfl⟩, Try.underlying106⟩
theorem ty107 : tyOk Try.prog 107 (⟨.sl 147, 1, 24, [.slice none 0 0]⟩) := ⟨⟨Try.t107, _, by kernel_rfl, rfl, rfl, rfl, rfl⟩, Try.underlying107⟩
theorem ty108 : tyOk Try.prog 108 (⟨.st [(0, 103), (1, 104), (2, 105), (3, 106), (4, 106), (5, 106), (6, 107)], 7, 168, [.slice none 0 0, .slice none 0 0, .slice none 0 0, .slice none 0 0, .slice none 0 0, .slice none 0 0, .slice none 0 0]⟩) := ⟨⟨Try.t108, _, by kernel_rfl, rfl, rfl, rfl, rfl⟩, ⟨_, [(0, 1), (1, 1), (2, 1), (3, 1), (4, 1), (5, 1), (6, 1)], Try.underlying108, by kernel_rfl, by kernel_rfl⟩⟩
theorem ty109 : tyOk Try.prog 109 (⟨.st [(0, 103), (1, 104), (2, 105), (3, 106), (4, 106), (5, 106), (6, 107)], 7, 168, [.slice none 0 0, .slice none 0 0, .slice none 0 0, .slice none 0 0, .slice none 0 0, .slice none 0 0, .slice none 0 0]⟩) := ⟨⟨Try.t109, _, by kernel_rfl, rfl, rfl, rfl, rfl⟩, ⟨_, [(0, 1), (1, 1), (2, 1), (3, 1), (4, 1), (5, 1), (6, 1)], Try.underlying109, by kernel_rfl, by kernel_rfl⟩⟩
theorem ty110 : tyOk Try.prog 110 (⟨.fn, 1, 8, [.nilFunc]⟩) := ⟨⟨Try.t110, _, by kernel_rfl, rfl, rfl, rfl, rfl⟩, ⟨_, _, _, Try.underlying110⟩⟩
theorem ty111 : tyOk Try.prog 111 (⟨.fn, 1, 8, [.nilFunc]⟩) := ⟨⟨Try.t111, _, by kernel_rfl, rfl, rfl, rfl, rfl⟩, ⟨_, _, _, Try.underlying111⟩⟩
theorem ty112 : tyOk Try.prog 112 (⟨.fn, 1, 8, [.nilFunc]⟩) := ⟨⟨Try.t112, _, by kernel_rfl, rfl, rfl, rfl, rfl⟩, ⟨_, _, _, Try.underlying112⟩⟩
theorem ty113 : tyOk Try.prog 113 (⟨.fn, 1, 8, [.nilFunc]⟩) := ⟨⟨Try.t113, _, by kernel_rfl, rfl, rfl, rfl, rfl⟩, ⟨_, _, _, Try.underlying113⟩⟩
theorem ty114 : tyOk Try.prog 114 (⟨.fn, 1, 8, [.nilFunc]⟩) := ⟨⟨Try.t114, _, by kernel_rfl, rfl, rfl, rfl, rfl⟩, ⟨_, _, _, Try.underlying114⟩⟩
theorem ty115 : tyOk Try.prog 115 (⟨.sl 22, 1, 24, [.slice none 0 0]⟩) := ⟨⟨Try.t115, _, by kernel_rfl, rfl, rfl, rfl, rfl⟩, Try.underlying115⟩
theorem ty116 : tyOk Try.prog 116 (⟨.fn, 1, 8, [.nilFunc]⟩) := ⟨⟨Try.t116, _, by kernel_rfl, rfl, rfl, rfl, rfl⟩, ⟨_, _, _, Try.underlying116⟩⟩
theorem ty117 : tyOk Try.prog 117 (⟨.fn, 1, 8, [.nilFunc]⟩) := ⟨⟨Try.t117, _, by kernel_rfl, rfl, rfl, rfl, rfl⟩, ⟨_, _, _, Try.underlying117⟩⟩
theorem ty118 : tyOk Try.prog 118 (⟨.int .u64, 1, 8, [.int .u64 0]⟩) := ⟨⟨Try.t118, _, by kernel_rfl, rfl, rfl, rfl, rfl⟩, Try.underlying118⟩
theorem ty119 : tyOk Try.prog 119 (⟨.int .u32, 1, 4, [.int .u32 0]⟩) := ⟨⟨Try.t119, _, by kernel_rfl, rfl, rfl, rfl, rfl⟩, Try.underlying119⟩
theorem ty120 : tyOk Try.prog 120 (⟨.fn, 1, 8, [.nilFunc]⟩) := ⟨⟨Try.t120, _, by kernel_rfl, rfl, rfl, rfl, rfl⟩, ⟨_, _, _, Try.underlying120⟩⟩
theorem ty121 : tyOk Try.prog 121 (⟨.fn, 1, 8, [.nilFunc]⟩) := ⟨⟨Try.t121, _, by kernel_rfl, rfl, rfl, rfl, rfl⟩, ⟨_, _, _, Try.underlying121⟩⟩
theorem ty122 : tyOk Try.prog 122 (⟨.sl 47, 1, 24, [.slice none 0 0]⟩) := ⟨⟨Try.t122, _, by kernel_rfl, rfl, rfl, rfl, rfl⟩, Try.underlying122⟩
theorem ty123 : tyOk Try.prog 123 (⟨.fn, 1, 8, [.nilFunc]⟩) := ⟨⟨Try.t123, _, by kernel_rfl, rfl, rfl, rfl, rfl⟩, ⟨_, _, _, Try.underlying123⟩⟩
theorem ty124 : tyOk Try.prog 124 (⟨.fn, 1, 8, [.nilFunc]⟩) := ⟨⟨Try.t124, _, by kernel_rfl, rfl, rfl, rfl, rfl⟩, ⟨_, _, _, Try.underlying124⟩⟩
theorem ty125 : tyOk Try.prog 125 (⟨.fn, 1, 8, [.nilFunc]⟩) := ⟨⟨Try.t125, _, by kernel_rfl, rfl, rfl, rfl, rfl⟩, ⟨_, _, _, Try.underlying125⟩⟩
theorem ty126 : tyOk Try.prog 126 (⟨.fn, 1, 8, [.nilFunc]⟩) := ⟨⟨Try.t126, _, by kernel_rfl, rfl, rfl, rfl, rfl⟩, ⟨_, _, _, Try.underlying126⟩⟩
theorem ty127 : tyOk Try.prog 127 (⟨.fn, 1, 8, [.nilFunc]⟩) := ⟨⟨Try.t127, _, by kernel_rfl, rfl, rfl, rfl, rfl⟩, ⟨_, _, _, Try.underlying127⟩⟩
theorem ty128 : tyOk Try.prog 128 (⟨.other, 0, 0, []⟩) := rfl
theorem ty129 : tyOk Try.prog 129 (⟨.fn, 1, 8, [.nilFunc]⟩) := ⟨⟨Try.t129, _, by kernel_rfl, rfl, rfl, rfl, rfl⟩, ⟨_, _, _, Try.underlying129⟩⟩
theorem ty130 : tyOk Try.prog 130 (⟨.fn, 1, 8, [.nilFunc]⟩) := ⟨⟨Try.t130, _, by kernel_rfl, rfl, rfl, rfl, rfl⟩, ⟨_, _, _, Try.underlying130⟩⟩
theorem ty131 : tyOk Try.prog 131 (⟨.fn, 1, 8, [.nilFunc]⟩) := ⟨⟨Try.t131, _, by kernel_rfl, rfl, rfl, rfl, rfl⟩, ⟨_, _, _, Try.underlying131⟩⟩
theorem ty132 : tyOk Try.prog 132 (⟨.fn, 1, 8, [.nilFunc]⟩) := ⟨⟨Try.t132, _, by kernel_rfl, rfl, rfl, rfl, rfl⟩, ⟨_, _, _, Try.underlying132⟩⟩
theorem ty133 : tyOk Try.prog 133 (⟨.fn, 1, 8, [.nilFunc]⟩) := ⟨⟨Try.t133, _, by kernel_rfl, rfl, rfl, rfl, rfl⟩, ⟨_, _, _, Try.underlying133⟩⟩
theorem ty134 : tyOk Try.prog 134 (⟨.st [(0, 47), (1, 47), (2, 57)], 3, 6, [.int .u16 0, .int .u16 0, .int .i16 0]⟩) := ⟨⟨Try.t134, _, by kernel_rfl, rfl, rfl, rfl, rfl⟩, ⟨_, [(0, 1), (1, 1), (2, 1)], Try.underlying134, by kernel_rfl, by kernel_rfl⟩⟩
theorem ty135 : tyOk Try.prog 135 (⟨.st [(0, 47), (1, 47), (2, 57)], 3, 6, [.int .u16 0, .int .u16 0, .int .i16 0]⟩) := ⟨⟨Try.t135, _, by kernel_rfl, rfl, rfl, rfl, rfl⟩, ⟨_, [(0, 1), (1, 1), (2, 1)], Try.underlying135, by kernel_rfl, by kernel_rfl⟩⟩
theorem ty136 : tyOk Try.prog 136 (⟨.other, 0, 0, []⟩) := rfl
theorem ty137 : tyOk Try.prog 137 (⟨.fn, 1, 8, [.nilFunc]⟩) := ⟨⟨Try.t137, _, by kernel_rfl, rfl, rfl, rfl, rfl⟩, ⟨_, _, _, Try.underlying137⟩⟩
theorem ty138 : tyOk Try.prog 138 (⟨.fn, 1, 8, [.nilFunc]⟩) := ⟨⟨Try.t138, _, by kernel_rfl, rfl, rfl, rfl, rfl⟩, ⟨_, _, _, Try.underlying138⟩⟩
theorem ty139 : tyOk Try.prog 139 (⟨.st [(0, 47), (1, 47)], 2, 4, [.int .u16 0, .int .u16 0]⟩) := ⟨⟨Try.t139, _, by kernel_rfl, rfl, rfl, rfl, rfl⟩, ⟨_, [(0, 1), (1, 1)], Try.underlying139, by kernel_rfl, by kernel_rfl⟩⟩
theorem ty140 : tyOk Try.prog 140 (⟨.st [(0, 47), (1, 47)], 2, 4, [.int .u16 0, .int .u16 0]⟩) := ⟨⟨Try.t140, _, by kernel_rfl, rfl, rfl, rfl, rfl⟩, ⟨_, [(0, 1), (1, 1)], Try.underlying140, by kernel_rfl, by kernel_rfl⟩⟩
theorem ty141 : tyOk Try.prog 141 (⟨.st [(0, 47), (1, 122)], 2, 32, [.int .u16 0, .slice none 0 0]⟩) := ⟨⟨Try.t141, _, by kernel_rfl, rfl, rfl, rfl, rfl⟩, ⟨_, [(0, 1), (1, 1)], Try.underlying141, by kernel_rfl, by kernel_rfl⟩⟩
theorem ty142 : tyOk Try.prog 142 (⟨.st [(0, 47), (1, 122)], 2, 32, [.int .u16 0, .slice none 0 0]⟩) := ⟨⟨Try.t142, _, by kernel_rfl, rfl, rfl, rfl, rfl⟩, ⟨_, [(0, 1), (1, 1)], Try.underlying142, by kernel_rfl, by kernel_rfl⟩⟩
theorem ty143 : tyOk Try.prog 143 (⟨.fn, 1, 8, [.nilFunc]⟩) := ⟨⟨Try.t143, _, by kernel_rfl, rfl, rfl, rfl, rfl⟩, ⟨_, _, _, Try.underlying143⟩⟩
theorem ty144 : tyOk Try.prog 144 (⟨.st [(0, 122), (1, 47)], 2, 32, [.slice none 0 0, .int .u16 0]⟩) := ⟨⟨Try.t144, _, by kernel_rfl, rfl, rfl, rfl, rfl⟩, ⟨_, [(0, 1), (1, 1)], Try.underlying144, by kernel_rfl, by kernel_rfl⟩⟩
theorem ty145 : tyOk Try.prog 145 (⟨.st [(0, 122), (1, 47)], 2, 32, [.slice none 0 0, .int .u16 0]⟩) := ⟨⟨Try.t145, _, by kernel_rfl, rfl, rfl, rfl, rfl⟩, ⟨_, [(0, 1), (1, 1)], Try.underlying145, by kernel_rfl, by kernel_rfl⟩⟩
theorem ty146 : tyOk Try.prog 146 (⟨.st [(0, 3), (1, 3)], 2, 16, [.int .i64 0, .int .i64 0]⟩) := ⟨⟨Try.t146, _, by kernel_rfl, rfl, rfl, rfl, rfl⟩, ⟨_, [(0, 1), (1, 1)], Try.underlying146, by kernel_rfl, by kernel_rfl⟩⟩
theorem ty147 : tyOk Try.prog 147 (⟨.st [(0, 3), (1, 3)], 2, 16, [.int .i64 0, .int .i64 0]⟩) := ⟨⟨Try.t147, _, by kernel_rfl, rfl, rfl, rfl, rfl⟩, ⟨_, [(0, 1), (1, 1)], Try.underlying147, by kernel_rfl, by kernel_rfl⟩⟩
theorem ty148 : tyOk Try.prog 148 (⟨.fn, 1, 8, [.nilFunc]⟩) := ⟨⟨Try.t148, _, by kernel_rfl, rfl, rfl, rfl, rfl⟩, ⟨_, _, _, Try.underlying148⟩⟩
theorem ty149 : tyOk Try.prog 149 (⟨.fn, 1, 8, [.nilFunc]⟩) := ⟨⟨Try.t149, _, by kernel_rfl, rfl, rfl, rfl, rfl⟩, ⟨_, _, _, Try.underlying149⟩⟩
theorem ty150 : tyOk Try.prog 150 (⟨.sl 106, 1, 24, [.slice none 0 0]⟩) := ⟨⟨Try.t150, _, by kernel_rfl, rfl, rfl, rfl, rfl⟩, Try.underlying150⟩
theorem ty151 : tyOk Try.prog 151 (⟨.fn, 1, 8, [.nilFunc]⟩) := ⟨⟨Try.t151, _, by kernel_rfl, rfl, rfl, rfl, rfl⟩, ⟨_, _, _, Try.underlying151⟩⟩
theorem ty152 : tyOk Try.prog 152 (⟨.fn, 1, 8, [.nilFunc]⟩) := ⟨⟨Try.t152, _, by kernel_rfl, rfl, rfl, rfl, rfl⟩, ⟨_, _, _, Try.underlying152⟩⟩
theorem ty153 : tyOk Try.prog 153 (⟨.other, 0, 0, []⟩) := rfl
theorem ty154 : tyOk Try.prog 154 (⟨.fn, 1, 8, [.nilFunc]⟩) := ⟨⟨Try.t154, _, by kernel_rfl, rfl, rfl, rfl, rfl⟩, ⟨_, _, _, Try.underlying154⟩⟩
theorem ty155 : tyOk Try.prog 155 (⟨.fn, 1, 8, [.nilFunc]⟩) := ⟨⟨Try.t155, _, by kernel_rfl, rfl, rfl, rfl, rfl⟩, ⟨_, _, _, Try.underlying155⟩⟩
theorem ty156 : tyOk Try.prog 156 (⟨.fn, 1, 8, [.nilFunc]⟩) := ⟨⟨Try.t156, _, by kernel_rfl, rfl, rfl, rfl, rfl⟩, ⟨_, _, _, Try.underlying156⟩⟩
theorem ty157 : tyOk Try.prog 157 (⟨.fn, 1, 8, [.nilFunc]⟩) := ⟨⟨Try.t157, _, by kernel_rfl, rfl, rfl, rfl, rfl⟩, ⟨_, _, _, Try.underlying157⟩⟩
theorem ty158 : tyOk Try.prog 158 (⟨.other, 0, 0, []⟩) := rfl
theorem ty159 : tyOk Try.prog 159 (⟨.fn, 1, 8, [.nilFunc]⟩) := ⟨⟨Try.t159, _, by kernel_rfl, rfl, rfl, rfl, rfl⟩, ⟨_, _, _, Try.underlying159⟩⟩
theorem ty160 : tyOk Try.prog 160 (⟨.fn, 1, 8, [.nilFunc]⟩) := ⟨⟨Try.t160, _, by kernel_rfl, rfl, rfl, rfl, rfl⟩, ⟨_, _, _, Try.underlying160⟩⟩
theorem ty161 : tyOk Try.prog 161 (⟨.fn, 1, 8, [.nilFunc]⟩) := ⟨⟨Try.t161, _, by kernel_rfl, rfl, rfl, rfl, rfl⟩, ⟨_, _, _, Try.underlying161⟩⟩
theorem ty162 : tyOk Try.prog 162 (⟨.fn, 1, 8, [.nilFunc]⟩) := ⟨⟨Try.t162, _, by kernel_rfl, rfl, rfl, rfl, rfl⟩, ⟨_, _, _, Try.underlying162⟩⟩
theorem ty163 : tyOk Try.prog 163 (⟨.fn, 1, 8, [.nilFunc]⟩) := ⟨⟨Try.t163, _, by kernel_rfl, rfl, rfl, rfl, rfl⟩, ⟨_, _, _, Try.underlying163⟩⟩
theorem ty164 : tyOk Try.prog 164 (⟨.fn, 1, 8, [.nilFunc]⟩) := ⟨⟨Try.t164, _, by kernel_rfl, rfl, rfl, rfl, rfl⟩, ⟨_, _, _, Try.underlying164⟩⟩
theorem ty165 : tyOk Try.prog 165 (⟨.fn, 1, 8, [.nilFunc]⟩) := ⟨⟨Try.t165, _, by kernel_rfl, rfl, rfl, rfl, rfl⟩, ⟨_, _, _, Try.underlying165⟩⟩
theorem ty166 : tyOk Try.prog 166 (⟨.fn, 1, 8, [.nilFunc]⟩) := ⟨⟨Try.t166, _, by kernel_rfl, rfl, rfl, rfl, rfl⟩, ⟨_, _, _, Try.underlying166⟩⟩
theorem ty167 : tyOk Try.prog 167 (⟨.other, 0, 0, []⟩) := rfl
theorem ty168 : tyOk Try.prog 168 (⟨.fn, 1, 8, [.nilFunc]⟩) := ⟨⟨Try.t168, _, by kernel_rfl, rfl, rfl, rfl, rfl⟩, ⟨_, _, _, Try.underlying168⟩⟩
theorem ty169 : tyOk Try.prog 169 (⟨.fn, 1, 8, [.nilFunc]⟩) := ⟨⟨Try.t169, _, by kernel_rfl, rfl, rfl, rfl, rfl⟩, ⟨_, _, _, Try.underlying169⟩⟩
theorem ty170 : tyOk Try.prog 170 (⟨.fn, 1, 8, [.nilFunc]⟩) := ⟨⟨Try.t170, _, by kernel_rfl, rfl, rfl, rfl, rfl⟩, ⟨_, _, _, Try.underlying170⟩⟩
theorem ty171 : tyOk Try.prog 171 (⟨.int .i64, 1, 8, [.int .i64 0]⟩) := ⟨⟨Try.t171, _, by kernel_rfl, rfl, rfl, rfl, rfl⟩, Try.underlying171⟩
theorem ty172 : tyOk Try.prog 172 (⟨.other, 0, 0, []⟩) := rfl
theorem ty173 : tyOk Try.prog 173 (⟨.fn, 1, 8, [.nilFunc]⟩) := ⟨⟨Try.t173, _, by kernel_rfl, rfl, rfl, rfl, rfl⟩, ⟨_, _, _, Try.underlying173⟩⟩
theorem ty174 : tyOk Try.prog 174 (⟨.fn, 1, 8, [.nilFunc]⟩) := ⟨⟨Try.t174, _, by kernel_rfl, rfl, rfl, rfl, rfl⟩, ⟨_, _, _, Try.underlying174⟩⟩
theorem ty175 : tyOk Try.prog 175 (⟨.fn, 1, 8, [.nilFunc]⟩) := ⟨⟨Try.t175, _, by kernel_rfl, rfl, rfl, rfl, rfl⟩, ⟨_, _, _, Try.underlying175⟩⟩
theorem ty176 : tyOk Try.prog 176 (⟨.fn, 1, 8, [.nilFunc]⟩) := ⟨⟨Try.t176, _, by kernel_rfl, rfl, rfl, rfl, rfl⟩, ⟨_, _, _, Try.underlying176⟩⟩
theorem ty177 : tyOk Try.prog 177 (⟨.other, 0, 0, []⟩) := rfl
theorem ty178 : tyOk Try.prog 178 (⟨.fn, 1, 8, [.nilFunc]⟩) := ⟨⟨Try.t178, _, by kernel_rfl, rfl, rfl, rfl, rfl⟩, ⟨_, _, _, Try.underlying178⟩⟩
theorem ty179 : tyOk Try.prog 179 (⟨.fn, 1, 8, [.nilFunc]⟩) := ⟨⟨Try.t179, _, by kernel_rfl, rfl, rfl, rfl, rfl⟩, ⟨_, _, _, Try.underlying179⟩⟩
theorem ty180 : tyOk Try.prog 180 (⟨.fn, 1, 8, [.nilFunc]⟩) := ⟨⟨Try.t180, _, by kernel_rfl, rfl, rfl, rfl, rfl⟩, ⟨_, _, _, Try.underlying180⟩⟩
theorem ty181 : tyOk Try.prog 181 (⟨.int .u64, 1, 8, [.int .u64 0]⟩) := ⟨⟨Try.t181, _, by kernel_rfl, rfl, rfl, rfl, rfl⟩, Try.underlying181⟩
theorem ty182 : tyOk Try.prog 182 (⟨.fn, 1, 8, [.nilFunc]⟩) := ⟨⟨Try.t182, _, by kernel_rfl, rfl, rfl, rfl, rfl⟩, ⟨_, _, _, Try.underlying182⟩⟩
theorem ty183 : tyOk Try.prog 183 (⟨.int .u64, 1, 8, [.int .u64 0]⟩) := ⟨⟨Try.t183, _, by kernel_rfl, rfl, rfl, rfl, rfl⟩, Try.underlying183⟩
theorem ty184 : tyOk Try.prog 184 (⟨.fn, 1, 8, [.nilFunc]⟩) := ⟨⟨Try.t184, _, by kernel_rfl, rfl, rfl, rfl, rfl⟩, ⟨_, _, _, Try.underlying184⟩⟩
theorem ty185 : tyOk Try.prog 185 (⟨.fn, 1, 8, [.nilFunc]⟩) := ⟨⟨Try.t185, _, by kernel_rfl, rfl, rfl, rfl, rfl⟩, ⟨_, _, _, Try.underlying185⟩⟩
theorem ty186 : tyOk Try.prog 186 (⟨.fn, 1, 8, [.nilFunc]⟩) := ⟨⟨Try.t186, _, by kernel_rfl, rfl, rfl, rfl, rfl⟩, ⟨_, _, _, Try.underlying186⟩⟩
theorem ty187 : tyOk Try.prog 187 (⟨.ptr, 1, 8, [.pointer none]⟩) := ⟨⟨Try.t187, _, by kernel_rfl, rfl, rfl, rfl, rfl⟩, ⟨_, Try.underlying187⟩⟩
theorem ty188 : tyOk Try.prog 188 (⟨.fn, 1, 8, [.nilFunc]⟩) := ⟨⟨Try.t188, _, by kernel_rfl, rfl, rfl, rfl, rfl⟩, ⟨_, _, _, Try.underlying188⟩⟩
theorem ty189 : tyOk Try.prog 189 (⟨.fn, 1, 8, [.nilFunc]⟩) := ⟨⟨Try.t189, _, by kernel_rfl, rfl, rfl, rfl, rfl⟩, ⟨_, _, _, Try.underlying189⟩⟩
theorem ty190 : tyOk Try.prog 190 (⟨.ptr, 1, 8, [.pointer none]⟩) := ⟨⟨Try.t190, _, by kernel_rfl, rfl, rfl, rfl, rfl⟩, ⟨_, Try.underlying190⟩⟩
theorem ty191 : tyOk Try.prog 191 (⟨.other, 0, 0, []⟩) := rfl
theorem ty192 : tyOk Try.prog 192 (⟨.fn, 1, 8, [.nilFunc]⟩) := ⟨⟨Try.t192, _, by kernel_rfl, rfl, rfl, rfl, rfl⟩, ⟨_, _, _, Try.underlying192⟩⟩
theorem ty193 : tyOk Try.prog 193 (⟨.fn, 1, 8, [.nilFunc]⟩) := ⟨⟨Try.t193, _, by kernel_rfl, rfl, rfl, rfl, rfl⟩, ⟨_, _, _, Try.underlying193⟩⟩
theorem ty194 : tyOk Try.prog 194 (⟨.st [(0, 17), (1, 17), (2, 17), (3, 9)], 4, 40, [.pointer none, .pointer none, .pointer none, .string ⟨#[]⟩]⟩) := ⟨⟨Try.t194, _, by kernel_rfl, rfl, rfl, rfl, rfl⟩, ⟨_, [(0, 1), (1, 1), (2, 1), (3, 1)], Try.underlying194, by kernel_rfl, by kernel_rfl⟩⟩
theorem ty195 : tyOk Try.prog 195 (⟨.st [(0, 17), (1, 17), (2, 17), (3, 9)], 4, 40, [.pointer none, .pointer none, .pointer none, .string ⟨#[]⟩]⟩) := ⟨⟨Try.t195, _, by kernel_rfl, rfl, rfl, rfl, rfl⟩, ⟨_, [(0, 1), (1, 1), (2, 1), (3, 1)], Try.underlying195, by kernel_rfl, by kernel_rfl⟩⟩
theorem ty196 : tyOk Try.prog 196 (⟨.arr 0 16, 0, 0, []⟩) := ⟨⟨Try.t196, _, by kernel_rfl, rfl, rfl, rfl, rfl⟩, Try.underlying196⟩
theorem ty197 : tyOk Try.prog 197 (⟨.st [(0, 196)], 0, 0, []⟩) := ⟨⟨Try.t197, _, by kernel_rfl, rfl, rfl, rfl, rfl⟩, ⟨_, [(0, 0)], Try.underlying197, by kernel_rfl, by kernel_rfl⟩⟩
theorem ty198 : tyOk Try.prog 198 (⟨.st [(0, 196)], 0, 0, []⟩) := ⟨⟨Try.t198, _, by kernel_rfl, rfl, rfl, rfl, rfl⟩, ⟨_, [(0, 0)], Try.underlying198, by kernel_rfl, by kernel_rfl⟩⟩
theorem ty199 : tyOk Try.prog 199 (⟨.int .u8, 1, 1, [.int .u8 0]⟩) := ⟨⟨Try.t199, _, by kernel_rfl, rfl, rfl, rfl, rfl⟩, Try.underlying199⟩
theorem ty200 : tyOk Try.prog 200 (⟨.int .u8, 1, 1, [.int .u8 0]⟩) := ⟨⟨Try.t200, _, by kernel_rfl, rfl, rfl, rfl, rfl⟩, Try.underlying200⟩
theorem ty201 : tyOk Try.prog 201 (⟨.fn, 1, 8, [.nilFunc]⟩) := ⟨⟨Try.t201, _, by kernel_rfl, rfl, rfl, rfl, rfl⟩, ⟨_, _, _, Try.underlying201⟩⟩
theorem ty202 : tyOk Try.prog 202 (⟨.ptr, 1, 8, [.pointer none]⟩) := ⟨⟨Try.t202, _, by kernel_rfl, rfl, rfl, rfl, rfl⟩, ⟨_, Try.underlying202⟩⟩
theorem ty203 : tyOk Try.prog 203 (⟨.int .i32, 1, 4, [.int .i32 0]⟩) := ⟨⟨Try.t203, _, by kernel_rfl, rfl, rfl, rfl, rfl⟩, Try.underlying203⟩
theorem ty204 : tyOk Try.prog 204 (⟨.int .i32, 1, 4, [.int .i32 0]⟩) := ⟨⟨Try.t204, _, by kernel_rfl, rfl, rfl, rfl, rfl⟩, Try.underlying204⟩
theorem ty205 : tyOk Try.prog 205 (⟨.st [(0, 12), (1, 12), (2, 119), (3, 199), (4, 5), (5, 5), (6, 200), (7, 201), (8, 202), (9, 203), (10, 204)], 11, 48, [.int .u64 0, .int .u64 0, .int .u32 0, .int .u8 0, .int .u8 0, .int .u8 0, .int .u8 0, .nilFunc, .pointer none, .int .i32 0, .int .i32 0]⟩) := ⟨⟨Try.t205, _, by kernel_rfl, rfl, rfl, rfl, rfl⟩, ⟨_, [(0, 1), (1, 1), (2, 1), (3, 1), (4, 1), (5, 1), (6, 1), (7, 1), (8, 1), (9, 1), (10, 1)], Try.underlying205, by kernel_rfl, by kernel_rfl⟩⟩
theorem ty206 : tyOk Try.prog 206 (⟨.st [(0, 12), (1, 12), (2, 119), (3, 199), (4, 5), (5, 5), (6, 200), (7, 201), (8, 202), (9, 203), (10, 204)], 11, 48, [.int .u64 0, .int .u64 0, .int .u32 0, .int .u8 0, .int .u8 0, .int .u8 0, .int .u8 0, .nilFunc, .pointer none, .int .i32 0, .int .i32 0]⟩) := ⟨⟨Try.t206, _, by kernel_rfl, rfl, rfl, rfl, rfl⟩, ⟨_, [(0, 1), (1, 1), (2, 1), (3, 1), (4, 1), (5, 1), (6, 1), (7, 1), (8, 1), (9, 1), (10, 1)], Try.underlying206, by kernel_rfl, by kernel_rfl⟩⟩
theorem ty207 : tyOk Try.prog 207 (⟨.fn, 1, 8, [.nilFunc]⟩) := ⟨⟨Try.t207, _, by kernel_rfl, rfl, rfl, rfl, rfl⟩, ⟨_, _, _, Try.underlying207⟩⟩
theorem ty208 : tyOk Try.prog 208 (⟨.fn, 1, 8, [.nilFunc]⟩) := ⟨⟨Try.t208, _, by kernel_rfl, rfl, rfl, rfl, rfl⟩, ⟨_, _, _, Try.underlying208⟩⟩
theorem ty209 : tyOk Try.prog 209 (⟨.fn, 1, 8, [.nilFunc]⟩) := ⟨⟨Try.t209, _, by kernel_rfl, rfl, rfl, rfl, rfl⟩, ⟨_, _, _, Try.underlying209⟩⟩
theorem ty210 : tyOk Try.prog 210 (⟨.fn, 1, 8, [.nilFunc]⟩) := ⟨⟨Try.t210, _, by kernel_rfl, rfl, rfl, rfl, rfl⟩, ⟨_, _, _, Try.underlying210⟩⟩
theorem ty211 : tyOk Try.prog 211 (⟨.st [(0, 3), (1, 3), (2, 3)], 3, 24, [.int .i64 0, .int .i64 0, .int .i64 0]⟩) := ⟨⟨Try.t211, _, by kernel_rfl, rfl, rfl, rfl, rfl⟩, ⟨_, [(0, 1), (1, 1), (2, 1)], Try.underlying211, by kernel_rfl, by kernel_rfl⟩⟩
theorem ty212 : tyOk Try.prog 212 (⟨.st [(0, 3), (1, 3), (2, 3)], 3, 24, [.int .i64 0, .int .i64 0, .int .i64 0]⟩) := ⟨⟨Try.t212, _, by kernel_rfl, rfl, rfl, rfl, rfl⟩, ⟨_, [(0, 1), (1, 1), (2, 1)], Try.underlying212, by kernel_rfl, by kernel_rfl⟩⟩
theorem ty213 : tyOk Try.prog 213 (⟨.fn, 1, 8, [.nilFunc]⟩) := ⟨⟨Try.t213, _, by kernel_rfl, rfl, rfl, rfl, rfl⟩, ⟨_, _, _, Try.underlying213⟩⟩
theorem ty214 : tyOk Try.prog 214 (⟨.other, 0, 0, []⟩) := rfl
theorem ttok : TTok Try.prog tt := fun t => match t with
  | 0 => ty0
  | 1 => ty1
  | 2 => ty2
  | 3 => ty3
  | 4 => ty4
  | 5 => ty5
  | 6 => ty6
  | 7 => ty7
  | 8 => ty8
  | 9 => ty9
  | 10 => ty10
  | 11 => ty11
  | 12 => ty12
  | 13 => ty13
  | 14 => ty14
  | 15 => ty15
  | 16 => ty16
  | 17 => ty17
  | 18 => ty18
  | 19 => ty19
  | 20 => ty20
  | 21 => ty21
  | 22 => ty22
  | 23 => ty23
  | 24 => ty24
  | 25 => ty25
  | 26 => ty26
  | 27 => ty27
  | 28 => ty28
  | 29 => ty29
  | 30 => ty30
  | 31 => ty31
  | 32 => ty32
  | 33 => ty33
  | 34 => ty34
  | 35 => ty35
  | 36 => ty36
  | 37 => ty37
  | 38 => ty38
  | 39 => ty39
  | 40 => ty40
  | 41 => ty41
  | 42 => ty42
  | 43 => ty43
  | 44 => ty44
  | 45 => ty45
  | 46 => ty46
  | 47 => ty47
  | 48 => ty48
  | 49 => ty49
  | 50 => ty50
  | 51 => ty51
  | 52 => ty52
  | 53 => ty53
  | 54 => ty54
  | 55 => ty55
  | 56 => ty56
  | 57 => ty57
  | 58 => ty58
  | 59 => ty59
  | 60 => ty60
  | 61 => ty61
  | 62 => ty62
  | 63 => ty63
  | 64 => ty64
  | 65 => ty65
  | 66 => ty66
  | 67 => ty67
  | 68 => ty68
  | 69 => ty69
  | 70 => ty70
  | 71 => ty71
  | 72 => ty72
  | 73 => ty73
  | 74 => ty74
  | 75 => ty75
  | 76 => ty76
  | 77 => ty77
  | 78 => ty78
  | 79 => ty79
  | 80 => ty80
  | 81 => ty81
  | 82 => ty82
  | 83 => ty83
  | 84 => ty84
  | 85 => ty85
  | 86 => ty86
  | 87 => ty87
  | 88 => ty88
  | 89 => ty89
  | 90 => ty90
  | 91 => ty91
  | 92 => ty92
  | 93 => ty93
  | 94 => ty94
  | 95 => ty95
  | 96 => ty96
  | 97 => ty97
  | 98 => ty98
  | 99 => ty99
  | 100 => ty100
  | 101 => ty101
  | 102 => ty102
  | 103 => ty103
  | 104 => ty104
  | 105 => ty105
  | 106 => ty106
  | 107 => ty107
  | 108 => ty108
  | 109 => ty109
  | 110 => ty110
  | 111 => ty111
  | 112 => ty112
  | 113 => ty113
  | 114 => ty114
  | 115 => ty115
  | 116 => ty116
  | 117 => ty117
  | 118 => ty118
  | 119 => ty119
  | 120 => ty120
  | 121 => ty121
  | 122 => ty122
  | 123 => ty123
  | 124 => ty124
  | 125 => ty125
  | 126 => ty126
  | 127 => ty127
  | 128 => ty128
  | 129 => ty129
  | 130 => ty130
  | 131 => ty131
  | 132 => ty132
  | 133 => ty133
  | 134 => ty134
  | 135 => ty135
  | 136 => ty136
  | 137 => ty137
  | 138 => ty138
  | 139 => ty139
  | 140 => ty140
  | 141 => ty141
  | 142 => ty142
  | 143 => ty143
  | 144 => ty144
  | 145 => ty145
  | 146 => ty146
  | 147 => ty147
  | 148 => ty148
  | 149 => ty149
  | 150 => ty150
  | 151 => ty151
  | 152 => ty152
  | 153 => ty153
  | 154 => ty154
  | 155 => ty155
  | 156 => ty156
  | 157 => ty157
  | 158 => ty158
  | 159 => ty159
  | 160 => ty160
  | 161 => ty161
  | 162 => ty162
  | 163 => ty163
  | 164 => ty164
  | 165 => ty165
  | 166 => ty166
  | 167 => ty167
  | 168 => ty168
  | 169 => ty169
  | 170 => ty170
  | 171 => ty171
  | 172 => ty172
  | 173 => ty173
  | 174 => ty174
  | 175 => ty175
  | 176 => ty176
  | 177 => ty177
  | 178 => ty178
  | 179 => ty179
  | 180 => ty180
  | 181 => ty181
  | 182 => ty182
  | 183 => ty183
  | 184 => ty184
  | 185 => ty185
  | 186 => ty186
  | 187 => ty187
  | 188 => ty188
  | 189 => ty189
  | 190 => ty190
  | 191 => ty191
  | 192 => ty192
  | 193 => ty193
  | 194 => ty194
  | 195 => ty195
  | 196 => ty196
  | 197 => ty197
  | 198 => ty198
  | 199 => ty199
  | 200 => ty200
  | 201 => ty201
  | 202 => ty202
  | 203 => ty203
  | 204 => ty204
  | 205 => ty205
  | 206 => ty206
  | 207 => ty207
  | 208 => ty208
  | 209 => ty209
  | 210 => ty210
  | 211 => ty211
  | 212 => ty212
  | 213 => ty213
  | 214 => ty214
  | _ + 215 => rfl

noncomputable def cf : Cfg := { P := Try.prog, tt := tt, fns := [3, 4, 5, 6, 7, 8, 9, 10, 11, 12, 13, 14, 15, 16, 17, 18, 19, 20, 21, 22, 23, 24, 25, 26, 27, 28, 29, 30, 31, 32, 33, 34, 35, 36, 37, 38, 39, 40, 41, 42, 43, 44, 45, 46, 47, 48, 49, 50, 51, 52, 53, 54, 55, 56, 57, 58, 59, 60, 61, 62, 63, 64, 65, 66, 67, 68, 69, 70, 71, 72, 73, 74, 75, 76, 77, 78, 79, 80, 81, 82, 83, 84, 85, 86, 87, 88, 89, 90, 91, 92, 109, 110, 111, 112, 113, 114, 115, 116, 117] }

theorem cfok : CfgOk cf where
  mix := by kernel_rfl
  tt := ttok
  fns := List.forall_mem_cons.2 ⟨Try.call3, List.forall_mem_cons.2 ⟨Try.call4, List.forall_mem_cons.2 ⟨Try.call5, List.forall_mem_cons.2 ⟨Try.call6, List.forall_mem_cons.2 ⟨Try.call7, List.forall_mem_cons.2 ⟨Try.call8, List.forall_mem_cons.2 ⟨Try.call9, List.forall_mem_cons.2 ⟨Try.call10, List.forall_mem_cons.2 ⟨Try.call11, List.forall_mem_cons.2 ⟨Try.call12, List.forall_mem_cons.2 ⟨Try.call13, List.forall_mem_cons.2 ⟨Try.call14, List.forall_mem_cons.2 ⟨Try.call15, List.forall_mem_cons.2 ⟨Try.call16, List.forall_mem_cons.2 ⟨Try.call17, List.forall_mem_cons.2 ⟨Try.call18, List.forall_mem_cons.2 ⟨Try.call19, List.forall_mem_cons.2 ⟨Try.call20, List.forall_mem_cons.2 ⟨Try.call21, List.forall_mem_cons.2 ⟨Try.call22, List.forall_mem_cons.2 ⟨Try.call23, List.forall_mem_cons.2 ⟨Try.call24, List.forall_mem_cons.2 ⟨Try.call25, List.forall_mem_cons.2 ⟨Try.call26, List.forall_mem_cons.2 ⟨Try.call27, List.forall_mem_cons.2 ⟨Try.call28, List.forall_mem_cons.2 ⟨Try.call29, List.forall_mem_cons.2 ⟨Try.call30, List.forall_mem_cons.2 ⟨Try.call31, List.forall_mem_cons.2 ⟨Try.call32, List.forall_mem_cons.2 ⟨Try.call33, List.forall_mem_cons.2 ⟨Try.call34, List.forall_mem_cons.2 ⟨Try.call35, List.forall_mem_cons.2 ⟨Try.call36, List.forall_mem_cons.2 ⟨Try.call37, List.forall_mem_cons.2 ⟨Try.call38, List.forall_mem_cons.2 ⟨Try.call39, List.forall_mem_cons.2 ⟨Try.call40, List.forall_mem_cons.2 ⟨Try.call41, List.forall_mem_cons.2 ⟨Try.call42, List.forall_mem_cons.2 ⟨Try.call43, List.forall_mem_cons.2 ⟨Try.call44, List.forall_mem_cons.2 ⟨Try.call45, List.forall_mem_cons.2 ⟨Try.call46, List.forall_mem_cons.2 ⟨Try.call47, List.forall_mem_cons.2 ⟨Try.call48, List.forall_mem_cons.2 ⟨Try.call49, List.forall_mem_cons.2 ⟨Try.call50, List.forall_mem_cons.2 ⟨Try.call51, List.forall_mem_cons.2 ⟨Try.call52, List.forall_mem_cons.2 ⟨Try.call53, List.forall_mem_cons.2 ⟨Try.call54, List.forall_mem_cons.2 ⟨Try.call55, List.forall_mem_cons.2 ⟨Try.call56, List.forall_mem_cons.2 ⟨Try.call57, List.forall_mem_cons.2 ⟨Try.call58, List.forall_mem_cons.2 ⟨Try.call59, List.forall_mem_cons.2 ⟨Try.call60, List.forall_mem_cons.2 ⟨Try.call61, List.forall_mem_cons.2 ⟨Try.call62, List.forall_mem_cons.2 ⟨Try.call63, List.forall_mem_cons.2 ⟨Try.call64, List.forall_mem_cons.2 ⟨Try.call65, List.forall_mem_cons.2 ⟨Try.call66, List.forall_mem_cons.2 ⟨Try.call67, List.forall_mem_cons.2 ⟨Try.call68, List.forall_mem_cons.2 ⟨Try.call69, List.forall_mem_cons.2 ⟨Try.call70, List.forall_mem_cons.2 ⟨Try.call71, List.forall_mem_cons.2 ⟨Try.call72, List.forall_mem_cons.2 ⟨Try.call73, List.forall_mem_cons.2 ⟨Try.call74, List.forall_mem_cons.2 ⟨Try.call75, List.forall_mem_cons.2 ⟨Try.call76, List.forall_mem_cons.2 ⟨Try.call77, List.forall_mem_cons.2 ⟨Try.call78, List.forall_mem_cons.2 ⟨Try.call79, List.forall_mem_cons.2 ⟨Try.call80, List.forall_mem_cons.2 ⟨Try.call81, List.forall_mem_cons.2 ⟨Try.call82, List.forall_mem_cons.2 ⟨Try.call83, List.forall_mem_cons.2 ⟨Try.call84, List.forall_mem_cons.2 ⟨Try.call85, List.forall_mem_cons.2 ⟨Try.call86, List.forall_mem_cons.2 ⟨Try.call87, List.forall_mem_cons.2 ⟨Try.call88, List.forall_mem_cons.2 ⟨Try.call89, List.forall_mem_cons.2 ⟨Try.call90, List.forall_mem_cons.2 ⟨Try.call91, List.forall_mem_cons.2 ⟨Try.call92, List.forall_mem_cons.2 ⟨Try.call109, List.forall_mem_cons.2 ⟨Try.call110, List.forall_mem_cons.2 ⟨Try.call111, List.forall_mem_cons.2 ⟨Try.call112, List.forall_mem_cons.2 ⟨Try.call113, List.forall_mem_cons.2 ⟨Try.call114, List.forall_mem_cons.2 ⟨Try.call115, List.forall_mem_cons.2 ⟨Try.call116, List.forall_mem_cons.2 ⟨Try.call117, List.forall_mem_nil _⟩⟩⟩⟩⟩⟩⟩⟩⟩⟩⟩⟩⟩⟩⟩⟩⟩⟩⟩⟩⟩⟩⟩⟩⟩⟩⟩⟩⟩⟩⟩⟩⟩⟩⟩⟩⟩⟩⟩⟩⟩⟩⟩⟩⟩⟩⟩⟩⟩⟩⟩⟩⟩⟩⟩⟩⟩⟩⟩⟩⟩⟩⟩⟩⟩⟩⟩⟩⟩⟩⟩⟩⟩⟩⟩⟩⟩⟩⟩⟩⟩⟩⟩⟩⟩⟩⟩⟩⟩⟩⟩⟩⟩⟩⟩⟩⟩⟩⟩

/-
  0: main.main
  1: gosem.cut
  2: gosem.cut.init
  3: calamus/calamuslaw08.GposParses
  4: calamus/calamuslaw08.GposRight
  5: calamus/calamuslaw08.GposBack
  6: calamus/calamuslaw08.works
  7: calamus/gpos.Parse
  8: calamus/bin.Open
  9: calamus/calamusref08.Parse
  10: calamus/calamuskit.SameBytes
  11: calamus/calamuskit.SameLookups
  12: calamus/calamuskit.SameFeatures
  13: calamus/calamuskit.RightLookups
  14: calamus/calamuskit.RightFeatures
  15: calamus/calamuskit.Weight
  16: calamus/calamusmake.Table
  17: calamus/calamusmake.Words
  18: calamus/gpos.Parse$1
  19: calamus/gpos.need
  20: (*calamus/bin.Reader).Bad
  21: (*calamus/bin.Reader).Len
  22: (*calamus/bin.Reader).Word
  23: calamus/cover.Lookups
  24: calamus/cover.Features
  25: calamus/gpos.kind
  26: slices.Clone[[]byte,byte]
  27: calamus/calamusref07.Head
  28: (*calamus/calamusref08.parser).kerns
  29: (*calamus/calamusref08.parser).marks
  30: calamus/calamuskit.SameSub
  31: calamus/calamuskit.SamePos
  32: calamus/calamuskit.SameInts
  33: calamus/calamuskit.RightSub
  34: calamus/calamuskit.RightPos
  35: calamus/calamuskit.subWeight
  36: calamus/calamusmake.Sub
  37: calamus/calamusmake.Pos
  38: (*calamus/bin.Reader).number
  39: calamus/cover.room
  40: (*calamus/bin.Reader).Words
  41: (*calamus/bin.Reader).Byte
  42: slices.Sort[[]int,int]
  43: slices.Compact[[]int,int]
  44: calamus/calamusref07.W
  45: calamus/calamusref06.Lookups
  46: calamus/calamusref06.Features
  47: (*calamus/calamusref08.parser).cover
  48: (*calamus/calamusref08.parser).word
  49: (*calamus/calamusref08.parser).count
  50: (*calamus/calamusref08.parser).point
  51: calamus/calamuskit.sameSets
  52: calamus/calamuskit.SameWords
  53: calamus/calamuskit.below
  54: calamus/calamuskit.sets
  55: calamus/calamusmake.with
  56: calamus/calamusmake.Cover
  57: calamus/calamusmake.row
  58: calamus/calamusmake.ligs
  59: calamus/calamusmake.chain
  60: calamus/calamusmake.kerns
  61: calamus/calamusmake.anchor
  62: (*calamus/bin.Reader).row
  63: slices.Chunk[[]byte,byte]
  64: slices.pdqsortOrdered[int]
  65: math/bits.Len
  66: calamus/calamusref04.Number
  67: calamus/calamusref06.W
  68: calamus/calamusref06.all
  69: calamus/calamusref06.Coverage
  70: calamus/calamusref04.All
  71: calamus/calamuskit.rising
  72: (*calamus/bin.state).spoil
  73: slices.Chunk[[]byte,byte]$1
  74: slices.insertionSortOrdered[int]
  75: slices.heapSortOrdered[int]
  76: slices.breakPatternsOrdered[int]
  77: slices.choosePivotOrdered[int]
  78: slices.reverseRangeOrdered[int]
  79: slices.partialInsertionSortOrdered[int]
  80: cmp.Less[int]
  81: slices.partitionEqualOrdered[int]
  82: slices.partitionOrdered[int]
  83: math/bits.Len32
  84: math/bits.Len64
  85: calamus/calamusref06.ranges
  86: slices.siftDownOrdered[int]
  87: slices.nextPowerOfTwo
  88: (*slices.xorshift).Next
  89: slices.medianAdjacentOrdered[int]
  90: slices.medianOrdered[int]
  91: cmp.isNaN[int]
  92: slices.order2Ordered[int]
  93: (runtime.boundsError).Error
  94: (runtime.boundsError).RuntimeError
  95: (runtime.errorString).Error
  96: (runtime.errorString).RuntimeError
  97: (runtime.plainError).Error
  98: (runtime.plainError).RuntimeError
  99: (runtime.errorAddressString).Error
  100: (runtime.errorAddressString).RuntimeError
  101: (*runtime.TypeAssertionError).Error
  102: (*runtime.TypeAssertionError).RuntimeError
  103: (*runtime.PanicNilError).Error
  104: (*runtime.PanicNilError).RuntimeError
  105: (*internal/abi.Type).Align
  106: (internal/runtime/maps.unhashableTypeError).Error
  107: (internal/runtime/maps.unhashableTypeError).RuntimeError
  108: (calamus/api.Errno).Error
  109: (*calamus/gpos.parser).count
  110: (calamus/gpos.pairs).read
  111: (*calamus/gpos.parser).set
  112: (*calamus/gpos.parser).word
  113: calamus/cover.Coverage
  114: calamus/cover.spans
  115: calamus/cover.spans$1
  116: (calamus/gpos.marks).read
  117: (*calamus/gpos.parser).point
  118: (internal/abi.Kind).String
-/
end Go.Proofs.Ytjflgkadagkllaa
