import Derived.Test.YtfjkajlkehjnnaaGreatDoorEng
import Derived.Test.YtfjkajlkehjnnaaGreatDoorProg
namespace Go.Proofs.YtfjkajlkehjnnaaGreatDoor
open Go Go.Eng

def tt : TT := [
  ⟨.other, 0, 0, []⟩,
  ⟨.fn, 1, 8, [.nilFunc]⟩,
  ⟨.int .i64, 1, 8, [.int .i64 0]⟩,
  ⟨.int .i64, 1, 8, [.int .i64 0]⟩,
  ⟨.bool, 1, 1, [.bool false]⟩,
  ⟨.int .u8, 1, 1, [.int .u8 0]⟩,
  ⟨.int .u8, 1, 1, [.int .u8 0]⟩,
  ⟨.st [(0, 2), (1, 3), (2, 4), (3, 6)], 4, 24, [.int .i64 0, .int .i64 0, .bool false, .int .u8 0]⟩,
  ⟨.st [(0, 2), (1, 3), (2, 4), (3, 6)], 4, 24, [.int .i64 0, .int .i64 0, .bool false, .int .u8 0]⟩,
  ⟨.str, 1, 16, [.string ⟨#[]⟩]⟩,
  ⟨.str, 1, 16, [.string ⟨#[]⟩]⟩,
  ⟨.str, 1, 16, [.string ⟨#[]⟩]⟩,
  ⟨.int .u64, 1, 8, [.int .u64 0]⟩,
  ⟨.st [(0, 9), (1, 12)], 2, 24, [.string ⟨#[]⟩, .int .u64 0]⟩,
  ⟨.st [(0, 9), (1, 12)], 2, 24, [.string ⟨#[]⟩, .int .u64 0]⟩,
  ⟨.ptr, 1, 8, [.pointer none]⟩,
  ⟨.ptr, 1, 8, [.pointer none]⟩,
  ⟨.ptr, 1, 8, [.pointer none]⟩,
  ⟨.st [(0, 17)], 1, 8, [.pointer none]⟩,
  ⟨.st [(0, 17)], 1, 8, [.pointer none]⟩,
  ⟨.other, 0, 0, []⟩,
  ⟨.int .i32, 1, 4, [.int .i32 0]⟩,
  ⟨.int .i64, 1, 8, [.int .i64 0]⟩,
  ⟨.other, 0, 0, []⟩,
  ⟨.fn, 1, 8, [.nilFunc]⟩,
  ⟨.fn, 1, 8, [.nilFunc]⟩,
  ⟨.sl 9, 1, 24, [.slice none 0 0]⟩,
  ⟨.fn, 1, 8, [.nilFunc]⟩,
  ⟨.fn, 1, 8, [.nilFunc]⟩,
  ⟨.sl 2, 1, 24, [.slice none 0 0]⟩,
  ⟨.fn, 1, 8, [.nilFunc]⟩,
  ⟨.fn, 1, 8, [.nilFunc]⟩,
  ⟨.fn, 1, 8, [.nilFunc]⟩,
  ⟨.int .u16, 1, 2, [.int .u16 0]⟩,
  ⟨.fn, 1, 8, [.nilFunc]⟩,
  ⟨.fn, 1, 8, [.nilFunc]⟩,
  ⟨.fn, 1, 8, [.nilFunc]⟩,
  ⟨.fn, 1, 8, [.nilFunc]⟩,
  ⟨.int .u64, 1, 8, [.int .u64 0]⟩,
  ⟨.fn, 1, 8, [.nilFunc]⟩,
  ⟨.ptr, 1, 8, [.pointer none]⟩,
  ⟨.sl 5, 1, 24, [.slice none 0 0]⟩,
  ⟨.st [(0, 40), (1, 41)], 2, 32, [.pointer none, .slice none 0 0]⟩,
  ⟨.st [(0, 40), (1, 41)], 2, 32, [.pointer none, .slice none 0 0]⟩,
  ⟨.other, 0, 0, []⟩,
  ⟨.other, 0, 0, []⟩,
  ⟨.fn, 1, 8, [.nilFunc]⟩,
  ⟨.fn, 1, 8, [.nilFunc]⟩,
  ⟨.other, 0, 0, []⟩,
  ⟨.fn, 1, 8, [.nilFunc]⟩,
  ⟨.fn, 1, 8, [.nilFunc]⟩,
  ⟨.fn, 1, 8, [.nilFunc]⟩,
  ⟨.sl 3, 1, 24, [.slice none 0 0]⟩,
  ⟨.other, 0, 0, []⟩,
  ⟨.fn, 1, 8, [.nilFunc]⟩,
  ⟨.other, 0, 0, []⟩,
  ⟨.fn, 1, 8, [.nilFunc]⟩,
  ⟨.other, 0, 0, []⟩,
  ⟨.fn, 1, 8, [.nilFunc]⟩,
  ⟨.fn, 1, 8, [.nilFunc]⟩,
  ⟨.fn, 1, 8, [.nilFunc]⟩,
  ⟨.ptr, 1, 8, [.pointer none]⟩,
  ⟨.ptr, 1, 8, [.pointer none]⟩,
  ⟨.other, 0, 0, []⟩,
  ⟨.fn, 1, 8, [.nilFunc]⟩,
  ⟨.arr 40 5, 40, 40, [.int .u8 0, .int .u8 0, .int .u8 0, .int .u8 0, .int .u8 0, .int .u8 0, .int .u8 0, .int .u8 0, .int .u8 0, .int .u8 0, .int .u8 0, .int .u8 0, .int .u8 0, .int .u8 0, .int .u8 0, .int .u8 0, .int .u8 0, .int .u8 0, .int .u8 0, .int .u8 0, .int .u8 0, .int .u8 0, .int .u8 0, .int .u8 0, .int .u8 0, .int .u8 0, .int .u8 0, .int .u8 0, .int .u8 0, .int .u8 0, .int .u8 0, .int .u8 0, .int .u8 0, .int .u8 0, .int .u8 0, .int .u8 0, .int .u8 0, .int .u8 0, .int .u8 0, .int .u8 0]⟩,
  ⟨.fn, 1, 8, [.nilFunc]⟩,
  ⟨.int .u64, 1, 8, [.int .u64 0]⟩,
  ⟨.fn, 1, 8, [.nilFunc]⟩,
  ⟨.fn, 1, 8, [.nilFunc]⟩,
  ⟨.fn, 1, 8, [.nilFunc]⟩,
  ⟨.arr 2 38, 2, 16, [.int .u64 0, .int .u64 0]⟩,
  ⟨.arr 2 38, 2, 16, [.int .u64 0, .int .u64 0]⟩,
  ⟨.other, 0, 0, []⟩,
  ⟨.fn, 1, 8, [.nilFunc]⟩,
  ⟨.fn, 1, 8, [.nilFunc]⟩,
  ⟨.ptr, 1, 8, [.pointer none]⟩,
  ⟨.int .u32, 1, 4, [.int .u32 0]⟩,
  ⟨.sl 77, 1, 24, [.slice none 0 0]⟩,
  ⟨.sl 77, 1, 24, [.slice none 0 0]⟩,
  ⟨.fn, 1, 8, [.nilFunc]⟩,
  ⟨.fn, 1, 8, [.nilFunc]⟩,
  ⟨.other, 0, 0, []⟩,
  ⟨.fn, 1, 8, [.nilFunc]⟩,
  ⟨.fn, 1, 8, [.nilFunc]⟩,
  ⟨.fn, 1, 8, [.nilFunc]⟩,
  ⟨.fn, 1, 8, [.nilFunc]⟩,
  ⟨.fn, 1, 8, [.nilFunc]⟩,
  ⟨.fn, 1, 8, [.nilFunc]⟩,
  ⟨.fn, 1, 8, [.nilFunc]⟩,
  ⟨.fn, 1, 8, [.nilFunc]⟩,
  ⟨.fn, 1, 8, [.nilFunc]⟩,
  ⟨.other, 0, 0, []⟩,
  ⟨.fn, 1, 8, [.nilFunc]⟩,
  ⟨.fn, 1, 8, [.nilFunc]⟩,
  ⟨.arr 24 5, 24, 24, [.int .u8 0, .int .u8 0, .int .u8 0, .int .u8 0, .int .u8 0, .int .u8 0, .int .u8 0, .int .u8 0, .int .u8 0, .int .u8 0, .int .u8 0, .int .u8 0, .int .u8 0, .int .u8 0, .int .u8 0, .int .u8 0, .int .u8 0, .int .u8 0, .int .u8 0, .int .u8 0, .int .u8 0, .int .u8 0, .int .u8 0, .int .u8 0]⟩,
  ⟨.fn, 1, 8, [.nilFunc]⟩,
  ⟨.fn, 1, 8, [.nilFunc]⟩,
  ⟨.other, 0, 0, []⟩,
  ⟨.fn, 1, 8, [.nilFunc]⟩,
  ⟨.fn, 1, 8, [.nilFunc]⟩,
  ⟨.fn, 1, 8, [.nilFunc]⟩,
  ⟨.fn, 1, 8, [.nilFunc]⟩,
  ⟨.arr 256 4, 256, 256, [.bool false, .bool false, .bool false, .bool false, .bool false, .bool false, .bool false, .bool false, .bool false, .bool false, .bool false, .bool false, .bool false, .bool false, .bool false, .bool false, .bool false, .bool false, .bool false, .bool false, .bool false, .bool false, .bool false, .bool false, .bool false, .bool false, .bool false, .bool false, .bool false, .bool false, .bool false, .bool false, .bool false, .bool false, .bool false, .bool false, .bool false, .bool false, .bool false, .bool false, .bool false, .bool false, .bool false, .bool false, .bool false, .bool false, .bool false, .bool false, .bool false, .bool false, .bool false, .bool false, .bool false, .bool false, .bool false, .bool false, .bool false, .bool false, .bool false, .bool false, .bool false, .bool false, .bool false, .bool false, .bool false, .bool false, .bool false, .bool false, .bool false, .bool false, .bool false, .bool false, .bool false, .bool false, .bool false, .bool false, .bool false, .bool false, .bool false, .bool false, .bool false, .bool false, .bool false, .bool false, .bool false, .bool false, .bool false, .bool false, .bool false, .bool false, .bool false, .bool false, .bool false, .bool false, .bool false, .bool false, .bool false, .bool false, .bool false, .bool false, .bool false, .bool false, .bool false, .bool false, .bool false, .bool false, .bool false, .bool false, .bool false, .bool false, .bool false, .bool false, .bool false, .bool false, .bool false, .bool false, .bool false, .bool false, .bool false, .bool false, .bool false, .bool false, .bool false, .bool false, .bool false, .bool false, .bool false, .bool false, .bool false, .bool false, .bool false, .bool false, .bool false, .bool false, .bool false, .bool false, .bool false, .bool false, .bool false, .bool false, .bool false, .bool false, .bool false, .bool false, .bool false, .bool false, .bool false, .bool false, .bool false, .bool false, .bool false, .bool false, .bool false, .bool false, .bool false, .bool false, .bool false, .bool false, .bool false, .bool false, .bool false, .bool false, .bool false, .bool false, .bool false, .bool false, .bool false, .bool false, .bool false, .bool false, .bool false, .bool false, .bool false, .bool false, .bool false, .bool false, .bool false, .bool false, .bool false, .bool false, .bool false, .bool false, .bool false, .bool false, .bool false, .bool false, .bool false, .bool false, .bool false, .bool false, .bool false, .bool false, .bool false, .bool false, .bool false, .bool false, .bool false, .bool false, .bool false, .bool false, .bool false, .bool false, .bool false, .bool false, .bool false, .bool false, .bool false, .bool false, .bool false, .bool false, .bool false, .bool false, .bool false, .bool false, .bool false, .bool false, .bool false, .bool false, .bool false, .bool false, .bool false, .bool false, .bool false, .bool false, .bool false, .bool false, .bool false, .bool false, .bool false, .bool false, .bool false, .bool false, .bool false, .bool false, .bool false, .bool false, .bool false, .bool false, .bool false, .bool false, .bool false, .bool false, .bool false, .bool false, .bool false, .bool false, .bool false, .bool false, .bool false, .bool false, .bool false, .bool false, .bool false, .bool false, .bool false, .bool false]⟩,
  ⟨.arr 256 4, 256, 256, [.bool false, .bool false, .bool false, .bool false, .bool false, .bool false, .bool false, .bool false, .bool false, .bool false, .bool false, .bool false, .bool false, .bool false, .bool false, .bool false, .bool false, .bool false, .bool false, .bool false, .bool false, .bool false, .bool false, .bool false, .bool false, .bool false, .bool false, .bool false, .bool false, .bool false, .bool false, .bool false, .bool false, .bool false, .bool false, .bool false, .bool false, .bool false, .bool false, .bool false, .bool false, .bool false, .bool false, .bool false, .bool false, .bool false, .bool false, .bool false, .bool false, .bool false, .bool false, .bool false, .bool false, .bool false, .bool false, .bool false, .bool false, .bool false, .bool false, .bool false, .bool false, .bool false, .bool false, .bool false, .bool false, .bool false, .bool false, .bool false, .bool false, .bool false, .bool false, .bool false, .bool false, .bool false, .bool false, .bool false, .bool false, .bool false, .bool false, .bool false, .bool false, .bool false, .bool false, .bool false, .bool false, .bool false, .bool false, .bool false, .bool false, .bool false, .bool false, .bool false, .bool false, .bool false, .bool false, .bool false, .bool false, .bool false, .bool false, .bool false, .bool false, .bool false, .bool false, .bool false, .bool false, .bool false, .bool false, .bool false, .bool false, .bool false, .bool false, .bool false, .bool false, .bool false, .bool false, .bool false, .bool false, .bool false, .bool false, .bool false, .bool false, .bool false, .bool false, .bool false, .bool false, .bool false, .bool false, .bool false, .bool false, .bool false, .bool false, .bool false, .bool false, .bool false, .bool false, .bool false, .bool false, .bool false, .bool false, .bool false, .bool false, .bool false, .bool false, .bool false, .bool false, .bool false, .bool false, .bool false, .bool false, .bool false, .bool false, .bool false, .bool false, .bool false, .bool false, .bool false, .bool false, .bool false, .bool false, .bool false, .bool false, .bool false, .bool false, .bool false, .bool false, .bool false, .bool false, .bool false, .bool false, .bool false, .bool false, .bool false, .bool false, .bool false, .bool false, .bool false, .bool false, .bool false, .bool false, .bool false, .bool false, .bool false, .bool false, .bool false, .bool false, .bool false, .bool false, .bool false, .bool false, .bool false, .bool false, .bool false, .bool false, .bool false, .bool false, .bool false, .bool false, .bool false, .bool false, .bool false, .bool false, .bool false, .bool false, .bool false, .bool false, .bool false, .bool false, .bool false, .bool false, .bool false, .bool false, .bool false, .bool false, .bool false, .bool false, .bool false, .bool false, .bool false, .bool false, .bool false, .bool false, .bool false, .bool false, .bool false, .bool false, .bool false, .bool false, .bool false, .bool false, .bool false, .bool false, .bool false, .bool false, .bool false, .bool false, .bool false, .bool false, .bool false, .bool false, .bool false, .bool false, .bool false, .bool false, .bool false, .bool false, .bool false, .bool false, .bool false, .bool false, .bool false, .bool false, .bool false, .bool false, .bool false, .bool false, .bool false]⟩,
  ⟨.other, 0, 0, []⟩,
  ⟨.fn, 1, 8, [.nilFunc]⟩,
  ⟨.fn, 1, 8, [.nilFunc]⟩,
  ⟨.ptr, 1, 8, [.pointer none]⟩,
  ⟨.int .i64, 1, 8, [.int .i64 0]⟩,
  ⟨.fn, 1, 8, [.nilFunc]⟩,
  ⟨.ptr, 1, 8, [.pointer none]⟩,
  ⟨.fn, 1, 8, [.nilFunc]⟩,
  ⟨.fn, 1, 8, [.nilFunc]⟩,
  ⟨.fn, 1, 8, [.nilFunc]⟩,
  ⟨.fn, 1, 8, [.nilFunc]⟩,
  ⟨.fn, 1, 8, [.nilFunc]⟩,
  ⟨.fn, 1, 8, [.nilFunc]⟩,
  ⟨.arr 20 38, 20, 160, [.int .u64 0, .int .u64 0, .int .u64 0, .int .u64 0, .int .u64 0, .int .u64 0, .int .u64 0, .int .u64 0, .int .u64 0, .int .u64 0, .int .u64 0, .int .u64 0, .int .u64 0, .int .u64 0, .int .u64 0, .int .u64 0, .int .u64 0, .int .u64 0, .int .u64 0, .int .u64 0]⟩,
  ⟨.arr 65 5, 65, 65, [.int .u8 0, .int .u8 0, .int .u8 0, .int .u8 0, .int .u8 0, .int .u8 0, .int .u8 0, .int .u8 0, .int .u8 0, .int .u8 0, .int .u8 0, .int .u8 0, .int .u8 0, .int .u8 0, .int .u8 0, .int .u8 0, .int .u8 0, .int .u8 0, .int .u8 0, .int .u8 0, .int .u8 0, .int .u8 0, .int .u8 0, .int .u8 0, .int .u8 0, .int .u8 0, .int .u8 0, .int .u8 0, .int .u8 0, .int .u8 0, .int .u8 0, .int .u8 0, .int .u8 0, .int .u8 0, .int .u8 0, .int .u8 0, .int .u8 0, .int .u8 0, .int .u8 0, .int .u8 0, .int .u8 0, .int .u8 0, .int .u8 0, .int .u8 0, .int .u8 0, .int .u8 0, .int .u8 0, .int .u8 0, .int .u8 0, .int .u8 0, .int .u8 0, .int .u8 0, .int .u8 0, .int .u8 0, .int .u8 0, .int .u8 0, .int .u8 0, .int .u8 0, .int .u8 0, .int .u8 0, .int .u8 0, .int .u8 0, .int .u8 0, .int .u8 0, .int .u8 0]⟩,
  ⟨.fn, 1, 8, [.nilFunc]⟩,
  ⟨.fn, 1, 8, [.nilFunc]⟩,
  ⟨.fn, 1, 8, [.nilFunc]⟩,
  ⟨.fn, 1, 8, [.nilFunc]⟩,
  ⟨.other, 0, 0, []⟩,
  ⟨.fn, 1, 8, [.nilFunc]⟩,
  ⟨.fn, 1, 8, [.nilFunc]⟩,
  ⟨.fn, 1, 8, [.nilFunc]⟩,
  ⟨.st [(0, 9), (1, 9), (2, 45)], 3, 48, [.string ⟨#[]⟩, .string ⟨#[]⟩, .nilIface]⟩,
  ⟨.st [(0, 9), (1, 9), (2, 45)], 3, 48, [.string ⟨#[]⟩, .string ⟨#[]⟩, .nilIface]⟩,
  ⟨.fn, 1, 8, [.nilFunc]⟩,
  ⟨.fn, 1, 8, [.nilFunc]⟩,
  ⟨.other, 0, 0, []⟩,
  ⟨.fn, 1, 8, [.nilFunc]⟩,
  ⟨.fn, 1, 8, [.nilFunc]⟩,
  ⟨.ptr, 1, 8, [.pointer none]⟩,
  ⟨.st [(0, 9)], 1, 16, [.string ⟨#[]⟩]⟩,
  ⟨.st [(0, 9)], 1, 16, [.string ⟨#[]⟩]⟩,
  ⟨.arr 32 5, 32, 32, [.int .u8 0, .int .u8 0, .int .u8 0, .int .u8 0, .int .u8 0, .int .u8 0, .int .u8 0, .int .u8 0, .int .u8 0, .int .u8 0, .int .u8 0, .int .u8 0, .int .u8 0, .int .u8 0, .int .u8 0, .int .u8 0, .int .u8 0, .int .u8 0, .int .u8 0, .int .u8 0, .int .u8 0, .int .u8 0, .int .u8 0, .int .u8 0, .int .u8 0, .int .u8 0, .int .u8 0, .int .u8 0, .int .u8 0, .int .u8 0, .int .u8 0, .int .u8 0]⟩,
  ⟨.arr 64 5, 64, 64, [.int .u8 0, .int .u8 0, .int .u8 0, .int .u8 0, .int .u8 0, .int .u8 0, .int .u8 0, .int .u8 0, .int .u8 0, .int .u8 0, .int .u8 0, .int .u8 0, .int .u8 0, .int .u8 0, .int .u8 0, .int .u8 0, .int .u8 0, .int .u8 0, .int .u8 0, .int .u8 0, .int .u8 0, .int .u8 0, .int .u8 0, .int .u8 0, .int .u8 0, .int .u8 0, .int .u8 0, .int .u8 0, .int .u8 0, .int .u8 0, .int .u8 0, .int .u8 0, .int .u8 0, .int .u8 0, .int .u8 0, .int .u8 0, .int .u8 0, .int .u8 0, .int .u8 0, .int .u8 0, .int .u8 0, .int .u8 0, .int .u8 0, .int .u8 0, .int .u8 0, .int .u8 0, .int .u8 0, .int .u8 0, .int .u8 0, .int .u8 0, .int .u8 0, .int .u8 0, .int .u8 0, .int .u8 0, .int .u8 0, .int .u8 0, .int .u8 0, .int .u8 0, .int .u8 0, .int .u8 0, .int .u8 0, .int .u8 0, .int .u8 0, .int .u8 0]⟩,
  ⟨.arr 256 5, 256, 256, [.int .u8 0, .int .u8 0, .int .u8 0, .int .u8 0, .int .u8 0, .int .u8 0, .int .u8 0, .int .u8 0, .int .u8 0, .int .u8 0, .int .u8 0, .int .u8 0, .int .u8 0, .int .u8 0, .int .u8 0, .int .u8 0, .int .u8 0, .int .u8 0, .int .u8 0, .int .u8 0, .int .u8 0, .int .u8 0, .int .u8 0, .int .u8 0, .int .u8 0, .int .u8 0, .int .u8 0, .int .u8 0, .int .u8 0, .int .u8 0, .int .u8 0, .int .u8 0, .int .u8 0, .int .u8 0, .int .u8 0, .int .u8 0, .int .u8 0, .int .u8 0, .int .u8 0, .int .u8 0, .int .u8 0, .int .u8 0, .int .u8 0, .int .u8 0, .int .u8 0, .int .u8 0, .int .u8 0, .int .u8 0, .int .u8 0, .int .u8 0, .int .u8 0, .int .u8 0, .int .u8 0, .int .u8 0, .int .u8 0, .int .u8 0, .int .u8 0, .int .u8 0, .int .u8 0, .int .u8 0, .int .u8 0, .int .u8 0, .int .u8 0, .int .u8 0, .int .u8 0, .int .u8 0, .int .u8 0, .int .u8 0, .int .u8 0, .int .u8 0, .int .u8 0, .int .u8 0, .int .u8 0, .int .u8 0, .int .u8 0, .int .u8 0, .int .u8 0, .int .u8 0, .int .u8 0, .int .u8 0, .int .u8 0, .int .u8 0, .int .u8 0, .int .u8 0, .int .u8 0, .int .u8 0, .int .u8 0, .int .u8 0, .int .u8 0, .int .u8 0, .int .u8 0, .int .u8 0, .int .u8 0, .int .u8 0, .int .u8 0, .int .u8 0, .int .u8 0, .int .u8 0, .int .u8 0, .int .u8 0, .int .u8 0, .int .u8 0, .int .u8 0, .int .u8 0, .int .u8 0, .int .u8 0, .int .u8 0, .int .u8 0, .int .u8 0, .int .u8 0, .int .u8 0, .int .u8 0, .int .u8 0, .int .u8 0, .int .u8 0, .int .u8 0, .int .u8 0, .int .u8 0, .int .u8 0, .int .u8 0, .int .u8 0, .int .u8 0, .int .u8 0, .int .u8 0, .int .u8 0, .int .u8 0, .int .u8 0, .int .u8 0, .int .u8 0, .int .u8 0, .int .u8 0, .int .u8 0, .int .u8 0, .int .u8 0, .int .u8 0, .int .u8 0, .int .u8 0, .int .u8 0, .int .u8 0, .int .u8 0, .int .u8 0, .int .u8 0, .int .u8 0, .int .u8 0, .int .u8 0, .int .u8 0, .int .u8 0, .int .u8 0, .int .u8 0, .int .u8 0, .int .u8 0, .int .u8 0, .int .u8 0, .int .u8 0, .int .u8 0, .int .u8 0, .int .u8 0, .int .u8 0, .int .u8 0, .int .u8 0, .int .u8 0, .int .u8 0, .int .u8 0, .int .u8 0, .int .u8 0, .int .u8 0, .int .u8 0, .int .u8 0, .int .u8 0, .int .u8 0, .int .u8 0, .int .u8 0, .int .u8 0, .int .u8 0, .int .u8 0, .int .u8 0, .int .u8 0, .int .u8 0, .int .u8 0, .int .u8 0, .int .u8 0, .int .u8 0, .int .u8 0, .int .u8 0, .int .u8 0, .int .u8 0, .int .u8 0, .int .u8 0, .int .u8 0, .int .u8 0, .int .u8 0, .int .u8 0, .int .u8 0, .int .u8 0, .int .u8 0, .int .u8 0, .int .u8 0, .int .u8 0, .int .u8 0, .int .u8 0, .int .u8 0, .int .u8 0, .int .u8 0, .int .u8 0, .int .u8 0, .int .u8 0, .int .u8 0, .int .u8 0, .int .u8 0, .int .u8 0, .int .u8 0, .int .u8 0, .int .u8 0, .int .u8 0, .int .u8 0, .int .u8 0, .int .u8 0, .int .u8 0, .int .u8 0, .int .u8 0, .int .u8 0, .int .u8 0, .int .u8 0, .int .u8 0, .int .u8 0, .int .u8 0, .int .u8 0, .int .u8 0, .int .u8 0, .int .u8 0, .int .u8 0, .int .u8 0, .int .u8 0, .int .u8 0, .int .u8 0, .int .u8 0, .int .u8 0, .int .u8 0, .int .u8 0, .int .u8 0, .int .u8 0, .int .u8 0, .int .u8 0, .int .u8 0, .int .u8 0, .int .u8 0, .int .u8 0, .int .u8 0, .int .u8 0, .int .u8 0, .int .u8 0, .int .u8 0, .int .u8 0, .int .u8 0, .int .u8 0, .int .u8 0]⟩,
  ⟨.st [(0, 5), (1, 5)], 2, 2, [.int .u8 0, .int .u8 0]⟩,
  ⟨.st [(0, 5), (1, 5)], 2, 2, [.int .u8 0, .int .u8 0]⟩,
  ⟨.arr 16 142, 32, 32, [.int .u8 0, .int .u8 0, .int .u8 0, .int .u8 0, .int .u8 0, .int .u8 0, .int .u8 0, .int .u8 0, .int .u8 0, .int .u8 0, .int .u8 0, .int .u8 0, .int .u8 0, .int .u8 0, .int .u8 0, .int .u8 0, .int .u8 0, .int .u8 0, .int .u8 0, .int .u8 0, .int .u8 0, .int .u8 0, .int .u8 0, .int .u8 0, .int .u8 0, .int .u8 0, .int .u8 0, .int .u8 0, .int .u8 0, .int .u8 0, .int .u8 0, .int .u8 0]⟩,
  ⟨.fn, 1, 8, [.nilFunc]⟩,
  ⟨.fn, 1, 8, [.nilFunc]⟩,
  ⟨.st [(0, 17), (1, 17), (2, 17), (3, 9)], 4, 40, [.pointer none, .pointer none, .pointer none, .string ⟨#[]⟩]⟩,
  ⟨.st [(0, 17), (1, 17), (2, 17), (3, 9)], 4, 40, [.pointer none, .pointer none, .pointer none, .string ⟨#[]⟩]⟩,
  ⟨.arr 0 16, 0, 0, []⟩,
  ⟨.st [(0, 148)], 0, 0, []⟩,
  ⟨.st [(0, 148)], 0, 0, []⟩,
  ⟨.fn, 1, 8, [.nilFunc]⟩,
  ⟨.int .u8, 1, 1, [.int .u8 0]⟩,
  ⟨.int .u8, 1, 1, [.int .u8 0]⟩,
  ⟨.fn, 1, 8, [.nilFunc]⟩,
  ⟨.int .i32, 1, 4, [.int .i32 0]⟩,
  ⟨.int .i32, 1, 4, [.int .i32 0]⟩,
  ⟨.st [(0, 12), (1, 12), (2, 77), (3, 152), (4, 5), (5, 5), (6, 153), (7, 154), (8, 76), (9, 155), (10, 156)], 11, 48, [.int .u64 0, .int .u64 0, .int .u32 0, .int .u8 0, .int .u8 0, .int .u8 0, .int .u8 0, .nilFunc, .pointer none, .int .i32 0, .int .i32 0]⟩,
  ⟨.st [(0, 12), (1, 12), (2, 77), (3, 152), (4, 5), (5, 5), (6, 153), (7, 154), (8, 76), (9, 155), (10, 156)], 11, 48, [.int .u64 0, .int .u64 0, .int .u32 0, .int .u8 0, .int .u8 0, .int .u8 0, .int .u8 0, .nilFunc, .pointer none, .int .i32 0, .int .i32 0]⟩]

theorem ty0 : tyOk Tryz.prog 0 (⟨.other, 0, 0, []⟩) := rfl
theorem ty1 : tyOk Tryz.prog 1 (⟨.fn, 1, 8, [.nilFunc]⟩) := ⟨⟨Tryz.t1, _, by kernel_rfl, rfl, rfl, rfl, rfl⟩, ⟨_, _, _, Tryz.underlying1⟩⟩
theorem ty2 : tyOk Tryz.prog 2 (⟨.int .i64, 1, 8, [.int .i64 0]⟩) := ⟨⟨Tryz.t2, _, by kernel_rfl, rfl, rfl, rfl, rfl⟩, Tryz.underlying2⟩
theorem ty3 : tyOk Tryz.prog 3 (⟨.int .i64, 1, 8, [.int .i64 0]⟩) := ⟨⟨Tryz.t3, _, by kernel_rfl, rfl, rfl, rfl, rfl⟩, Tryz.underlying3⟩
theorem ty4 : tyOk Tryz.prog 4 (⟨.bool, 1, 1, [.bool false]⟩) := ⟨⟨Tryz.t4, _, by kernel_rfl, rfl, rfl, rfl, rfl⟩, Tryz.underlying4⟩
theorem ty5 : tyOk Tryz.prog 5 (⟨.int .u8, 1, 1, [.int .u8 0]⟩) := ⟨⟨Tryz.t5, _, by kernel_rfl, rfl, rfl, rfl, rfl⟩, Tryz.underlying5⟩
theorem ty6 : tyOk Tryz.prog 6 (⟨.int .u8, 1, 1, [.int .u8 0]⟩) := ⟨⟨Tryz.t6, _, by kernel_rfl, rfl, rfl, rfl, rfl⟩, Tryz.underlying6⟩
theorem ty7 : tyOk Tryz.prog 7 (⟨.st [(0, 2), (1, 3), (2, 4), (3, 6)], 4, 24, [.int .i64 0, .int .i64 0, .bool false, .int .u8 0]⟩) := ⟨⟨Tryz.t7, _, by kernel_rfl, rfl, rfl, rfl, rfl⟩, ⟨_, [(0, 1), (1, 1), (2, 1), (3, 1)], Tryz.underlying7, by kernel_rfl, by kernel_rfl⟩⟩
theorem ty8 : tyOk Tryz.prog 8 (⟨.st [(0, 2), (1, 3), (2, 4), (3, 6)], 4, 24, [.int .i64 0, .int .i64 0, .bool false, .int .u8 0]⟩) := ⟨⟨Tryz.t8, _, by kernel_rfl, rfl, rfl, rfl, rfl⟩, ⟨_, [(0, 1), (1, 1), (2, 1), (3, 1)], Tryz.underlying8, by kernel_rfl, by kernel_rfl⟩⟩
theorem ty9 : tyOk Tryz.prog 9 (⟨.str, 1, 16, [.string ⟨#[]⟩]⟩) := ⟨⟨Tryz.t9, _, by kernel_rfl, rfl, rfl, rfl, rfl⟩, Tryz.underlying9⟩
theorem ty10 : tyOk Tryz.prog 10 (⟨.str, 1, 16, [.string ⟨#[]⟩]⟩) := ⟨⟨Tryz.t10, _, by kernel_rfl, rfl, rfl, rfl, rfl⟩, Tryz.underlying10⟩
theorem ty11 : tyOk Tryz.prog 11 (⟨.str, 1, 16, [.string ⟨#[]⟩]⟩) := ⟨⟨Tryz.t11, _, by kernel_rfl, rfl, rfl, rfl, rfl⟩, Tryz.underlying11⟩
theorem ty12 : tyOk Tryz.prog 12 (⟨.int .u64, 1, 8, [.int .u64 0]⟩) := ⟨⟨Tryz.t12, _, by kernel_rfl, rfl, rfl, rfl, rfl⟩, Tryz.underlying12⟩
theorem ty13 : tyOk Tryz.prog 13 (⟨.st [(0, 9), (1, 12)], 2, 24, [.string ⟨#[]⟩, .int .u64 0]⟩) := ⟨⟨Tryz.t13, _, by kernel_rfl, rfl, rfl, rfl, rfl⟩, ⟨_, [(0, 1), (1, 1)], Tryz.underlying13, by kernel_rfl, by kernel_rfl⟩⟩
theorem ty14 : tyOk Tryz.prog 14 (⟨.st [(0, 9), (1, 12)], 2, 24, [.string ⟨#[]⟩, .int .u64 0]⟩) := ⟨⟨Tryz.t14, _, by kernel_rfl, rfl, rfl, rfl, rfl⟩, ⟨_, [(0, 1), (1, 1)], Tryz.underlying14, by kernel_rfl, by kernel_rfl⟩⟩
theorem ty15 : tyOk Tryz.prog 15 (⟨.ptr, 1, 8, [.pointer none]⟩) := ⟨⟨Tryz.t15, _, by kernel_rfl, rfl, rfl, rfl, rfl⟩, ⟨_, Tryz.underlying15⟩⟩
theorem ty16 : tyOk Tryz.prog 16 (⟨.ptr, 1, 8, [.pointer none]⟩) := ⟨⟨Tryz.t16, _, by kernel_rfl, rfl, rfl, rfl, rfl⟩, ⟨_, Tryz.underlying16⟩⟩
theorem ty17 : tyOk Tryz.prog 17 (⟨.ptr, 1, 8, [.pointer none]⟩) := ⟨⟨Tryz.t17, _, by kernel_rfl, rfl, rfl, rfl, rfl⟩, ⟨_, Tryz.underlying17⟩⟩
theorem ty18 : tyOk Tryz.prog 18 (⟨.st [(0, 17)], 1, 8, [.pointer none]⟩) := ⟨⟨Tryz.t18, _, by kernel_rfl, rfl, rfl, rfl, rfl⟩, ⟨_, [(0, 1)], Tryz.underlying18, by kernel_rfl, by kernel_rfl⟩⟩
theorem ty19 : tyOk Tryz.prog 19 (⟨.st [(0, 17)], 1, 8, [.pointer none]⟩) := ⟨⟨Tryz.t19, _, by kernel_rfl, rfl, rfl, rfl, rfl⟩, ⟨_, [(0, 1)], Tryz.underlying19, by kernel_rfl, by kernel_rfl⟩⟩
theorem ty20 : tyOk Tryz.prog 20 (⟨.other, 0, 0, []⟩) := rfl
theorem ty21 : tyOk Tryz.prog 21 (⟨.int .i32, 1, 4, [.int .i32 0]⟩) := ⟨⟨Tryz.t21, _, by kernel_rfl, rfl, rfl, rfl, rfl⟩, Tryz.underlying21⟩
theorem ty22 : tyOk Tryz.prog 22 (⟨.int .i64, 1, 8, [.int .i64 0]⟩) := ⟨⟨Tryz.t22, _, by kernel_rfl, rfl, rfl, rfl, rfl⟩, Tryz.underlying22⟩
theorem ty23 : tyOk Tryz.prog 23 (⟨.other, 0, 0, []⟩) := rfl
theorem ty24 : tyOk Tryz.prog 24 (⟨.fn, 1, 8, [.nilFunc]⟩) := ⟨⟨Tryz.t24, _, by kernel_rfl, rfl, rfl, rfl, rfl⟩, ⟨_, _, _, Tryz.underlying24⟩⟩
theorem ty25 : tyOk Tryz.prog 25 (⟨.fn, 1, 8, [.nilFunc]⟩) := ⟨⟨Tryz.t25, _, by kernel_rfl, rfl, rfl, rfl, rfl⟩, ⟨_, _, _, Tryz.underlying25⟩⟩
theorem ty26 : tyOk Tryz.prog 26 (⟨.sl 9, 1, 24, [.slice none 0 0]⟩) := ⟨⟨Tryz.t26, _, by kernel_rfl, rfl, rfl, rfl, rfl⟩, Tryz.underlying26⟩
theorem ty27 : tyOk Tryz.prog 27 (⟨.fn, 1, 8, [.nilFunc]⟩) := ⟨⟨Tryz.t27, _, by kernel_rfl, rfl, rfl, rfl, rfl⟩, ⟨_, _, _, Tryz.underlying27⟩⟩
theorem ty28 : tyOk Tryz.prog 28 (⟨.fn, 1, 8, [.nilFunc]⟩) := ⟨⟨Tryz.t28, _, by kernel_rfl, rfl, rfl, rfl, rfl⟩, ⟨_, _, _, Tryz.underlying28⟩⟩
theorem ty29 : tyOk Tryz.prog 29 (⟨.sl 2, 1, 24, [.slice none 0 0]⟩) := ⟨⟨Tryz.t29, _, by kernel_rfl, rfl, rfl, rfl, rfl⟩, Tryz.underlying29⟩
theorem ty30 : tyOk Tryz.prog 30 (⟨.fn, 1, 8, [.nilFunc]⟩) := ⟨⟨Tryz.t30, _, by kernel_rfl, rfl, rfl, rfl, rfl⟩, ⟨_, _, _, Tryz.underlying30⟩⟩
theorem ty31 : tyOk Tryz.prog 31 (⟨.fn, 1, 8, [.nilFunc]⟩) := ⟨⟨Tryz.t31, _, by kernel_rfl, rfl, rfl, rfl, rfl⟩, ⟨_, _, _, Tryz.underlying31⟩⟩
theorem ty32 : tyOk Tryz.prog 32 (⟨.fn, 1, 8, [.nilFunc]⟩) := ⟨⟨Tryz.t32, _, by kernel_rfl, rfl, rfl, rfl, rfl⟩, ⟨_, _, _, Tryz.underlying32⟩⟩
theorem ty33 : tyOk Tryz.prog 33 (⟨.int .u16, 1, 2, [.int .u16 0]⟩) := ⟨⟨Tryz.t33, _, by kernel_rfl, rfl, rfl, rfl, rfl⟩, Tryz.underlying33⟩
theorem ty34 : tyOk Tryz.prog 34 (⟨.fn, 1, 8, [.nilFunc]⟩) := ⟨⟨Tryz.t34, _, by kernel_rfl, rfl, rfl, rfl, rfl⟩, ⟨_, _, _, Tryz.underlying34⟩⟩
theorem ty35 : tyOk Tryz.prog 35 (⟨.fn, 1, 8, [.nilFunc]⟩) := ⟨⟨Tryz.t35, _, by kernel_rfl, rfl, rfl, rfl, rfl⟩, ⟨_, _, _, Tryz.underlying35⟩⟩
theorem ty36 : tyOk Tryz.prog 36 (⟨.fn, 1, 8, [.nilFunc]⟩) := ⟨⟨Tryz.t36, _, by kernel_rfl, rfl, rfl, rfl, rfl⟩, ⟨_, _, _, Tryz.underlying36⟩⟩
theorem ty37 : tyOk Tryz.prog 37 (⟨.fn, 1, 8, [.nilFunc]⟩) := ⟨⟨Tryz.t37, _, by kernel_rfl, rfl, rfl, rfl, rfl⟩, ⟨_, _, _, Tryz.underlying37⟩⟩
theorem ty38 : tyOk Tryz.prog 38 (⟨.int .u64, 1, 8, [.int .u64 0]⟩) := ⟨⟨Tryz.t38, _, by kernel_rfl, rfl, rfl, rfl, rfl⟩, Tryz.underlying38⟩
theorem ty39 : tyOk Tryz.prog 39 (⟨.fn, 1, 8, [.nilFunc]⟩) := ⟨⟨Tryz.t39, _, by kernel_rfl, rfl, rfl, rfl, rfl⟩, ⟨_, _, _, Tryz.underlying39⟩⟩
theorem ty40 : tyOk Tryz.prog 40 (⟨.ptr, 1, 8, [.pointer none]⟩) := ⟨⟨Tryz.t40, _, by kernel_rfl, rfl, rfl, rfl, rfl⟩, ⟨_, Tryz.underlying40⟩⟩
theorem ty41 : tyOk Tryz.prog 41 (⟨.sl 5, 1, 24, [.slice none 0 0]⟩) := ⟨⟨Tryz.t41, _, by kernel_rfl, rfl, rfl, rfl, rfl⟩, Tryz.underlying41⟩
theorem ty42 : tyOk Tryz.prog 42 (⟨.st [(0, 40), (1, 41)], 2, 32, [.pointer none, .slice none 0 0]⟩) := ⟨⟨Tryz.t42, _, by kernel_rfl, rfl, rfl, rfl, rfl⟩, ⟨_, [(0, 1), (1, 1)], Tryz.underlying42, by kernel_rfl, by kernel_rfl⟩⟩
theorem ty43 : tyOk Tryz.prog 43 (⟨.st [(0, 40), (1, 41)], 2, 32, [.pointer none, .slice none 0 0]⟩) := ⟨⟨Tryz.t43, _, by kernel_rfl, rfl, rfl, rfl, rfl⟩, ⟨_, [(0, 1), (1, 1)], Tryz.underlying43, by kernel_rfl, by kernel_rfl⟩⟩
theorem ty44 : tyOk Tryz.prog 44 (⟨.other, 0, 0, []⟩) := rfl
theorem ty45 : tyOk Tryz.prog 45 (⟨.other, 0, 0, []⟩) := rfl
theorem ty46 : tyOk Tryz.prog 46 (⟨.fn, 1, 8, [.nilFunc]⟩) := ⟨⟨Tryz.t46, _, by kernel_rfl, rfl, rfl, rfl, rfl⟩, ⟨_, _, _, Tryz.underlying46⟩⟩
theorem ty47 : tyOk Tryz.prog 47 (⟨.fn, 1, 8, [.nilFunc]⟩) := ⟨⟨Tryz.t47, _, by kernel_rfl, rfl, rfl, rfl, rfl⟩, ⟨_, _, _, Tryz.underlying47⟩⟩
theorem ty48 : tyOk Tryz.prog 48 (⟨.other, 0, 0, []⟩) := rfl
theorem ty49 : tyOk Tryz.prog 49 (⟨.fn, 1, 8, [.nilFunc]⟩) := ⟨⟨Tryz.t49, _, by kernel_rfl, rfl, rfl, rfl, rfl⟩, ⟨_, _, _, Tryz.underlying49⟩⟩
theorem ty50 : tyOk Tryz.prog 50 (⟨.fn, 1, 8, [.nilFunc]⟩) := ⟨⟨Tryz.t50, _, by kernel_rfl, rfl, rfl, rfl, rfl⟩, ⟨_, _, _, Tryz.underlying50⟩⟩
theorem ty51 : tyOk Tryz.prog 51 (⟨.fn, 1, 8, [.nilFunc]⟩) := ⟨⟨Tryz.t51, _, by kernel_rfl, rfl, rfl, rfl, rfl⟩, ⟨_, _, _, Tryz.underlying51⟩⟩
theorem ty52 : tyOk Tryz.prog 52 (⟨.sl 3, 1, 24, [.slice none 0 0]⟩) := ⟨⟨Tryz.t52, _, by kernel_rfl, rfl, rfl, rfl, rfl⟩, Tryz.underlying52⟩
theorem ty53 : tyOk Tryz.prog 53 (⟨.other, 0, 0, []⟩) := rfl
theorem ty54 : tyOk Tryz.prog 54 (⟨.fn, 1, 8, [.nilFunc]⟩) := ⟨⟨Tryz.t54, _, by kernel_rfl, rfl, rfl, rfl, rfl⟩, ⟨_, _, _, Tryz.underlying54⟩⟩
theorem ty55 : tyOk Tryz.prog 55 (⟨.other, 0, 0, []⟩) := rfl
theorem ty56 : tyOk Tryz.prog 56 (⟨.fn, 1, 8, [.nilFunc]⟩) := ⟨⟨Tryz.t56, _, by kernel_rfl, rfl, rfl, rfl, rfl⟩, ⟨_, _, _, Tryz.underlying56⟩⟩
theorem ty57 : tyOk Tryz.prog 57 (⟨.other, 0, 0, []⟩) := rfl
theorem ty58 : tyOk Tryz.prog 58 (⟨.fn, 1, 8, [.nilFunc]⟩) := ⟨⟨Tryz.t58, _, by kernel_rfl, rfl, rfl, rfl, rfl⟩, ⟨_, _, _, Tryz.underlying58⟩⟩
theorem ty59 : tyOk Tryz.prog 59 (⟨.fn, 1, 8, [.nilFunc]⟩) := ⟨⟨Tryz.t59, _, by kernel_rfl, rfl, rfl, rfl, rfl⟩, ⟨_, _, _, Tryz.underlying59⟩⟩
theorem ty60 : tyOk Tryz.prog 60 (⟨.fn, 1, 8, [.nilFunc]⟩) := ⟨⟨Tryz.t60, _, by kernel_rfl, rfl, rfl, rfl, rfl⟩, ⟨_, _, _, Tryz.underlying60⟩⟩
theorem ty61 : tyOk Tryz.prog 61 (⟨.ptr, 1, 8, [.pointer none]⟩) := ⟨⟨Tryz.t61, _, by kernel_rfl, rfl, rfl, rfl, rfl⟩, ⟨_, Tryz.underlying61⟩⟩
theorem ty62 : tyOk Tryz.prog 62 (⟨.ptr, 1, 8, [.pointer none]⟩) := ⟨⟨Tryz.t62, _, by kernel_rfl, rfl, rfl, rfl, rfl⟩, ⟨_, Tryz.underlying62⟩⟩
theorem ty63 : tyOk Tryz.prog 63 (⟨.other, 0, 0, []⟩) := rfl
theorem ty64 : tyOk Tryz.prog 64 (⟨.fn, 1, 8, [.nilFunc]⟩) := ⟨⟨Tryz.t64, _, by kernel_rfl, rfl, rfl, rfl, rfl⟩, ⟨_, _, _, Tryz.underlying64⟩⟩
theorem ty65 : tyOk Tryz.prog 65 (⟨.arr 40 5, 40, 40, [.int .u8 0, .int .u8 0, .int .u8 0, .int .u8 0, .int .u8 0, .int .u8 0, .int .u8 0, .int .u8 0, .int .u8 0, .int .u8 0, .int .u8 0, .int .u8 0, .int .u8 0, .int .u8 0, .int .u8 0, .int .u8 0, .int .u8 0, .int .u8 0, .int .u8 0, .int .u8 0, .int .u8 0, .int .u8 0, .int .u8 0, .int .u8 0, .int .u8 0, .int .u8 0, .int .u8 0, .int .u8 0, .int .u8 0, .int .u8 0, .int .u8 0, .int .u8 0, .int .u8 0, .int .u8 0, .int .u8 0, .int .u8 0, .int .u8 0, .int .u8 0, .int .u8 0, .int .u8 0]⟩) := ⟨⟨Tryz.t65, _, by kernel_rfl, rfl, rfl, rfl, rfl⟩, Tryz.underlying65⟩
theorem ty66 : tyOk Tryz.prog 66 (⟨.fn, 1, 8, [.nilFunc]⟩) := ⟨⟨Tryz.t66, _, by kernel_rfl, rfl, rfl, rfl, rfl⟩, ⟨_, _, _, Tryz.underlying66⟩⟩
theorem ty67 : tyOk Tryz.prog 67 (⟨.int .u64, 1, 8, [.int .u64 0]⟩) := ⟨⟨Tryz.t67, _, by kernel_rfl, rfl, rfl, rfl, rfl⟩, Tryz.underlying67⟩
theorem ty68 : tyOk Tryz.prog 68 (⟨.fn, 1, 8, [.nilFunc]⟩) := ⟨⟨Tryz.t68, _, by kernel_rfl, rfl, rfl, rfl, rfl⟩, ⟨_, _, _, Tryz.underlying68⟩⟩
theorem ty69 : tyOk Tryz.prog 69 (⟨.fn, 1, 8, [.nilFunc]⟩) := ⟨⟨Tryz.t69, _, by kernel_rfl, rfl, rfl, rfl, rfl⟩, ⟨_, _, _, Tryz.underlying69⟩⟩
theorem ty70 : tyOk Tryz.prog 70 (⟨.fn, 1, 8, [.nilFunc]⟩) := ⟨⟨Tryz.t70, _, by kernel_rfl, rfl, rfl, rfl, rfl⟩, ⟨_, _, _, Tryz.underlying70⟩⟩
theorem ty71 : tyOk Tryz.prog 71 (⟨.arr 2 38, 2, 16, [.int .u64 0, .int .u64 0]⟩) := ⟨⟨Tryz.t71, _, by kernel_rfl, rfl, rfl, rfl, rfl⟩, Tryz.underlying71⟩
theorem ty72 : tyOk Tryz.prog 72 (⟨.arr 2 38, 2, 16, [.int .u64 0, .int .u64 0]⟩) := ⟨⟨Tryz.t72, _, by kernel_rfl, rfl, rfl, rfl, rfl⟩, Tryz.underlying72⟩
theorem ty73 : tyOk Tryz.prog 73 (⟨.other, 0, 0, []⟩) := rfl
theorem ty74 : tyOk Tryz.prog 74 (⟨.fn, 1, 8, [.nilFunc]⟩) := ⟨⟨Tryz.t74, _, by kernel_rfl, rfl, rfl, rfl, rfl⟩, ⟨_, _, _, Tryz.underlying74⟩⟩
theorem ty75 : tyOk Tryz.prog 75 (⟨.fn, 1, 8, [.nilFunc]⟩) := ⟨⟨Tryz.t75, _, by kernel_rfl, rfl, rfl, rfl, rfl⟩, ⟨_, _, _, Tryz.underlying75⟩⟩
theorem ty76 : tyOk Tryz.prog 76 (⟨.ptr, 1, 8, [.pointer none]⟩) := ⟨⟨Tryz.t76, _, by kernel_rfl, rfl, rfl, rfl, rfl⟩, ⟨_, Tryz.underlying76⟩⟩
theorem ty77 : tyOk Tryz.prog 77 (⟨.int .u32, 1, 4, [.int .u32 0]⟩) := ⟨⟨Tryz.t77, _, by kernel_rfl, rfl, rfl, rfl, rfl⟩, Tryz.underlying77⟩
theorem ty78 : tyOk Tryz.prog 78 (⟨.sl 77, 1, 24, [.slice none 0 0]⟩) := ⟨⟨Tryz.t78, _, by kernel_rfl, rfl, rfl, rfl, rfl⟩, Tryz.underlying78⟩
theorem ty79 : tyOk Tryz.prog 79 (⟨.sl 77, 1, 24, [.slice none 0 0]⟩) := ⟨⟨Tryz.t79, _, by kernel_rfl, rfl, rfl, rfl, rfl⟩, Tryz.underlying79⟩
theorem ty80 : tyOk Tryz.prog 80 (⟨.fn, 1, 8, [.nilFunc]⟩) := ⟨⟨Tryz.t80, _, by kernel_rfl, rfl, rfl, rfl, rfl⟩, ⟨_, _, _, Tryz.underlying80⟩⟩
theorem ty81 : tyOk Tryz.prog 81 (⟨.fn, 1, 8, [.nilFunc]⟩) := ⟨⟨Tryz.t81, _, by kernel_rfl, rfl, rfl, rfl, rfl⟩, ⟨_, _, _, Tryz.underlying81⟩⟩
theorem ty82 : tyOk Tryz.prog 82 (⟨.other, 0, 0, []⟩) := rfl
theorem ty83 : tyOk Tryz.prog 83 (⟨.fn, 1, 8, [.nilFunc]⟩) := ⟨⟨Tryz.t83, _, by kernel_rfl, rfl, rfl, rfl, rfl⟩, ⟨_, _, _, Tryz.underlying83⟩⟩
theorem ty84 : tyOk Tryz.prog 84 (⟨.fn, 1, 8, [.nilFunc]⟩) := ⟨⟨Tryz.t84, _, by kernel_rfl, rfl, rfl, rfl, rfl⟩, ⟨_, _, _, Tryz.underlying84⟩⟩
theorem ty85 : tyOk Tryz.prog 85 (⟨.fn, 1, 8, [.nilFunc]⟩) := ⟨⟨Tryz.t85, _, by kernel_rfl, rfl, rfl, rfl, rfl⟩, ⟨_, _, _, Tryz.underlying85⟩⟩
theorem ty86 : tyOk Tryz.prog 86 (⟨.fn, 1, 8, [.nilFunc]⟩) := ⟨⟨Tryz.t86, _, by kernel_rfl, rfl, rfl, rfl, rfl⟩, ⟨_, _, _, Tryz.underlying86⟩⟩
theorem ty87 : tyOk Tryz.prog 87 (⟨.fn, 1, 8, [.nilFunc]⟩) := ⟨⟨Tryz.t87, _, by kernel_rfl, rfl, rfl, rfl, rfl⟩, ⟨_, _, _, Tryz.underlying87⟩⟩
theorem ty88 : tyOk Tryz.prog 88 (⟨.fn, 1, 8, [.nilFunc]⟩) := ⟨⟨Tryz.t88, _, by kernel_rfl, rfl, rfl, rfl, rfl⟩, ⟨_, _, _, Tryz.underlying88⟩⟩
theorem ty89 : tyOk Tryz.prog 89 (⟨.fn, 1, 8, [.nilFunc]⟩) := ⟨⟨Tryz.t89, _, by kernel_rfl, rfl, rfl, rfl, rfl⟩, ⟨_, _, _, Tryz.underlying89⟩⟩
theorem ty90 : tyOk Tryz.prog 90 (⟨.fn, 1, 8, [.nilFunc]⟩) := ⟨⟨Tryz.t90, _, by kernel_rfl, rfl, rfl, rfl, rfl⟩, ⟨_, _, _, Tryz.underlying90⟩⟩
theorem ty91 : tyOk Tryz.prog 91 (⟨.fn, 1, 8, [.nilFunc]⟩) := ⟨⟨Tryz.t91, _, by kernel_rfl, rfl, rfl, rfl, rfl⟩, ⟨_, _, _, Tryz.underlying91⟩⟩
theorem ty92 : tyOk Tryz.prog 92 (⟨.other, 0, 0, []⟩) := rfl
theorem ty93 : tyOk Tryz.prog 93 (⟨.fn, 1, 8, [.nilFunc]⟩) := ⟨⟨Tryz.t93, _, by kernel_rfl, rfl, rfl, rfl, rfl⟩, ⟨_, _, _, Tryz.underlying93⟩⟩
theorem ty94 : tyOk Tryz.prog 94 (⟨.fn, 1, 8, [.nilFunc]⟩) := ⟨⟨Tryz.t94, _, by kernel_rfl, rfl, rfl, rfl, rfl⟩, ⟨_, _, _, Tryz.underlying94⟩⟩
theorem ty95 : tyOk Tryz.prog 95 (⟨.arr 24 5, 24, 24, [.int .u8 0, .int .u8 0, .int .u8 0, .int .u8 0, .int .u8 0, .int .u8 0, .int .u8 0, .int .u8 0, .int .u8 0, .int .u8 0, .int .u8 0, .int .u8 0, .int .u8 0, .int .u8 0, .int .u8 0, .int .u8 0, .int .u8 0, .int .u8 0, .int .u8 0, .int .u8 0, .int .u8 0, .int .u8 0, .int .u8 0, .int .u8 0]⟩) := ⟨⟨Tryz.t95, _, by kernel_rfl, rfl, rfl, rfl, rfl⟩, Tryz.underlying95⟩
theorem ty96 : tyOk Tryz.prog 96 (⟨.fn, 1, 8, [.nilFunc]⟩) := ⟨⟨Tryz.t96, _, by kernel_rfl, rfl, rfl, rfl, rfl⟩, ⟨_, _, _, Tryz.underlying96⟩⟩
theorem ty97 : tyOk Tryz.prog 97 (⟨.fn, 1, 8, [.nilFunc]⟩) := ⟨⟨Tryz.t97, _, by kernel_rfl, rfl, rfl, rfl, rfl⟩, ⟨_, _, _, Tryz.underlying97⟩⟩
theorem ty98 : tyOk Tryz.prog 98 (⟨.other, 0, 0, []⟩) := rfl
theorem ty99 : tyOk Tryz.prog 99 (⟨.fn, 1, 8, [.nilFunc]⟩) := ⟨⟨Tryz.t99, _, by kernel_rfl, rfl, rfl, rfl, rfl⟩, ⟨_, _, _, Tryz.underlying99⟩⟩
theorem ty100 : tyOk Tryz.prog 100 (⟨.fn, 1, 8, [.nilFunc]⟩) := ⟨⟨Tryz.t100, _, by kernel_rfl, rfl, rfl, rfl, rfl⟩, ⟨_, _, _, Tryz.underlying100⟩⟩
theorem ty101 : tyOk Tryz.prog 101 (⟨.fn, 1, 8, [.nilFunc]⟩) := ⟨⟨Tryz.t101, _, by kernel_rfl, rfl, rfl, rfl, rfl⟩, ⟨_, _, _, Tryz.underlying101⟩⟩
theorem ty102 : tyOk Tryz.prog 102 (⟨.fn, 1, 8, [.nilFunc]⟩) := ⟨⟨Tryz.t102, _, by kernel_rfl, rfl, rfl, rfl, rfl⟩, ⟨_, _, _, Tryz.underlying102⟩⟩
theorem ty103 : tyOk Tryz.prog 103 (⟨.arr 256 4, 256, 256, [.bool false, .bool false, .bool false, .bool false, .bool false, .bool false, .bool false, .bool false, .bool false, .bool false, .bool false, .bool false, .bool false, .bool false, .bool false, .bool false, .bool false, .bool false, .bool false, .bool false, .bool false, .bool false, .bool false, .bool false, .bool false, .bool false, .bool false, .bool false, .bool false, .bool false, .bool false, .bool false, .bool false, .bool false, .bool false, .bool false, .bool false, .bool false, .bool false, .bool false, .bool false, .bool false, .bool false, .bool false, .bool false, .bool false, .bool false, .bool false, .bool false, .bool false, .bool false, .bool false, .bool false, .bool false, .bool false, .bool false, .bool false, .bool false, .bool false, .bool false, .bool false, .bool false, .bool false, .bool false, .bool false, .bool false, .bool false, .bool false, .bool false, .bool false, .bool false, .bool false, .bool false, .bool false, .bool false, .bool false, .bool false, .bool false, .bool false, .bool false, .bool false, .bool false, .bool false, .bool false, .bool false, .bool false, .bool false, .bool false, .bool false, .bool false, .bool false, .bool false, .bool false, .bool false, .bool false, .bool false, .bool false, .bool false, .bool false, .bool false, .bool false, .bool false, .bool false, .bool false, .bool false, .bool false, .bool false, .bool false, .bool false, .bool false, .bool false, .bool false, .bool false, .bool false, .bool false, .bool false, .bool false, .bool false, .bool false, .bool false, .bool false, .bool false, .bool false, .bool false, .bool false, .bool false, .bool false, .bool false, .bool false, .bool false, .bool false, .bool false, .bool false, .bool false, .bool false, .bool false, .bool false, .bool false, .bool false, .bool false, .bool false, .bool false, .bool false, .bool false, .bool false, .bool false, .bool false, .bool false, .bool false, .bool false, .bool false, .bool false, .bool false, .bool false, .bool false, .bool false, .bool false, .bool false, .bool false, .bool false, .bool false, .bool false, .bool false, .bool false, .bool false, .bool false, .bool false, .bool false, .bool false, .bool false, .bool false, .bool false, .bool false, .bool false, .bool false, .bool false, .bool false, .bool false, .bool false, .bool false, .bool false, .bool false, .bool false, .bool false, .bool false, .bool false, .bool false, .bool false, .bool false, .bool false, .bool false, .bool false, .bool false, .bool false, .bool false, .bool false, .bool false, .bool false, .bool false, .bool false, .bool false, .bool false, .bool false, .bool false, .bool false, .bool false, .bool false, .bool false, .bool false, .bool false, .bool false, .bool false, .bool false, .bool false, .bool false, .bool false, .bool false, .bool false, .bool false, .bool false, .bool false, .bool false, .bool false, .bool false, .bool false, .bool false, .bool false, .bool false, .bool false, .bool false, .bool false, .bool false, .bool false, .bool false, .bool false, .bool false, .bool false, .bool false, .bool false, .bool false, .bool false, .bool false, .bool false, .bool false, .bool false, .bool false, .bool false, .bool false, .bool false, .bool false, .bool false, .bool false, .bool false, .bool false, .bool false, .bool false]⟩) := ⟨⟨Tryz.t103, _, by kernel_rfl, rfl, rfl, rfl, rfl⟩, Tryz.underlying103⟩
theorem ty104 : tyOk Tryz.prog 104 (⟨.arr 256 4, 256, 256, [.bool false, .bool false, .bool false, .bool false, .bool false, .bool false, .bool false, .bool false, .bool false, .bool false, .bool false, .bool false, .bool false, .bool false, .bool false, .bool false, .bool false, .bool false, .bool false, .bool false, .bool false, .bool false, .bool false, .bool false, .bool false, .bool false, .bool false, .bool false, .bool false, .bool false, .bool false, .bool false, .bool false, .bool false, .bool false, .bool false, .bool false, .bool false, .bool false, .bool false, .bool false, .bool false, .bool false, .bool false, .bool false, .bool false, .bool false, .bool false, .bool false, .bool false, .bool false, .bool false, .bool false, .bool false, .bool false, .bool false, .bool false, .bool false, .bool false, .bool false, .bool false, .bool false, .bool false, .bool false, .bool false, .bool false, .bool false, .bool false, .bool false, .bool false, .bool false, .bool false, .bool false, .bool false, .bool false, .bool false, .bool false, .bool false, .bool false, .bool false, .bool false, .bool false, .bool false, .bool false, .bool false, .bool false, .bool false, .bool false, .bool false, .bool false, .bool false, .bool false, .bool false, .bool false, .bool false, .bool false, .bool false, .bool false, .bool false, .bool false, .bool false, .bool false, .bool false, .bool false, .bool false, .bool false, .bool false, .bool false, .bool false, .bool false, .bool false, .bool false, .bool false, .bool false, .bool false, .bool false, .bool false, .bool false, .bool false, .bool false, .bool false, .bool false, .bool false, .bool false, .bool false, .bool false, .bool false, .bool false, .bool false, .bool false, .bool false, .bool false, .bool false, .bool false, .bool false, .bool false, .bool false, .bool false, .bool false, .bool false, .bool false, .bool false, .bool false, .bool false, .bool false, .bool false, .bool false, .bool false, .bool false, .bool false, .bool false, .bool false, .bool false, .bool false, .bool false, .bool false, .bool false, .bool false, .bool false, .bool false, .bool false, .bool false, .bool false, .bool false, .bool false, .bool false, .bool false, .bool false, .bool false, .bool false, .bool false, .bool false, .bool false, .bool false, .bool false, .bool false, .bool false, .bool false, .bool false, .bool false, .bool false, .bool false, .bool false, .bool false, .bool false, .bool false, .bool false, .bool false, .bool false, .bool false, .bool false, .bool false, .bool false, .bool false, .bool false, .bool false, .bool false, .bool false, .bool false, .bool false, .bool false, .bool false, .bool false, .bool false, .bool false, .bool false, .bool false, .bool false, .bool false, .bool false, .bool false, .bool false, .bool false, .bool false, .bool false, .bool false, .bool false, .bool false, .bool false, .bool false, .bool false, .bool false, .bool false, .bool false, .bool false, .bool false, .bool false, .bool false, .bool false, .bool false, .bool false, .bool false, .bool false, .bool false, .bool false, .bool false, .bool false, .bool false, .bool false, .bool false, .bool false, .bool false, .bool false, .bool false, .bool false, .bool false, .bool false, .bool false, .bool false, .bool false, .bool false, .bool false, .bool false, .bool false, .bool false, .bool false]⟩) := ⟨⟨Tryz.t104, _, by kernel_rfl, rfl, rfl, rfl, rfl⟩, Tryz.underlying104⟩
theorem ty105 : tyOk Tryz.prog 105 (⟨.other, 0, 0, []⟩) := rfl
theorem ty106 : tyOk Tryz.prog 106 (⟨.fn, 1, 8, [.nilFunc]⟩) := ⟨⟨Tryz.t106, _, by kernel_rfl, rfl, rfl, rfl, rfl⟩, ⟨_, _, _, Tryz.underlying106⟩⟩
theorem ty107 : tyOk Tryz.prog 107 (⟨.fn, 1, 8, [.nilFunc]⟩) := ⟨⟨Tryz.t107, _, by kernel_rfl, rfl, rfl, rfl, rfl⟩, ⟨_, _, _, Tryz.underlying107⟩⟩
theorem ty108 : tyOk Tryz.prog 108 (⟨.ptr, 1, 8, [.pointer none]⟩) := ⟨⟨Tryz.t108, _, by kernel_rfl, rfl, rfl, rfl, rfl⟩, ⟨_, Tryz.underlying108⟩⟩
theorem ty109 : tyOk Tryz.prog 109 (⟨.int .i64, 1, 8, [.int .i64 0]⟩) := ⟨⟨Tryz.t109, _, by kernel_rfl, rfl, rfl, rfl, rfl⟩, Tryz.underlying109⟩
theorem ty110 : tyOk Tryz.prog 110 (⟨.fn, 1, 8, [.nilFunc]⟩) := ⟨⟨Tryz.t110, _, by kernel_rfl, rfl, rfl, rfl, rfl⟩, ⟨_, _, _, Tryz.underlying110⟩⟩
theorem ty111 : tyOk Tryz.prog 111 (⟨.ptr, 1, 8, [.pointer none]⟩) := ⟨⟨Tryz.t111, _, by kernel_rfl, rfl, rfl, rfl, rfl⟩, ⟨_, Tryz.underlying111⟩⟩
theorem ty112 : tyOk Tryz.prog 112 (⟨.fn, 1, 8, [.nilFunc]⟩) := ⟨⟨Tryz.t112, _, by kernel_rfl, rfl, rfl, rfl, rfl⟩, ⟨_, _, _, Tryz.underlying112⟩⟩
theorem ty113 : tyOk Tryz.prog 113 (⟨.fn, 1, 8, [.nilFunc]⟩) := ⟨⟨Tryz.t113, _, by kernel_rfl, rfl, rfl, rfl, rfl⟩, ⟨_, _, _, Tryz.underlying113⟩⟩
theorem ty114 : tyOk Tryz.prog 114 (⟨.fn, 1, 8, [.nilFunc]⟩) := ⟨⟨Tryz.t114, _, by kernel_rfl, rfl, rfl, rfl, rfl⟩, ⟨_, _, _, Tryz.underlying114⟩⟩
theorem ty115 : tyOk Tryz.prog 115 (⟨.fn, 1, 8, [.nilFunc]⟩) := ⟨⟨Tryz.t115, _, by kernel_rfl, rfl, rfl, rfl, rfl⟩, ⟨_, _, _, Tryz.underlying115⟩⟩
theorem ty116 : tyOk Tryz.prog 116 (⟨.fn, 1, 8, [.nilFunc]⟩) := ⟨⟨Tryz.t116, _, by kernel_rfl, rfl, rfl, rfl, rfl⟩, ⟨_, _, _, Tryz.underlying116⟩⟩
theorem ty117 : tyOk Tryz.prog 117 (⟨.fn, 1, 8, [.nilFunc]⟩) := ⟨⟨Tryz.t117, _, by kernel_rfl, rfl, rfl, rfl, rfl⟩, ⟨_, _, _, Tryz.underlying117⟩⟩
theorem ty118 : tyOk Tryz.prog 118 (⟨.arr 20 38, 20, 160, [.int .u64 0, .int .u64 0, .int .u64 0, .int .u64 0, .int .u64 0, .int .u64 0, .int .u64 0, .int .u64 0, .int .u64 0, .int .u64 0, .int .u64 0, .int .u64 0, .int .u64 0, .int .u64 0, .int .u64 0, .int .u64 0, .int .u64 0, .int .u64 0, .int .u64 0, .int .u64 0]⟩) := ⟨⟨Tryz.t118, _, by kernel_rfl, rfl, rfl, rfl, rfl⟩, Tryz.underlying118⟩
theorem ty119 : tyOk Tryz.prog 119 (⟨.arr 65 5, 65, 65, [.int .u8 0, .int .u8 0, .int .u8 0, .int .u8 0, .int .u8 0, .int .u8 0, .int .u8 0, .int .u8 0, .int .u8 0, .int .u8 0, .int .u8 0, .int .u8 0, .int .u8 0, .int .u8 0, .int .u8 0, .int .u8 0, .int .u8 0, .int .u8 0, .int .u8 0, .int .u8 0, .int .u8 0, .int .u8 0, .int .u8 0, .int .u8 0, .int .u8 0, .int .u8 0, .int .u8 0, .int .u8 0, .int .u8 0, .int .u8 0, .int .u8 0, .int .u8 0, .int .u8 0, .int .u8 0, .int .u8 0, .int .u8 0, .int .u8 0, .int .u8 0, .int .u8 0, .int .u8 0, .int .u8 0, .int .u8 0, .int .u8 0, .int .u8 0, .int .u8 0, .int .u8 0, .int .u8 0, .int .u8 0, .int .u8 0, .int .u8 0, .int .u8 0, .int .u8 0, .int .u8 0, .int .u8 0, .int .u8 0, .int .u8 0, .int .u8 0, .int .u8 0, .int .u8 0, .int .u8 0, .int .u8 0, .int .u8 0, .int .u8 0, .int .u8 0, .int .u8 0]⟩) := ⟨⟨Tryz.t119, _, by kernel_rfl, rfl, rfl, rfl, rfl⟩, Tryz.underlying119⟩
theorem ty120 : tyOk Tryz.prog 120 (⟨.fn, 1, 8, [.nilFunc]⟩) := ⟨⟨Tryz.t120, _, by kernel_rfl, rfl, rfl, rfl, rfl⟩, ⟨_, _, _, Tryz.underlying120⟩⟩
theorem ty121 : tyOk Tryz.prog 121 (⟨.fn, 1, 8, [.nilFunc]⟩) := ⟨⟨Tryz.t121, _, by kernel_rfl, rfl, rfl, rfl, rfl⟩, ⟨_, _, _, Tryz.underlying121⟩⟩
theorem ty122 : tyOk Tryz.prog 122 (⟨.fn, 1, 8, [.nilFunc]⟩) := ⟨⟨Tryz.t122, _, by kernel_rfl, rfl, rfl, rfl, rfl⟩, ⟨_, _, _, Tryz.underlying122⟩⟩
theorem ty123 : tyOk Tryz.prog 123 (⟨.fn, 1, 8, [.nilFunc]⟩) := ⟨⟨Tryz.t123, _, by kernel_rfl, rfl, rfl, rfl, rfl⟩, ⟨_, _, _, Tryz.underlying123⟩⟩
theorem ty124 : tyOk Tryz.prog 124 (⟨.other, 0, 0, []⟩) := rfl
theorem ty125 : tyOk Tryz.prog 125 (⟨.fn, 1, 8, [.nilFunc]⟩) := ⟨⟨Tryz.t125, _, by kernel_rfl, rfl, rfl, rfl, rfl⟩, ⟨_, _, _, Tryz.underlying125⟩⟩
theorem ty126 : tyOk Tryz.prog 126 (⟨.fn, 1, 8, [.nilFunc]⟩) := ⟨⟨Tryz.t126, _, by kernel_rfl, rfl, rfl, rfl, rfl⟩, ⟨_, _, _, Tryz.underlying126⟩⟩
theorem ty127 : tyOk Tryz.prog 127 (⟨.fn, 1, 8, [.nilFunc]⟩) := ⟨⟨Tryz.t127, _, by kernel_rfl, rfl, rfl, rfl, rfl⟩, ⟨_, _, _, Tryz.underlying127⟩⟩
theorem ty128 : tyOk Tryz.prog 128 (⟨.st [(0, 9), (1, 9), (2, 45)], 3, 48, [.string ⟨#[]⟩, .string ⟨#[]⟩, .nilIface]⟩) := ⟨⟨Tryz.t128, _, by kernel_rfl, rfl, rfl, rfl, rfl⟩, ⟨_, [(0, 1), (1, 1), (2, 1)], Tryz.underlying128, by kernel_rfl, by kernel_rfl⟩⟩
theorem ty129 : tyOk Tryz.prog 129 (⟨.st [(0, 9), (1, 9), (2, 45)], 3, 48, [.string ⟨#[]⟩, .string ⟨#[]⟩, .nilIface]⟩) := ⟨⟨Tryz.t129, _, by kernel_rfl, rfl, rfl, rfl, rfl⟩, ⟨_, [(0, 1), (1, 1), (2, 1)], Tryz.underlying129, by kernel_rfl, by kernel_rfl⟩⟩
theorem ty130 : tyOk Tryz.prog 130 (⟨.fn, 1, 8, [.nilFunc]⟩) := ⟨⟨Tryz.t130, _, by kernel_rfl, rfl, rfl, rfl, rfl⟩, ⟨_, _, _, Tryz.underlying130⟩⟩
theorem ty131 : tyOk Tryz.prog 131 (⟨.fn, 1, 8, [.nilFunc]⟩) := ⟨⟨Tryz.t131, _, by kernel_rfl, rfl, rfl, rfl, rfl⟩, ⟨_, _, _, Tryz.underlying131⟩⟩
theorem ty132 : tyOk Tryz.prog 132 (⟨.other, 0, 0, []⟩) := rfl
theorem ty133 : tyOk Tryz.prog 133 (⟨.fn, 1, 8, [.nilFunc]⟩) := ⟨⟨Tryz.t133, _, by kernel_rfl, rfl, rfl, rfl, rfl⟩, ⟨_, _, _, Tryz.underlying133⟩⟩
theorem ty134 : tyOk Tryz.prog 134 (⟨.fn, 1, 8, [.nilFunc]⟩) := ⟨⟨Tryz.t134, _, by kernel_rfl, rfl, rfl, rfl, rfl⟩, ⟨_, _, _, Tryz.underlying134⟩⟩
theorem ty135 : tyOk Tryz.prog 135 (⟨.ptr, 1, 8, [.pointer none]⟩) := ⟨⟨Tryz.t135, _, by kernel_rfl, rfl, rfl, rfl, rfl⟩, ⟨_, Tryz.underlying135⟩⟩
theorem ty136 : tyOk Tryz.prog 136 (⟨.st [(0, 9)], 1, 16, [.string ⟨#[]⟩]⟩) := ⟨⟨Tryz.t136, _, by kernel_rfl, rfl, rfl, rfl, rfl⟩, ⟨_, [(0, 1)], Tryz.underlying136, by kernel_rfl, by kernel_rfl⟩⟩
theorem ty137 : tyOk Tryz.prog 137 (⟨.st [(0, 9)], 1, 16, [.string ⟨#[]⟩]⟩) := ⟨⟨Tryz.t137, _, by kernel_rfl, rfl, rfl, rfl, rfl⟩, ⟨_, [(0, 1)], Tryz.underlying137, by kernel_rfl, by kernel_rfl⟩⟩
theorem ty138 : tyOk Tryz.prog 138 (⟨.arr 32 5, 32, 32, [.int .u8 0, .int .u8 0, .int .u8 0, .int .u8 0, .int .u8 0, .int .u8 0, .int .u8 0, .int .u8 0, .int .u8 0, .int .u8 0, .int .u8 0, .int .u8 0, .int .u8 0, .int .u8 0, .int .u8 0, .int .u8 0, .int .u8 0, .int .u8 0, .int .u8 0, .int .u8 0, .int .u8 0, .int .u8 0, .int .u8 0, .int .u8 0, .int .u8 0, .int .u8 0, .int .u8 0, .int .u8 0, .int .u8 0, .int .u8 0, .int .u8 0, .int .u8 0]⟩) := ⟨⟨Tryz.t138, _, by kernel_rfl, rfl, rfl, rfl, rfl⟩, Tryz.underlying138⟩
theorem ty139 : tyOk Tryz.prog 139 (⟨.arr 64 5, 64, 64, [.int .u8 0, .int .u8 0, .int .u8 0, .int .u8 0, .int .u8 0, .int .u8 0, .int .u8 0, .int .u8 0, .int .u8 0, .int .u8 0, .int .u8 0, .int .u8 0, .int .u8 0, .int .u8 0, .int .u8 0, .int .u8 0, .int .u8 0, .int .u8 0, .int .u8 0, .int .u8 0, .int .u8 0, .int .u8 0, .int .u8 0, .int .u8 0, .int .u8 0, .int .u8 0, .int .u8 0, .int .u8 0, .int .u8 0, .int .u8 0, .int .u8 0, .int .u8 0, .int .u8 0, .int .u8 0, .int .u8 0, .int .u8 0, .int .u8 0, .int .u8 0, .int .u8 0, .int .u8 0, .int .u8 0, .int .u8 0, .int .u8 0, .int .u8 0, .int .u8 0, .int .u8 0, .int .u8 0, .int .u8 0, .int .u8 0, .int .u8 0, .int .u8 0, .int .u8 0, .int .u8 0, .int .u8 0, .int .u8 0, .int .u8 0, .int .u8 0, .int .u8 0, .int .u8 0, .int .u8 0, .int .u8 0, .int .u8 0, .int .u8 0, .int .u8 0]⟩) := ⟨⟨Tryz.t139, _, by kernel_rfl, rfl, rfl, rfl, rfl⟩, Tryz.underlying139⟩
theorem ty140 : tyOk Tryz.prog 140 (⟨.arr 256 5, 256, 256, [.int .u8 0, .int .u8 0, .int .u8 0, .int .u8 0, .int .u8 0, .int .u8 0, .int .u8 0, .int .u8 0, .int .u8 0, .int .u8 0, .int .u8 0, .int .u8 0, .int .u8 0, .int .u8 0, .int .u8 0, .int .u8 0, .int .u8 0, .int .u8 0, .int .u8 0, .int .u8 0, .int .u8 0, .int .u8 0, .int .u8 0, .int .u8 0, .int .u8 0, .int .u8 0, .int .u8 0, .int .u8 0, .int .u8 0, .int .u8 0, .int .u8 0, .int .u8 0, .int .u8 0, .int .u8 0, .int .u8 0, .int .u8 0, .int .u8 0, .int .u8 0, .int .u8 0, .int .u8 0, .int .u8 0, .int .u8 0, .int .u8 0, .int .u8 0, .int .u8 0, .int .u8 0, .int .u8 0, .int .u8 0, .int .u8 0, .int .u8 0, .int .u8 0, .int .u8 0, .int .u8 0, .int .u8 0, .int .u8 0, .int .u8 0, .int .u8 0, .int .u8 0, .int .u8 0, .int .u8 0, .int .u8 0, .int .u8 0, .int .u8 0, .int .u8 0, .int .u8 0, .int .u8 0, .int .u8 0, .int .u8 0, .int .u8 0, .int .u8 0, .int .u8 0, .int .u8 0, .int .u8 0, .int .u8 0, .int .u8 0, .int .u8 0, .int .u8 0, .int .u8 0, .int .u8 0, .int .u8 0, .int .u8 0, .int .u8 0, .int .u8 0, .int .u8 0, .int .u8 0, .int .u8 0, .int .u8 0, .int .u8 0, .int .u8 0, .int .u8 0, .int .u8 0, .int .u8 0, .int .u8 0, .int .u8 0, .int .u8 0, .int .u8 0, .int .u8 0, .int .u8 0, .int .u8 0, .int .u8 0, .int .u8 0, .int .u8 0, .int .u8 0, .int .u8 0, .int .u8 0, .int .u8 0, .int .u8 0, .int .u8 0, .int .u8 0, .int .u8 0, .int .u8 0, .int .u8 0, .int .u8 0, .int .u8 0, .int .u8 0, .int .u8 0, .int .u8 0, .int .u8 0, .int .u8 0, .int .u8 0, .int .u8 0, .int .u8 0, .int .u8 0, .int .u8 0, .int .u8 0, .int .u8 0, .int .u8 0, .int .u8 0, .int .u8 0, .int .u8 0, .int .u8 0, .int .u8 0, .int .u8 0, .int .u8 0, .int .u8 0, .int .u8 0, .int .u8 0, .int .u8 0, .int .u8 0, .int .u8 0, .int .u8 0, .int .u8 0, .int .u8 0, .int .u8 0, .int .u8 0, .int .u8 0, .int .u8 0, .int .u8 0, .int .u8 0, .int .u8 0, .int .u8 0, .int .u8 0, .int .u8 0, .int .u8 0, .int .u8 0, .int .u8 0, .int .u8 0, .int .u8 0, .int .u8 0, .int .u8 0, .int .u8 0, .int .u8 0, .int .u8 0, .int .u8 0, .int .u8 0, .int .u8 0, .int .u8 0, .int .u8 0, .int .u8 0, .int .u8 0, .int .u8 0, .int .u8 0, .int .u8 0, .int .u8 0, .int .u8 0, .int .u8 0, .int .u8 0, .int .u8 0, .int .u8 0, .int .u8 0, .int .u8 0, .int .u8 0, .int .u8 0, .int .u8 0, .int .u8 0, .int .u8 0, .int .u8 0, .int .u8 0, .int .u8 0, .int .u8 0, .int .u8 0, .int .u8 0, .int .u8 0, .int .u8 0, .int .u8 0, .int .u8 0, .int .u8 0, .int .u8 0, .int .u8 0, .int .u8 0, .int .u8 0, .int .u8 0, .int .u8 0, .int .u8 0, .int .u8 0, .int .u8 0, .int .u8 0, .int .u8 0, .int .u8 0, .int .u8 0, .int .u8 0, .int .u8 0, .int .u8 0, .int .u8 0, .int .u8 0, .int .u8 0, .int .u8 0, .int .u8 0, .int .u8 0, .int .u8 0, .int .u8 0, .int .u8 0, .int .u8 0, .int .u8 0, .int .u8 0, .int .u8 0, .int .u8 0, .int .u8 0, .int .u8 0, .int .u8 0, .int .u8 0, .int .u8 0, .int .u8 0, .int .u8 0, .int .u8 0, .int .u8 0, .int .u8 0, .int .u8 0, .int .u8 0, .int .u8 0, .int .u8 0, .int .u8 0, .int .u8 0, .int .u8 0, .int .u8 0, .int .u8 0, .int .u8 0, .int .u8 0, .int .u8 0, .int .u8 0, .int .u8 0, .int .u8 0, .int .u8 0, .int .u8 0, .int .u8 0, .int .u8 0]⟩) := ⟨⟨Tryz.t140, _, by kernel_rfl, rfl, rfl, rfl, rfl⟩, Tryz.underlying140⟩
theorem ty141 : tyOk Tryz.prog 141 (⟨.st [(0, 5), (1, 5)], 2, 2, [.int .u8 0, .int .u8 0]⟩) := ⟨⟨Tryz.t141, _, by kernel_rfl, rfl, rfl, rfl, rfl⟩, ⟨_, [(0, 1), (1, 1)], Tryz.underlying141, by kernel_rfl, by kernel_rfl⟩⟩
theorem ty142 : tyOk Tryz.prog 142 (⟨.st [(0, 5), (1, 5)], 2, 2, [.int .u8 0, .int .u8 0]⟩) := ⟨⟨Tryz.t142, _, by kernel_rfl, rfl, rfl, rfl, rfl⟩, ⟨_, [(0, 1), (1, 1)], Tryz.underlying142, by kernel_rfl, by kernel_rfl⟩⟩
theorem ty143 : tyOk Tryz.prog 143 (⟨.arr 16 142, 32, 32, [.int .u8 0, .int .u8 0, .int .u8 0, .int .u8 0, .int .u8 0, .int .u8 0, .int .u8 0, .int .u8 0, .int .u8 0, .int .u8 0, .int .u8 0, .int .u8 0, .int .u8 0, .int .u8 0, .int .u8 0, .int .u8 0, .int .u8 0, .int .u8 0, .int .u8 0, .int .u8 0, .int .u8 0, .int .u8 0, .int .u8 0, .int .u8 0, .int .u8 0, .int .u8 0, .int .u8 0, .int .u8 0, .int .u8 0, .int .u8 0, .int .u8 0, .int .u8 0]⟩) := ⟨⟨Tryz.t143, _, by kernel_rfl, rfl, rfl, rfl, rfl⟩, Tryz.underlying143⟩
theorem ty144 : tyOk Tryz.prog 144 (⟨.fn, 1, 8, [.nilFunc]⟩) := ⟨⟨Tryz.t144, _, by kernel_rfl, rfl, rfl, rfl, rfl⟩, ⟨_, _, _, Tryz.underlying144⟩⟩
theorem ty145 : tyOk Tryz.prog 145 (⟨.fn, 1, 8, [.nilFunc]⟩) := ⟨⟨Tryz.t145, _, by kernel_rfl, rfl, rfl, rfl, rfl⟩, ⟨_, _, _, Tryz.underlying145⟩⟩
theorem ty146 : tyOk Tryz.prog 146 (⟨.st [(0, 17), (1, 17), (2, 17), (3, 9)], 4, 40, [.pointer none, .pointer none, .pointer none, .string ⟨#[]⟩]⟩) := ⟨⟨Tryz.t146, _, by kernel_rfl, rfl, rfl, rfl, rfl⟩, ⟨_, [(0, 1), (1, 1), (2, 1), (3, 1)], Tryz.underlying146, by kernel_rfl, by kernel_rfl⟩⟩
theorem ty147 : tyOk Tryz.prog 147 (⟨.st [(0, 17), (1, 17), (2, 17), (3, 9)], 4, 40, [.pointer none, .pointer none, .pointer none, .string ⟨#[]⟩]⟩) := ⟨⟨Tryz.t147, _, by kernel_rfl, rfl, rfl, rfl, rfl⟩, ⟨_, [(0, 1), (1, 1), (2, 1), (3, 1)], Tryz.underlying147, by kernel_rfl, by kernel_rfl⟩⟩
theorem ty148 : tyOk Tryz.prog 148 (⟨.arr 0 16, 0, 0, []⟩) := ⟨⟨Tryz.t148, _, by kernel_rfl, rfl, rfl, rfl, rfl⟩, Tryz.underlying148⟩
theorem ty149 : tyOk Tryz.prog 149 (⟨.st [(0, 148)], 0, 0, []⟩) := ⟨⟨Tryz.t149, _, by kernel_rfl, rfl, rfl, rfl, rfl⟩, ⟨_, [(0, 0)], Tryz.underlying149, by kernel_rfl, by kernel_rfl⟩⟩
theorem ty150 : tyOk Tryz.prog 150 (⟨.st [(0, 148)], 0, 0, []⟩) := ⟨⟨Tryz.t150, _, by kernel_rfl, rfl, rfl, rfl, rfl⟩, ⟨_, [(0, 0)], Tryz.underlying150, by kernel_rfl, by kernel_rfl⟩⟩
theorem ty151 : tyOk Tryz.prog 151 (⟨.fn, 1, 8, [.nilFunc]⟩) := ⟨⟨Tryz.t151, _, by kernel_rfl, rfl, rfl, rfl, rfl⟩, ⟨_, _, _, Tryz.underlying151⟩⟩
theorem ty152 : tyOk Tryz.prog 152 (⟨.int .u8, 1, 1, [.int .u8 0]⟩) := ⟨⟨Tryz.t152, _, by kernel_rfl, rfl, rfl, rfl, rfl⟩, Tryz.underlying152⟩
theorem ty153 : tyOk Tryz.prog 153 (⟨.int .u8, 1, 1, [.int .u8 0]⟩) := ⟨⟨Tryz.t153, _, by kernel_rfl, rfl, rfl, rfl, rfl⟩, Tryz.underlying153⟩
theorem ty154 : tyOk Tryz.prog 154 (⟨.fn, 1, 8, [.nilFunc]⟩) := ⟨⟨Tryz.t154, _, by kernel_rfl, rfl, rfl, rfl, rfl⟩, ⟨_, _, _, Tryz.underlying154⟩⟩
theorem ty155 : tyOk Tryz.prog 155 (⟨.int .i32, 1, 4, [.int .i32 0]⟩) := ⟨⟨Tryz.t155, _, by kernel_rfl, rfl, rfl, rfl, rfl⟩, Tryz.underlying155⟩
theorem ty156 : tyOk Tryz.prog 156 (⟨.int .i32, 1, 4, [.int .i32 0]⟩) := ⟨⟨Tryz.t156, _, by kernel_rfl, rfl, rfl, rfl, rfl⟩, Tryz.underlying156⟩
theorem ty157 : tyOk Tryz.prog 157 (⟨.st [(0, 12), (1, 12), (2, 77), (3, 152), (4, 5), (5, 5), (6, 153), (7, 154), (8, 76), (9, 155), (10, 156)], 11, 48, [.int .u64 0, .int .u64 0, .int .u32 0, .int .u8 0, .int .u8 0, .int .u8 0, .int .u8 0, .nilFunc, .pointer none, .int .i32 0, .int .i32 0]⟩) := ⟨⟨Tryz.t157, _, by kernel_rfl, rfl, rfl, rfl, rfl⟩, ⟨_, [(0, 1), (1, 1), (2, 1), (3, 1), (4, 1), (5, 1), (6, 1), (7, 1), (8, 1), (9, 1), (10, 1)], Tryz.underlying157, by kernel_rfl, by kernel_rfl⟩⟩
theorem ty158 : tyOk Tryz.prog 158 (⟨.st [(0, 12), (1, 12), (2, 77), (3, 152), (4, 5), (5, 5), (6, 153), (7, 154), (8, 76), (9, 155), (10, 156)], 11, 48, [.int .u64 0, .int .u64 0, .int .u32 0, .int .u8 0, .int .u8 0, .int .u8 0, .int .u8 0, .nilFunc, .pointer none, .int .i32 0, .int .i32 0]⟩) := ⟨⟨Tryz.t158, _, by kernel_rfl, rfl, rfl, rfl, rfl⟩, ⟨_, [(0, 1), (1, 1), (2, 1), (3, 1), (4, 1), (5, 1), (6, 1), (7, 1), (8, 1), (9, 1), (10, 1)], Tryz.underlying158, by kernel_rfl, by kernel_rfl⟩⟩
theorem ttok : TTok Tryz.prog tt := fun t => match t with
  | 0 => ty0
  | 1 => ty1
  | 2 => ty2
  | 3 => ty3
  | 4 => ty4
  | 5 => ty5
  | 6 => ty6
  | 7 => ty7
  | 8 => ty8
  | 9 => ty9
  | 10 => ty10
  | 11 => ty11
  | 12 => ty12
  | 13 => ty13
  | 14 => ty14
  | 15 => ty15
  | 16 => ty16
  | 17 => ty17
  | 18 => ty18
  | 19 => ty19
  | 20 => ty20
  | 21 => ty21
  | 22 => ty22
  | 23 => ty23
  | 24 => ty24
  | 25 => ty25
  | 26 => ty26
  | 27 => ty27
  | 28 => ty28
  | 29 => ty29
  | 30 => ty30
  | 31 => ty31
  | 32 => ty32
  | 33 => ty33
  | 34 => ty34
  | 35 => ty35
  | 36 => ty36
  | 37 => ty37
  | 38 => ty38
  | 39 => ty39
  | 40 => ty40
  | 41 => ty41
  | 42 => ty42
  | 43 => ty43
  | 44 => ty44
  | 45 => ty45
  | 46 => ty46
  | 47 => ty47
  | 48 => ty48
  | 49 => ty49
  | 50 => ty50
  | 51 => ty51
  | 52 => ty52
  | 53 => ty53
  | 54 => ty54
  | 55 => ty55
  | 56 => ty56
  | 57 => ty57
  | 58 => ty58
  | 59 => ty59
  | 60 => ty60
  | 61 => ty61
  | 62 => ty62
  | 63 => ty63
  | 64 => ty64
  | 65 => ty65
  | 66 => ty66
  | 67 => ty67
  | 68 => ty68
  | 69 => ty69
  | 70 => ty70
  | 71 => ty71
  | 72 => ty72
  | 73 => ty73
  | 74 => ty74
  | 75 => ty75
  | 76 => ty76
  | 77 => ty77
  | 78 => ty78
  | 79 => ty79
  | 80 => ty80
  | 81 => ty81
  | 82 => ty82
  | 83 => ty83
  | 84 => ty84
  | 85 => ty85
  | 86 => ty86
  | 87 => ty87
  | 88 => ty88
  | 89 => ty89
  | 90 => ty90
  | 91 => ty91
  | 92 => ty92
  | 93 => ty93
  | 94 => ty94
  | 95 => ty95
  | 96 => ty96
  | 97 => ty97
  | 98 => ty98
  | 99 => ty99
  | 100 => ty100
  | 101 => ty101
  | 102 => ty102
  | 103 => ty103
  | 104 => ty104
  | 105 => ty105
  | 106 => ty106
  | 107 => ty107
  | 108 => ty108
  | 109 => ty109
  | 110 => ty110
  | 111 => ty111
  | 112 => ty112
  | 113 => ty113
  | 114 => ty114
  | 115 => ty115
  | 116 => ty116
  | 117 => ty117
  | 118 => ty118
  | 119 => ty119
  | 120 => ty120
  | 121 => ty121
  | 122 => ty122
  | 123 => ty123
  | 124 => ty124
  | 125 => ty125
  | 126 => ty126
  | 127 => ty127
  | 128 => ty128
  | 129 => ty129
  | 130 => ty130
  | 131 => ty131
  | 132 => ty132
  | 133 => ty133
  | 134 => ty134
  | 135 => ty135
  | 136 => ty136
  | 137 => ty137
  | 138 => ty138
  | 139 => ty139
  | 140 => ty140
  | 141 => ty141
  | 142 => ty142
  | 143 => ty143
  | 144 => ty144
  | 145 => ty145
  | 146 => ty146
  | 147 => ty147
  | 148 => ty148
  | 149 => ty149
  | 150 => ty150
  | 151 => ty151
  | 152 => ty152
  | 153 => ty153
  | 154 => ty154
  | 155 => ty155
  | 156 => ty156
  | 157 => ty157
  | 158 => ty158
  | _ + 159 => rfl

noncomputable def cf : Cfg := { P := Tryz.prog, tt := tt, fns := [3, 4, 5, 6, 7, 8, 9, 10, 11, 12, 13, 14, 15, 16, 17, 18, 19, 20, 21, 22, 23, 24, 25, 26, 27, 28, 29, 30, 31, 32, 33, 34, 35, 36, 37, 38, 39, 40, 41, 42, 43, 44, 45, 46, 47, 48, 49, 50, 51, 52, 53, 54, 55, 56, 57, 58, 59, 60, 62, 63, 64, 65, 66, 67, 68, 69, 70, 71, 72, 73, 74, 75, 76, 77, 78, 79, 80, 81, 82, 83, 84, 85, 86, 87, 88, 89, 90, 91, 93, 94, 95, 96, 97, 98, 99, 100, 101, 102, 103, 105, 106, 107, 108, 109, 110, 111, 112, 143] }

theorem cfok : CfgOk cf where
  mix := by kernel_rfl
  tt := ttok
  fns := List.forall_mem_cons.2 ⟨Tryz.call3, List.forall_mem_cons.2 ⟨Tryz.call4, List.forall_mem_cons.2 ⟨Tryz.call5, List.forall_mem_cons.2 ⟨Tryz.call6, List.forall_mem_cons.2 ⟨Tryz.call7, List.forall_mem_cons.2 ⟨Tryz.call8, List.forall_mem_cons.2 ⟨Tryz.call9, List.forall_mem_cons.2 ⟨Tryz.call10, List.forall_mem_cons.2 ⟨Tryz.call11, List.forall_mem_cons.2 ⟨Tryz.call12, List.forall_mem_cons.2 ⟨Tryz.call13, List.forall_mem_cons.2 ⟨Tryz.call14, List.forall_mem_cons.2 ⟨Tryz.call15, List.forall_mem_cons.2 ⟨Tryz.call16, List.forall_mem_cons.2 ⟨Tryz.call17, List.forall_mem_cons.2 ⟨Tryz.call18, List.forall_mem_cons.2 ⟨Tryz.call19, List.forall_mem_cons.2 ⟨Tryz.call20, List.forall_mem_cons.2 ⟨Tryz.call21, List.forall_mem_cons.2 ⟨Tryz.call22, List.forall_mem_cons.2 ⟨Tryz.call23, List.forall_mem_cons.2 ⟨Tryz.call24, List.forall_mem_cons.2 ⟨Tryz.call25, List.forall_mem_cons.2 ⟨Tryz.call26, List.forall_mem_cons.2 ⟨Tryz.call27, List.forall_mem_cons.2 ⟨Tryz.call28, List.forall_mem_cons.2 ⟨Tryz.call29, List.forall_mem_cons.2 ⟨Tryz.call30, List.forall_mem_cons.2 ⟨Tryz.call31, List.forall_mem_cons.2 ⟨Tryz.call32, List.forall_mem_cons.2 ⟨Tryz.call33, List.forall_mem_cons.2 ⟨Tryz.call34, List.forall_mem_cons.2 ⟨Tryz.call35, List.forall_mem_cons.2 ⟨Tryz.call36, List.forall_mem_cons.2 ⟨Tryz.call37, List.forall_mem_cons.2 ⟨Tryz.call38, List.forall_mem_cons.2 ⟨Tryz.call39, List.forall_mem_cons.2 ⟨Tryz.call40, List.forall_mem_cons.2 ⟨Tryz.call41, List.forall_mem_cons.2 ⟨Tryz.call42, List.forall_mem_cons.2 ⟨Tryz.call43, List.forall_mem_cons.2 ⟨Tryz.call44, List.forall_mem_cons.2 ⟨Tryz.call45, List.forall_mem_cons.2 ⟨Tryz.call46, List.forall_mem_cons.2 ⟨Tryz.call47, List.forall_mem_cons.2 ⟨Tryz.call48, List.forall_mem_cons.2 ⟨Tryz.call49, List.forall_mem_cons.2 ⟨Tryz.call50, List.forall_mem_cons.2 ⟨Tryz.call51, List.forall_mem_cons.2 ⟨Tryz.call52, List.forall_mem_cons.2 ⟨Tryz.call53, List.forall_mem_cons.2 ⟨Tryz.call54, List.forall_mem_cons.2 ⟨Tryz.call55, List.forall_mem_cons.2 ⟨Tryz.call56, List.forall_mem_cons.2 ⟨Tryz.call57, List.forall_mem_cons.2 ⟨Tryz.call58, List.forall_mem_cons.2 ⟨Tryz.call59, List.forall_mem_cons.2 ⟨Tryz.call60, List.forall_mem_cons.2 ⟨Tryz.call62, List.forall_mem_cons.2 ⟨Tryz.call63, List.forall_mem_cons.2 ⟨Tryz.call64, List.forall_mem_cons.2 ⟨Tryz.call65, List.forall_mem_cons.2 ⟨Tryz.call66, List.forall_mem_cons.2 ⟨Tryz.call67, List.forall_mem_cons.2 ⟨Tryz.call68, List.forall_mem_cons.2 ⟨Tryz.call69, List.forall_mem_cons.2 ⟨Tryz.call70, List.forall_mem_cons.2 ⟨Tryz.call71, List.forall_mem_cons.2 ⟨Tryz.call72, List.forall_mem_cons.2 ⟨Tryz.call73, List.forall_mem_cons.2 ⟨Tryz.call74, List.forall_mem_cons.2 ⟨Tryz.call75, List.forall_mem_cons.2 ⟨Tryz.call76, List.forall_mem_cons.2 ⟨Tryz.call77, List.forall_mem_cons.2 ⟨Tryz.call78, List.forall_mem_cons.2 ⟨Tryz.call79, List.forall_mem_cons.2 ⟨Tryz.call80, List.forall_mem_cons.2 ⟨Tryz.call81, List.forall_mem_cons.2 ⟨Tryz.call82, List.forall_mem_cons.2 ⟨Tryz.call83, List.forall_mem_cons.2 ⟨Tryz.call84, List.forall_mem_cons.2 ⟨Tryz.call85, List.forall_mem_cons.2 ⟨Tryz.call86, List.forall_mem_cons.2 ⟨Tryz.call87, List.forall_mem_cons.2 ⟨Tryz.call88, List.forall_mem_cons.2 ⟨Tryz.call89, List.forall_mem_cons.2 ⟨Tryz.call90, List.forall_mem_cons.2 ⟨Tryz.call91, List.forall_mem_cons.2 ⟨Tryz.call93, List.forall_mem_cons.2 ⟨Tryz.call94, List.forall_mem_cons.2 ⟨Tryz.call95, List.forall_mem_cons.2 ⟨Tryz.call96, List.forall_mem_cons.2 ⟨Tryz.call97, List.forall_mem_cons.2 ⟨Tryz.call98, List.forall_mem_cons.2 ⟨Tryz.call99, List.forall_mem_cons.2 ⟨Tryz.call100, List.forall_mem_cons.2 ⟨Tryz.call101, List.forall_mem_cons.2 ⟨Tryz.call102, List.forall_mem_cons.2 ⟨Tryz.call103, List.forall_mem_cons.2 ⟨Tryz.call105, List.forall_mem_cons.2 ⟨Tryz.call106, List.forall_mem_cons.2 ⟨Tryz.call107, List.forall_mem_cons.2 ⟨Tryz.call108, List.forall_mem_cons.2 ⟨Tryz.call109, List.forall_mem_cons.2 ⟨Tryz.call110, List.forall_mem_cons.2 ⟨Tryz.call111, List.forall_mem_cons.2 ⟨Tryz.call112, List.forall_mem_cons.2 ⟨Tryz.call143, List.forall_mem_nil _⟩⟩⟩⟩⟩⟩⟩⟩⟩⟩⟩⟩⟩⟩⟩⟩⟩⟩⟩⟩⟩⟩⟩⟩⟩⟩⟩⟩⟩⟩⟩⟩⟩⟩⟩⟩⟩⟩⟩⟩⟩⟩⟩⟩⟩⟩⟩⟩⟩⟩⟩⟩⟩⟩⟩⟩⟩⟩⟩⟩⟩⟩⟩⟩⟩⟩⟩⟩⟩⟩⟩⟩⟩⟩⟩⟩⟩⟩⟩⟩⟩⟩⟩⟩⟩⟩⟩⟩⟩⟩⟩⟩⟩⟩⟩⟩⟩⟩⟩⟩⟩⟩⟩⟩⟩⟩⟩⟩

/-
  0: main.main
  1: gosem.cut
  2: gosem.cut.init
  3: calamus/calamuslaw01.FixedKnown
  4: calamus/fixed.Round
  5: calamus/fixed.MulDiv
  6: calamus/fixed.Print
  7: calamus/calamuslaw01.FixedReads
  8: calamus/fixed.Read
  9: calamus/calamuslaw01.FixedQuotients
  10: calamus/calamuslaw01.FixedSums
  11: calamus/calamuslaw01.FixedScales
  12: calamus/calamuslaw01.FixedPrints
  13: calamus/calamuslaw01.FixedNear
  14: calamus/calamuslaw01.works
  15: calamus/fixed.quotient
  16: calamus/fixed.Round$1
  17: calamus/fixed.MulDiv$1
  18: (*strings.Builder).WriteByte
  19: calamus/fixed.size
  20: (*strings.Builder).WriteString
  21: strconv.FormatUint
  22: (*strings.Builder).String
  23: calamus/calamusref01.Read
  24: calamus/calamusref01.Right
  25: strings.CutPrefix
  26: strings.Cut
  27: calamus/fixed.digits
  28: calamus/fixed.caught
  29: strconv.ParseUint
  30: calamus/fixed.Read$1
  31: calamus/fixed.signed
  32: calamus/calamusref01.MulDiv
  33: calamus/calamusref01.Round
  34: calamus/fixed.Add
  35: calamus/calamusref01.Add
  36: calamus/fixed.Sub
  37: calamus/calamusref01.Sub
  38: calamus/fixed.Ratio
  39: calamus/fixed.Scale
  40: calamus/calamusref01.Print
  41: math/bits.Mul64
  42: (calamus/fixed.long).divide
  43: (*strings.Builder).copyCheck
  44: internal/strconv.FormatUint
  45: calamus/calamusref01.plus
  46: calamus/calamusref01.times
  47: calamus/calamusref01.divide
  48: calamus/calamusref01.less
  49: calamus/calamusref01.double
  50: calamus/calamusref01.plusOne
  51: calamus/calamusref01.number
  52: internal/stringslite.CutPrefix
  53: internal/stringslite.Cut
  54: strings.Trim
  55: internal/strconv.ParseUint
  56: strconv.toError
  57: calamus/calamusref01.quotient
  58: calamus/calamusref01.size
  59: calamus/calamusref01.digits
  60: math/bits.Div64
  61: internal/abi.NoEscape
  62: internal/strconv.small
  63: internal/strconv.numDigits
  64: internal/strconv.formatBase10
  65: internal/strconv.formatBits
  66: calamus/calamusref01.trim
  67: calamus/calamusref01.minus
  68: internal/stringslite.HasPrefix
  69: internal/stringslite.Index
  70: strings.trimLeftByte
  71: strings.trimRightByte
  72: strings.makeASCIISet
  73: strings.trimLeftASCII
  74: strings.trimRightASCII
  75: strings.trimLeftUnicode
  76: strings.trimRightUnicode
  77: internal/strconv.lower
  78: internal/strconv.underscoreOK
  79: strconv.syntaxError
  80: strconv.rangeError
  81: strconv.baseError
  82: strconv.bitSizeError
  83: calamus/calamusref01.of
  84: calamus/calamusref01.zero
  85: math/bits.LeadingZeros64
  86: internal/strconv.log10Pow2
  87: math/bits.Len64
  88: internal/strconv.bool2[int]
  89: internal/strconv.isPowerOfTwo
  90: math/bits.TrailingZeros
  91: internal/stringslite.IndexByte
  92: internal/bytealg.IndexString
  93: internal/bytealg.Cutover
  94: internal/bytealg.IndexRabinKarp[string]
  95: (*strings.asciiSet).contains
  96: unicode/utf8.DecodeRuneInString
  97: strings.ContainsRune
  98: unicode/utf8.DecodeLastRuneInString
  99: internal/stringslite.Clone
  100: errors.New
  101: strconv.Itoa
  102: math/bits.TrailingZeros32
  103: math/bits.TrailingZeros64
  104: internal/bytealg.IndexByteString
  105: internal/bytealg.hashStr[string]
  106: unicode/utf8.decodeRuneInStringSlow
  107: strings.IndexRune
  108: unicode/utf8.RuneStart
  109: internal/strconv.Itoa
  110: strings.IndexByte
  111: unicode/utf8.ValidRune
  112: internal/strconv.FormatInt
  113: (runtime.boundsError).Error
  114: (runtime.boundsError).RuntimeError
  115: (runtime.errorString).Error
  116: (runtime.errorString).RuntimeError
  117: (runtime.plainError).Error
  118: (runtime.plainError).RuntimeError
  119: (runtime.errorAddressString).Error
  120: (runtime.errorAddressString).RuntimeError
  121: (*runtime.TypeAssertionError).Error
  122: (*runtime.TypeAssertionError).RuntimeError
  123: (*runtime.PanicNilError).Error
  124: (*runtime.PanicNilError).RuntimeError
  125: (*internal/abi.Type).Align
  126: (internal/runtime/maps.unhashableTypeError).Error
  127: (internal/runtime/maps.unhashableTypeError).RuntimeError
  128: (calamus/api.Errno).Error
  129: (*strings.Builder).Reset
  130: (internal/strconv.Error).Error
  131: (*strconv.NumError).Error
  132: (*errors.errorString).Error
  133: (internal/abi.Kind).String
  143: gosem.cut.vars
-/
end Go.Proofs.YtfjkajlkehjnnaaGreatDoor
