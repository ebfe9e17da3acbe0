import Derived.Test.YtfjkajlkehjnnaaDoorEng
import Derived.Test.YtfjkajlkehjnnaaDoorProg
namespace Go.Proofs.YtfjkajlkehjnnaaDoor
open Go Go.Eng

def tt : TT := [
  ⟨.other, 0, 0, []⟩,
  ⟨.fn, 1, 8, [.nilFunc]⟩,
  ⟨.int .i64, 1, 8, [.int .i64 0]⟩,
  ⟨.int .i64, 1, 8, [.int .i64 0]⟩,
  ⟨.bool, 1, 1, [.bool false]⟩,
  ⟨.int .u8, 1, 1, [.int .u8 0]⟩,
  ⟨.int .u8, 1, 1, [.int .u8 0]⟩,
  ⟨.st [(0, 2), (1, 3), (2, 4), (3, 6)], 4, 24, [.int .i64 0, .int .i64 0, .bool false, .int .u8 0]⟩,
  ⟨.st [(0, 2), (1, 3), (2, 4), (3, 6)], 4, 24, [.int .i64 0, .int .i64 0, .bool false, .int .u8 0]⟩,
  ⟨.str, 1, 16, [.string ⟨#[]⟩]⟩,
  ⟨.str, 1, 16, [.string ⟨#[]⟩]⟩,
  ⟨.str, 1, 16, [.string ⟨#[]⟩]⟩,
  ⟨.int .u64, 1, 8, [.int .u64 0]⟩,
  ⟨.st [(0, 9), (1, 12)], 2, 24, [.string ⟨#[]⟩, .int .u64 0]⟩,
  ⟨.st [(0, 9), (1, 12)], 2, 24, [.string ⟨#[]⟩, .int .u64 0]⟩,
  ⟨.ptr, 1, 8, [.pointer none]⟩,
  ⟨.ptr, 1, 8, [.pointer none]⟩,
  ⟨.ptr, 1, 8, [.pointer none]⟩,
  ⟨.st [(0, 17)], 1, 8, [.pointer none]⟩,
  ⟨.st [(0, 17)], 1, 8, [.pointer none]⟩,
  ⟨.other, 0, 0, []⟩,
  ⟨.int .i32, 1, 4, [.int .i32 0]⟩,
  ⟨.fn, 1, 8, [.nilFunc]⟩,
  ⟨.int .i64, 1, 8, [.int .i64 0]⟩,
  ⟨.other, 0, 0, []⟩,
  ⟨.fn, 1, 8, [.nilFunc]⟩,
  ⟨.fn, 1, 8, [.nilFunc]⟩,
  ⟨.fn, 1, 8, [.nilFunc]⟩,
  ⟨.sl 3, 1, 24, [.slice none 0 0]⟩,
  ⟨.other, 0, 0, []⟩,
  ⟨.fn, 1, 8, [.nilFunc]⟩,
  ⟨.fn, 1, 8, [.nilFunc]⟩,
  ⟨.fn, 1, 8, [.nilFunc]⟩,
  ⟨.fn, 1, 8, [.nilFunc]⟩,
  ⟨.fn, 1, 8, [.nilFunc]⟩,
  ⟨.int .u16, 1, 2, [.int .u16 0]⟩,
  ⟨.fn, 1, 8, [.nilFunc]⟩,
  ⟨.fn, 1, 8, [.nilFunc]⟩,
  ⟨.fn, 1, 8, [.nilFunc]⟩,
  ⟨.fn, 1, 8, [.nilFunc]⟩,
  ⟨.ptr, 1, 8, [.pointer none]⟩,
  ⟨.sl 5, 1, 24, [.slice none 0 0]⟩,
  ⟨.st [(0, 40), (1, 41)], 2, 32, [.pointer none, .slice none 0 0]⟩,
  ⟨.st [(0, 40), (1, 41)], 2, 32, [.pointer none, .slice none 0 0]⟩,
  ⟨.other, 0, 0, []⟩,
  ⟨.other, 0, 0, []⟩,
  ⟨.fn, 1, 8, [.nilFunc]⟩,
  ⟨.int .u64, 1, 8, [.int .u64 0]⟩,
  ⟨.fn, 1, 8, [.nilFunc]⟩,
  ⟨.other, 0, 0, []⟩,
  ⟨.fn, 1, 8, [.nilFunc]⟩,
  ⟨.fn, 1, 8, [.nilFunc]⟩,
  ⟨.fn, 1, 8, [.nilFunc]⟩,
  ⟨.other, 0, 0, []⟩,
  ⟨.fn, 1, 8, [.nilFunc]⟩,
  ⟨.other, 0, 0, []⟩,
  ⟨.fn, 1, 8, [.nilFunc]⟩,
  ⟨.fn, 1, 8, [.nilFunc]⟩,
  ⟨.fn, 1, 8, [.nilFunc]⟩,
  ⟨.ptr, 1, 8, [.pointer none]⟩,
  ⟨.ptr, 1, 8, [.pointer none]⟩,
  ⟨.other, 0, 0, []⟩,
  ⟨.fn, 1, 8, [.nilFunc]⟩,
  ⟨.arr 40 5, 40, 40, [.int .u8 0, .int .u8 0, .int .u8 0, .int .u8 0, .int .u8 0, .int .u8 0, .int .u8 0, .int .u8 0, .int .u8 0, .int .u8 0, .int .u8 0, .int .u8 0, .int .u8 0, .int .u8 0, .int .u8 0, .int .u8 0, .int .u8 0, .int .u8 0, .int .u8 0, .int .u8 0, .int .u8 0, .int .u8 0, .int .u8 0, .int .u8 0, .int .u8 0, .int .u8 0, .int .u8 0, .int .u8 0, .int .u8 0, .int .u8 0, .int .u8 0, .int .u8 0, .int .u8 0, .int .u8 0, .int .u8 0, .int .u8 0, .int .u8 0, .int .u8 0, .int .u8 0, .int .u8 0]⟩,
  ⟨.fn, 1, 8, [.nilFunc]⟩,
  ⟨.int .u64, 1, 8, [.int .u64 0]⟩,
  ⟨.fn, 1, 8, [.nilFunc]⟩,
  ⟨.fn, 1, 8, [.nilFunc]⟩,
  ⟨.int .u32, 1, 4, [.int .u32 0]⟩,
  ⟨.sl 68, 1, 24, [.slice none 0 0]⟩,
  ⟨.sl 68, 1, 24, [.slice none 0 0]⟩,
  ⟨.fn, 1, 8, [.nilFunc]⟩,
  ⟨.fn, 1, 8, [.nilFunc]⟩,
  ⟨.other, 0, 0, []⟩,
  ⟨.fn, 1, 8, [.nilFunc]⟩,
  ⟨.fn, 1, 8, [.nilFunc]⟩,
  ⟨.fn, 1, 8, [.nilFunc]⟩,
  ⟨.fn, 1, 8, [.nilFunc]⟩,
  ⟨.fn, 1, 8, [.nilFunc]⟩,
  ⟨.fn, 1, 8, [.nilFunc]⟩,
  ⟨.fn, 1, 8, [.nilFunc]⟩,
  ⟨.ptr, 1, 8, [.pointer none]⟩,
  ⟨.fn, 1, 8, [.nilFunc]⟩,
  ⟨.fn, 1, 8, [.nilFunc]⟩,
  ⟨.arr 2 47, 2, 16, [.int .u64 0, .int .u64 0]⟩,
  ⟨.arr 2 47, 2, 16, [.int .u64 0, .int .u64 0]⟩,
  ⟨.other, 0, 0, []⟩,
  ⟨.fn, 1, 8, [.nilFunc]⟩,
  ⟨.fn, 1, 8, [.nilFunc]⟩,
  ⟨.fn, 1, 8, [.nilFunc]⟩,
  ⟨.fn, 1, 8, [.nilFunc]⟩,
  ⟨.other, 0, 0, []⟩,
  ⟨.fn, 1, 8, [.nilFunc]⟩,
  ⟨.fn, 1, 8, [.nilFunc]⟩,
  ⟨.arr 24 5, 24, 24, [.int .u8 0, .int .u8 0, .int .u8 0, .int .u8 0, .int .u8 0, .int .u8 0, .int .u8 0, .int .u8 0, .int .u8 0, .int .u8 0, .int .u8 0, .int .u8 0, .int .u8 0, .int .u8 0, .int .u8 0, .int .u8 0, .int .u8 0, .int .u8 0, .int .u8 0, .int .u8 0, .int .u8 0, .int .u8 0, .int .u8 0, .int .u8 0]⟩,
  ⟨.fn, 1, 8, [.nilFunc]⟩,
  ⟨.fn, 1, 8, [.nilFunc]⟩,
  ⟨.other, 0, 0, []⟩,
  ⟨.fn, 1, 8, [.nilFunc]⟩,
  ⟨.fn, 1, 8, [.nilFunc]⟩,
  ⟨.fn, 1, 8, [.nilFunc]⟩,
  ⟨.fn, 1, 8, [.nilFunc]⟩,
  ⟨.arr 256 4, 256, 256, [.bool false, .bool false, .bool false, .bool false, .bool false, .bool false, .bool false, .bool false, .bool false, .bool false, .bool false, .bool false, .bool false, .bool false, .bool false, .bool false, .bool false, .bool false, .bool false, .bool false, .bool false, .bool false, .bool false, .bool false, .bool false, .bool false, .bool false, .bool false, .bool false, .bool false, .bool false, .bool false, .bool false, .bool false, .bool false, .bool false, .bool false, .bool false, .bool false, .bool false, .bool false, .bool false, .bool false, .bool false, .bool false, .bool false, .bool false, .bool false, .bool false, .bool false, .bool false, .bool false, .bool false, .bool false, .bool false, .bool false, .bool false, .bool false, .bool false, .bool false, .bool false, .bool false, .bool false, .bool false, .bool false, .bool false, .bool false, .bool false, .bool false, .bool false, .bool false, .bool false, .bool false, .bool false, .bool false, .bool false, .bool false, .bool false, .bool false, .bool false, .bool false, .bool false, .bool false, .bool false, .bool false, .bool false, .bool false, .bool false, .bool false, .bool false, .bool false, .bool false, .bool false, .bool false, .bool false, .bool false, .bool false, .bool false, .bool false, .bool false, .bool false, .bool false, .bool false, .bool false, .bool false, .bool false, .bool false, .bool false, .bool false, .bool false, .bool false, .bool false, .bool false, .bool false, .bool false, .bool false, .bool false, .bool false, .bool false, .bool false, .bool false, .bool false, .bool false, .bool false, .bool false, .bool false, .bool false, .bool false, .bool false, .bool false, .bool false, .bool false, .bool false, .bool false, .bool false, .bool false, .bool false, .bool false, .bool false, .bool false, .bool false, .bool false, .bool false, .bool false, .bool false, .bool false, .bool false, .bool false, .bool false, .bool false, .bool false, .bool false, .bool false, .bool false, .bool false, .bool false, .bool false, .bool false, .bool false, .bool false, .bool false, .bool false, .bool false, .bool false, .bool false, .bool false, .bool false, .bool false, .bool false, .bool false, .bool false, .bool false, .bool false, .bool false, .bool false, .bool false, .bool false, .bool false, .bool false, .bool false, .bool false, .bool false, .bool false, .bool false, .bool false, .bool false, .bool false, .bool false, .bool false, .bool false, .bool false, .bool false, .bool false, .bool false, .bool false, .bool false, .bool false, .bool false, .bool false, .bool false, .bool false, .bool false, .bool false, .bool false, .bool false, .bool false, .bool false, .bool false, .bool false, .bool false, .bool false, .bool false, .bool false, .bool false, .bool false, .bool false, .bool false, .bool false, .bool false, .bool false, .bool false, .bool false, .bool false, .bool false, .bool false, .bool false, .bool false, .bool false, .bool false, .bool false, .bool false, .bool false, .bool false, .bool false, .bool false, .bool false, .bool false, .bool false, .bool false, .bool false, .bool false, .bool false, .bool false, .bool false, .bool false, .bool false, .bool false, .bool false, .bool false, .bool false, .bool false, .bool false, .bool false, .bool false, .bool false, .bool false]⟩,
  ⟨.arr 256 4, 256, 256, [.bool false, .bool false, .bool false, .bool false, .bool false, .bool false, .bool false, .bool false, .bool false, .bool false, .bool false, .bool false, .bool false, .bool false, .bool false, .bool false, .bool false, .bool false, .bool false, .bool false, .bool false, .bool false, .bool false, .bool false, .bool false, .bool false, .bool false, .bool false, .bool false, .bool false, .bool false, .bool false, .bool false, .bool false, .bool false, .bool false, .bool false, .bool false, .bool false, .bool false, .bool false, .bool false, .bool false, .bool false, .bool false, .bool false, .bool false, .bool false, .bool false, .bool false, .bool false, .bool false, .bool false, .bool false, .bool false, .bool false, .bool false, .bool false, .bool false, .bool false, .bool false, .bool false, .bool false, .bool false, .bool false, .bool false, .bool false, .bool false, .bool false, .bool false, .bool false, .bool false, .bool false, .bool false, .bool false, .bool false, .bool false, .bool false, .bool false, .bool false, .bool false, .bool false, .bool false, .bool false, .bool false, .bool false, .bool false, .bool false, .bool false, .bool false, .bool false, .bool false, .bool false, .bool false, .bool false, .bool false, .bool false, .bool false, .bool false, .bool false, .bool false, .bool false, .bool false, .bool false, .bool false, .bool false, .bool false, .bool false, .bool false, .bool false, .bool false, .bool false, .bool false, .bool false, .bool false, .bool false, .bool false, .bool false, .bool false, .bool false, .bool false, .bool false, .bool false, .bool false, .bool false, .bool false, .bool false, .bool false, .bool false, .bool false, .bool false, .bool false, .bool false, .bool false, .bool false, .bool false, .bool false, .bool false, .bool false, .bool false, .bool false, .bool false, .bool false, .bool false, .bool false, .bool false, .bool false, .bool false, .bool false, .bool false, .bool false, .bool false, .bool false, .bool false, .bool false, .bool false, .bool false, .bool false, .bool false, .bool false, .bool false, .bool false, .bool false, .bool false, .bool false, .bool false, .bool false, .bool false, .bool false, .bool false, .bool false, .bool false, .bool false, .bool false, .bool false, .bool false, .bool false, .bool false, .bool false, .bool false, .bool false, .bool false, .bool false, .bool false, .bool false, .bool false, .bool false, .bool false, .bool false, .bool false, .bool false, .bool false, .bool false, .bool false, .bool false, .bool false, .bool false, .bool false, .bool false, .bool false, .bool false, .bool false, .bool false, .bool false, .bool false, .bool false, .bool false, .bool false, .bool false, .bool false, .bool false, .bool false, .bool false, .bool false, .bool false, .bool false, .bool false, .bool false, .bool false, .bool false, .bool false, .bool false, .bool false, .bool false, .bool false, .bool false, .bool false, .bool false, .bool false, .bool false, .bool false, .bool false, .bool false, .bool false, .bool false, .bool false, .bool false, .bool false, .bool false, .bool false, .bool false, .bool false, .bool false, .bool false, .bool false, .bool false, .bool false, .bool false, .bool false, .bool false, .bool false, .bool false, .bool false, .bool false, .bool false, .bool false]⟩,
  ⟨.other, 0, 0, []⟩,
  ⟨.fn, 1, 8, [.nilFunc]⟩,
  ⟨.fn, 1, 8, [.nilFunc]⟩,
  ⟨.ptr, 1, 8, [.pointer none]⟩,
  ⟨.int .i64, 1, 8, [.int .i64 0]⟩,
  ⟨.fn, 1, 8, [.nilFunc]⟩,
  ⟨.ptr, 1, 8, [.pointer none]⟩,
  ⟨.fn, 1, 8, [.nilFunc]⟩,
  ⟨.fn, 1, 8, [.nilFunc]⟩,
  ⟨.fn, 1, 8, [.nilFunc]⟩,
  ⟨.fn, 1, 8, [.nilFunc]⟩,
  ⟨.fn, 1, 8, [.nilFunc]⟩,
  ⟨.arr 20 47, 20, 160, [.int .u64 0, .int .u64 0, .int .u64 0, .int .u64 0, .int .u64 0, .int .u64 0, .int .u64 0, .int .u64 0, .int .u64 0, .int .u64 0, .int .u64 0, .int .u64 0, .int .u64 0, .int .u64 0, .int .u64 0, .int .u64 0, .int .u64 0, .int .u64 0, .int .u64 0, .int .u64 0]⟩,
  ⟨.arr 65 5, 65, 65, [.int .u8 0, .int .u8 0, .int .u8 0, .int .u8 0, .int .u8 0, .int .u8 0, .int .u8 0, .int .u8 0, .int .u8 0, .int .u8 0, .int .u8 0, .int .u8 0, .int .u8 0, .int .u8 0, .int .u8 0, .int .u8 0, .int .u8 0, .int .u8 0, .int .u8 0, .int .u8 0, .int .u8 0, .int .u8 0, .int .u8 0, .int .u8 0, .int .u8 0, .int .u8 0, .int .u8 0, .int .u8 0, .int .u8 0, .int .u8 0, .int .u8 0, .int .u8 0, .int .u8 0, .int .u8 0, .int .u8 0, .int .u8 0, .int .u8 0, .int .u8 0, .int .u8 0, .int .u8 0, .int .u8 0, .int .u8 0, .int .u8 0, .int .u8 0, .int .u8 0, .int .u8 0, .int .u8 0, .int .u8 0, .int .u8 0, .int .u8 0, .int .u8 0, .int .u8 0, .int .u8 0, .int .u8 0, .int .u8 0, .int .u8 0, .int .u8 0, .int .u8 0, .int .u8 0, .int .u8 0, .int .u8 0, .int .u8 0, .int .u8 0, .int .u8 0, .int .u8 0]⟩,
  ⟨.fn, 1, 8, [.nilFunc]⟩,
  ⟨.fn, 1, 8, [.nilFunc]⟩,
  ⟨.fn, 1, 8, [.nilFunc]⟩,
  ⟨.fn, 1, 8, [.nilFunc]⟩,
  ⟨.other, 0, 0, []⟩,
  ⟨.fn, 1, 8, [.nilFunc]⟩,
  ⟨.fn, 1, 8, [.nilFunc]⟩,
  ⟨.fn, 1, 8, [.nilFunc]⟩,
  ⟨.st [(0, 9), (1, 9), (2, 45)], 3, 48, [.string ⟨#[]⟩, .string ⟨#[]⟩, .nilIface]⟩,
  ⟨.st [(0, 9), (1, 9), (2, 45)], 3, 48, [.string ⟨#[]⟩, .string ⟨#[]⟩, .nilIface]⟩,
  ⟨.fn, 1, 8, [.nilFunc]⟩,
  ⟨.fn, 1, 8, [.nilFunc]⟩,
  ⟨.other, 0, 0, []⟩,
  ⟨.fn, 1, 8, [.nilFunc]⟩,
  ⟨.fn, 1, 8, [.nilFunc]⟩,
  ⟨.ptr, 1, 8, [.pointer none]⟩,
  ⟨.st [(0, 9)], 1, 16, [.string ⟨#[]⟩]⟩,
  ⟨.st [(0, 9)], 1, 16, [.string ⟨#[]⟩]⟩,
  ⟨.arr 32 5, 32, 32, [.int .u8 0, .int .u8 0, .int .u8 0, .int .u8 0, .int .u8 0, .int .u8 0, .int .u8 0, .int .u8 0, .int .u8 0, .int .u8 0, .int .u8 0, .int .u8 0, .int .u8 0, .int .u8 0, .int .u8 0, .int .u8 0, .int .u8 0, .int .u8 0, .int .u8 0, .int .u8 0, .int .u8 0, .int .u8 0, .int .u8 0, .int .u8 0, .int .u8 0, .int .u8 0, .int .u8 0, .int .u8 0, .int .u8 0, .int .u8 0, .int .u8 0, .int .u8 0]⟩,
  ⟨.arr 64 5, 64, 64, [.int .u8 0, .int .u8 0, .int .u8 0, .int .u8 0, .int .u8 0, .int .u8 0, .int .u8 0, .int .u8 0, .int .u8 0, .int .u8 0, .int .u8 0, .int .u8 0, .int .u8 0, .int .u8 0, .int .u8 0, .int .u8 0, .int .u8 0, .int .u8 0, .int .u8 0, .int .u8 0, .int .u8 0, .int .u8 0, .int .u8 0, .int .u8 0, .int .u8 0, .int .u8 0, .int .u8 0, .int .u8 0, .int .u8 0, .int .u8 0, .int .u8 0, .int .u8 0, .int .u8 0, .int .u8 0, .int .u8 0, .int .u8 0, .int .u8 0, .int .u8 0, .int .u8 0, .int .u8 0, .int .u8 0, .int .u8 0, .int .u8 0, .int .u8 0, .int .u8 0, .int .u8 0, .int .u8 0, .int .u8 0, .int .u8 0, .int .u8 0, .int .u8 0, .int .u8 0, .int .u8 0, .int .u8 0, .int .u8 0, .int .u8 0, .int .u8 0, .int .u8 0, .int .u8 0, .int .u8 0, .int .u8 0, .int .u8 0, .int .u8 0, .int .u8 0]⟩,
  ⟨.arr 256 5, 256, 256, [.int .u8 0, .int .u8 0, .int .u8 0, .int .u8 0, .int .u8 0, .int .u8 0, .int .u8 0, .int .u8 0, .int .u8 0, .int .u8 0, .int .u8 0, .int .u8 0, .int .u8 0, .int .u8 0, .int .u8 0, .int .u8 0, .int .u8 0, .int .u8 0, .int .u8 0, .int .u8 0, .int .u8 0, .int .u8 0, .int .u8 0, .int .u8 0, .int .u8 0, .int .u8 0, .int .u8 0, .int .u8 0, .int .u8 0, .int .u8 0, .int .u8 0, .int .u8 0, .int .u8 0, .int .u8 0, .int .u8 0, .int .u8 0, .int .u8 0, .int .u8 0, .int .u8 0, .int .u8 0, .int .u8 0, .int .u8 0, .int .u8 0, .int .u8 0, .int .u8 0, .int .u8 0, .int .u8 0, .int .u8 0, .int .u8 0, .int .u8 0, .int .u8 0, .int .u8 0, .int .u8 0, .int .u8 0, .int .u8 0, .int .u8 0, .int .u8 0, .int .u8 0, .int .u8 0, .int .u8 0, .int .u8 0, .int .u8 0, .int .u8 0, .int .u8 0, .int .u8 0, .int .u8 0, .int .u8 0, .int .u8 0, .int .u8 0, .int .u8 0, .int .u8 0, .int .u8 0, .int .u8 0, .int .u8 0, .int .u8 0, .int .u8 0, .int .u8 0, .int .u8 0, .int .u8 0, .int .u8 0, .int .u8 0, .int .u8 0, .int .u8 0, .int .u8 0, .int .u8 0, .int .u8 0, .int .u8 0, .int .u8 0, .int .u8 0, .int .u8 0, .int .u8 0, .int .u8 0, .int .u8 0, .int .u8 0, .int .u8 0, .int .u8 0, .int .u8 0, .int .u8 0, .int .u8 0, .int .u8 0, .int .u8 0, .int .u8 0, .int .u8 0, .int .u8 0, .int .u8 0, .int .u8 0, .int .u8 0, .int .u8 0, .int .u8 0, .int .u8 0, .int .u8 0, .int .u8 0, .int .u8 0, .int .u8 0, .int .u8 0, .int .u8 0, .int .u8 0, .int .u8 0, .int .u8 0, .int .u8 0, .int .u8 0, .int .u8 0, .int .u8 0, .int .u8 0, .int .u8 0, .int .u8 0, .int .u8 0, .int .u8 0, .int .u8 0, .int .u8 0, .int .u8 0, .int .u8 0, .int .u8 0, .int .u8 0, .int .u8 0, .int .u8 0, .int .u8 0, .int .u8 0, .int .u8 0, .int .u8 0, .int .u8 0, .int .u8 0, .int .u8 0, .int .u8 0, .int .u8 0, .int .u8 0, .int .u8 0, .int .u8 0, .int .u8 0, .int .u8 0, .int .u8 0, .int .u8 0, .int .u8 0, .int .u8 0, .int .u8 0, .int .u8 0, .int .u8 0, .int .u8 0, .int .u8 0, .int .u8 0, .int .u8 0, .int .u8 0, .int .u8 0, .int .u8 0, .int .u8 0, .int .u8 0, .int .u8 0, .int .u8 0, .int .u8 0, .int .u8 0, .int .u8 0, .int .u8 0, .int .u8 0, .int .u8 0, .int .u8 0, .int .u8 0, .int .u8 0, .int .u8 0, .int .u8 0, .int .u8 0, .int .u8 0, .int .u8 0, .int .u8 0, .int .u8 0, .int .u8 0, .int .u8 0, .int .u8 0, .int .u8 0, .int .u8 0, .int .u8 0, .int .u8 0, .int .u8 0, .int .u8 0, .int .u8 0, .int .u8 0, .int .u8 0, .int .u8 0, .int .u8 0, .int .u8 0, .int .u8 0, .int .u8 0, .int .u8 0, .int .u8 0, .int .u8 0, .int .u8 0, .int .u8 0, .int .u8 0, .int .u8 0, .int .u8 0, .int .u8 0, .int .u8 0, .int .u8 0, .int .u8 0, .int .u8 0, .int .u8 0, .int .u8 0, .int .u8 0, .int .u8 0, .int .u8 0, .int .u8 0, .int .u8 0, .int .u8 0, .int .u8 0, .int .u8 0, .int .u8 0, .int .u8 0, .int .u8 0, .int .u8 0, .int .u8 0, .int .u8 0, .int .u8 0, .int .u8 0, .int .u8 0, .int .u8 0, .int .u8 0, .int .u8 0, .int .u8 0, .int .u8 0, .int .u8 0, .int .u8 0, .int .u8 0, .int .u8 0, .int .u8 0, .int .u8 0, .int .u8 0, .int .u8 0, .int .u8 0, .int .u8 0, .int .u8 0, .int .u8 0, .int .u8 0, .int .u8 0, .int .u8 0, .int .u8 0, .int .u8 0, .int .u8 0]⟩,
  ⟨.st [(0, 5), (1, 5)], 2, 2, [.int .u8 0, .int .u8 0]⟩,
  ⟨.st [(0, 5), (1, 5)], 2, 2, [.int .u8 0, .int .u8 0]⟩,
  ⟨.arr 16 140, 32, 32, [.int .u8 0, .int .u8 0, .int .u8 0, .int .u8 0, .int .u8 0, .int .u8 0, .int .u8 0, .int .u8 0, .int .u8 0, .int .u8 0, .int .u8 0, .int .u8 0, .int .u8 0, .int .u8 0, .int .u8 0, .int .u8 0, .int .u8 0, .int .u8 0, .int .u8 0, .int .u8 0, .int .u8 0, .int .u8 0, .int .u8 0, .int .u8 0, .int .u8 0, .int .u8 0, .int .u8 0, .int .u8 0, .int .u8 0, .int .u8 0, .int .u8 0, .int .u8 0]⟩,
  ⟨.fn, 1, 8, [.nilFunc]⟩,
  ⟨.fn, 1, 8, [.nilFunc]⟩,
  ⟨.st [(0, 17), (1, 17), (2, 17), (3, 9)], 4, 40, [.pointer none, .pointer none, .pointer none, .string ⟨#[]⟩]⟩,
  ⟨.st [(0, 17), (1, 17), (2, 17), (3, 9)], 4, 40, [.pointer none, .pointer none, .pointer none, .string ⟨#[]⟩]⟩,
  ⟨.arr 0 16, 0, 0, []⟩,
  ⟨.st [(0, 146)], 0, 0, []⟩,
  ⟨.st [(0, 146)], 0, 0, []⟩,
  ⟨.fn, 1, 8, [.nilFunc]⟩,
  ⟨.int .u8, 1, 1, [.int .u8 0]⟩,
  ⟨.int .u8, 1, 1, [.int .u8 0]⟩,
  ⟨.fn, 1, 8, [.nilFunc]⟩,
  ⟨.int .i32, 1, 4, [.int .i32 0]⟩,
  ⟨.int .i32, 1, 4, [.int .i32 0]⟩,
  ⟨.st [(0, 12), (1, 12), (2, 68), (3, 150), (4, 5), (5, 5), (6, 151), (7, 152), (8, 81), (9, 153), (10, 154)], 11, 48, [.int .u64 0, .int .u64 0, .int .u32 0, .int .u8 0, .int .u8 0, .int .u8 0, .int .u8 0, .nilFunc, .pointer none, .int .i32 0, .int .i32 0]⟩,
  ⟨.st [(0, 12), (1, 12), (2, 68), (3, 150), (4, 5), (5, 5), (6, 151), (7, 152), (8, 81), (9, 153), (10, 154)], 11, 48, [.int .u64 0, .int .u64 0, .int .u32 0, .int .u8 0, .int .u8 0, .int .u8 0, .int .u8 0, .nilFunc, .pointer none, .int .i32 0, .int .i32 0]⟩]

theorem ty0 : tyOk Tryd.prog 0 (⟨.other, 0, 0, []⟩) := rfl
theorem ty1 : tyOk Tryd.prog 1 (⟨.fn, 1, 8, [.nilFunc]⟩) := ⟨⟨Tryd.t1, _, by kernel_rfl, rfl, rfl, rfl, rfl⟩, ⟨_, _, _, Tryd.underlying1⟩⟩
theorem ty2 : tyOk Tryd.prog 2 (⟨.int .i64, 1, 8, [.int .i64 0]⟩) := ⟨⟨Tryd.t2, _, by kernel_rfl, rfl, rfl, rfl, rfl⟩, Tryd.underlying2⟩
theorem ty3 : tyOk Tryd.prog 3 (⟨.int .i64, 1, 8, [.int .i64 0]⟩) := ⟨⟨Tryd.t3, _, by kernel_rfl, rfl, rfl, rfl, rfl⟩, Tryd.underlying3⟩
theorem ty4 : tyOk Tryd.prog 4 (⟨.bool, 1, 1, [.bool false]⟩) := ⟨⟨Tryd.t4, _, by kernel_rfl, rfl, rfl, rfl, rfl⟩, Tryd.underlying4⟩
theorem ty5 : tyOk Tryd.prog 5 (⟨.int .u8, 1, 1, [.int .u8 0]⟩) := ⟨⟨Tryd.t5, _, by kernel_rfl, rfl, rfl, rfl, rfl⟩, Tryd.underlying5⟩
theorem ty6 : tyOk Tryd.prog 6 (⟨.int .u8, 1, 1, [.int .u8 0]⟩) := ⟨⟨Tryd.t6, _, by kernel_rfl, rfl, rfl, rfl, rfl⟩, Tryd.underlying6⟩
theorem ty7 : tyOk Tryd.prog 7 (⟨.st [(0, 2), (1, 3), (2, 4), (3, 6)], 4, 24, [.int .i64 0, .int .i64 0, .bool false, .int .u8 0]⟩) := ⟨⟨Tryd.t7, _, by kernel_rfl, rfl, rfl, rfl, rfl⟩, ⟨_, [(0, 1), (1, 1), (2, 1), (3, 1)], Tryd.underlying7, by kernel_rfl, by kernel_rfl⟩⟩
theorem ty8 : tyOk Tryd.prog 8 (⟨.st [(0, 2), (1, 3), (2, 4), (3, 6)], 4, 24, [.int .i64 0, .int .i64 0, .bool false, .int .u8 0]⟩) := ⟨⟨Tryd.t8, _, by kernel_rfl, rfl, rfl, rfl, rfl⟩, ⟨_, [(0, 1), (1, 1), (2, 1), (3, 1)], Tryd.underlying8, by kernel_rfl, by kernel_rfl⟩⟩
theorem ty9 : tyOk Tryd.prog 9 (⟨.str, 1, 16, [.string ⟨#[]⟩]⟩) := ⟨⟨Tryd.t9, _, by kernel_rfl, rfl, rfl, rfl, rfl⟩, Tryd.underlying9⟩
theorem ty10 : tyOk Tryd.prog 10 (⟨.str, 1, 16, [.string ⟨#[]⟩]⟩) := ⟨⟨Tryd.t10, _, by kernel_rfl, rfl, rfl, rfl, rfl⟩, Tryd.underlying10⟩
theorem ty11 : tyOk Tryd.prog 11 (⟨.str, 1, 16, [.string ⟨#[]⟩]⟩) := ⟨⟨Tryd.t11, _, by kernel_rfl, rfl, rfl, rfl, rfl⟩, Tryd.underlying11⟩
theorem ty12 : tyOk Tryd.prog 12 (⟨.int .u64, 1, 8, [.int .u64 0]⟩) := ⟨⟨Tryd.t12, _, by kernel_rfl, rfl, rfl, rfl, rfl⟩, Tryd.underlying12⟩
theorem ty13 : tyOk Tryd.prog 13 (⟨.st [(0, 9), (1, 12)], 2, 24, [.string ⟨#[]⟩, .int .u64 0]⟩) := ⟨⟨Tryd.t13, _, by kernel_rfl, rfl, rfl, rfl, rfl⟩, ⟨_, [(0, 1), (1, 1)], Tryd.underlying13, by kernel_rfl, by kernel_rfl⟩⟩
theorem ty14 : tyOk Tryd.prog 14 (⟨.st [(0, 9), (1, 12)], 2, 24, [.string ⟨#[]⟩, .int .u64 0]⟩) := ⟨⟨Tryd.t14, _, by kernel_rfl, rfl, rfl, rfl, rfl⟩, ⟨_, [(0, 1), (1, 1)], Tryd.underlying14, by kernel_rfl, by kernel_rfl⟩⟩
theorem ty15 : tyOk Tryd.prog 15 (⟨.ptr, 1, 8, [.pointer none]⟩) := ⟨⟨Tryd.t15, _, by kernel_rfl, rfl, rfl, rfl, rfl⟩, ⟨_, Tryd.underlying15⟩⟩
theorem ty16 : tyOk Tryd.prog 16 (⟨.ptr, 1, 8, [.pointer none]⟩) := ⟨⟨Tryd.t16, _, by kernel_rfl, rfl, rfl, rfl, rfl⟩, ⟨_, Tryd.underlying16⟩⟩
theorem ty17 : tyOk Tryd.prog 17 (⟨.ptr, 1, 8, [.pointer none]⟩) := ⟨⟨Tryd.t17, _, by kernel_rfl, rfl, rfl, rfl, rfl⟩, ⟨_, Tryd.underlying17⟩⟩
theorem ty18 : tyOk Tryd.prog 18 (⟨.st [(0, 17)], 1, 8, [.pointer none]⟩) := ⟨⟨Tryd.t18, _, by kernel_rfl, rfl, rfl, rfl, rfl⟩, ⟨_, [(0, 1)], Tryd.underlying18, by kernel_rfl, by kernel_rfl⟩⟩
theorem ty19 : tyOk Tryd.prog 19 (⟨.st [(0, 17)], 1, 8, [.pointer none]⟩) := ⟨⟨Tryd.t19, _, by kernel_rfl, rfl, rfl, rfl, rfl⟩, ⟨_, [(0, 1)], Tryd.underlying19, by kernel_rfl, by kernel_rfl⟩⟩
theorem ty20 : tyOk Tryd.prog 20 (⟨.other, 0, 0, []⟩) := rfl
theorem ty21 : tyOk Tryd.prog 21 (⟨.int .i32, 1, 4, [.int .i32 0]⟩) := ⟨⟨Tryd.t21, _, by kernel_rfl, rfl, rfl, rfl, rfl⟩, Tryd.underlying21⟩
theorem ty22 : tyOk Tryd.prog 22 (⟨.fn, 1, 8, [.nilFunc]⟩) := ⟨⟨Tryd.t22, _, by kernel_rfl, rfl, rfl, rfl, rfl⟩, ⟨_, _, _, Tryd.underlying22⟩⟩
theorem ty23 : tyOk Tryd.prog 23 (⟨.int .i64, 1, 8, [.int .i64 0]⟩) := ⟨⟨Tryd.t23, _, by kernel_rfl, rfl, rfl, rfl, rfl⟩, Tryd.underlying23⟩
theorem ty24 : tyOk Tryd.prog 24 (⟨.other, 0, 0, []⟩) := rfl
theorem ty25 : tyOk Tryd.prog 25 (⟨.fn, 1, 8, [.nilFunc]⟩) := ⟨⟨Tryd.t25, _, by kernel_rfl, rfl, rfl, rfl, rfl⟩, ⟨_, _, _, Tryd.underlying25⟩⟩
theorem ty26 : tyOk Tryd.prog 26 (⟨.fn, 1, 8, [.nilFunc]⟩) := ⟨⟨Tryd.t26, _, by kernel_rfl, rfl, rfl, rfl, rfl⟩, ⟨_, _, _, Tryd.underlying26⟩⟩
theorem ty27 : tyOk Tryd.prog 27 (⟨.fn, 1, 8, [.nilFunc]⟩) := ⟨⟨Tryd.t27, _, by kernel_rfl, rfl, rfl, rfl, rfl⟩, ⟨_, _, _, Tryd.underlying27⟩⟩
theorem ty28 : tyOk Tryd.prog 28 (⟨.sl 3, 1, 24, [.slice none 0 0]⟩) := ⟨⟨Tryd.t28, _, by kernel_rfl, rfl, rfl, rfl, rfl⟩, Tryd.underlying28⟩
theorem ty29 : tyOk Tryd.prog 29 (⟨.other, 0, 0, []⟩) := rfl
theorem ty30 : tyOk Tryd.prog 30 (⟨.fn, 1, 8, [.nilFunc]⟩) := ⟨⟨Tryd.t30, _, by kernel_rfl, rfl, rfl, rfl, rfl⟩, ⟨_, _, _, Tryd.underlying30⟩⟩
theorem ty31 : tyOk Tryd.prog 31 (⟨.fn, 1, 8, [.nilFunc]⟩) := ⟨⟨Tryd.t31, _, by kernel_rfl, rfl, rfl, rfl, rfl⟩, ⟨_, _, _, Tryd.underlying31⟩⟩
theorem ty32 : tyOk Tryd.prog 32 (⟨.fn, 1, 8, [.nilFunc]⟩) := ⟨⟨Tryd.t32, _, by kernel_rfl, rfl, rfl, rfl, rfl⟩, ⟨_, _, _, Tryd.underlying32⟩⟩
theorem ty33 : tyOk Tryd.prog 33 (⟨.fn, 1, 8, [.nilFunc]⟩) := ⟨⟨Tryd.t33, _, by kernel_rfl, rfl, rfl, rfl, rfl⟩, ⟨_, _, _, Tryd.underlying33⟩⟩
theorem ty34 : tyOk Tryd.prog 34 (⟨.fn, 1, 8, [.nilFunc]⟩) := ⟨⟨Tryd.t34, _, by kernel_rfl, rfl, rfl, rfl, rfl⟩, ⟨_, _, _, Tryd.underlying34⟩⟩
theorem ty35 : tyOk Tryd.prog 35 (⟨.int .u16, 1, 2, [.int .u16 0]⟩) := ⟨⟨Tryd.t35, _, by kernel_rfl, rfl, rfl, rfl, rfl⟩, Tryd.underlying35⟩
theorem ty36 : tyOk Tryd.prog 36 (⟨.fn, 1, 8, [.nilFunc]⟩) := ⟨⟨Tryd.t36, _, by kernel_rfl, rfl, rfl, rfl, rfl⟩, ⟨_, _, _, Tryd.underlying36⟩⟩
theorem ty37 : tyOk Tryd.prog 37 (⟨.fn, 1, 8, [.nilFunc]⟩) := ⟨⟨Tryd.t37, _, by kernel_rfl, rfl, rfl, rfl, rfl⟩, ⟨_, _, _, Tryd.underlying37⟩⟩
theorem ty38 : tyOk Tryd.prog 38 (⟨.fn, 1, 8, [.nilFunc]⟩) := ⟨⟨Tryd.t38, _, by kernel_rfl, rfl, rfl, rfl, rfl⟩, ⟨_, _, _, Tryd.underlying38⟩⟩
theorem ty39 : tyOk Tryd.prog 39 (⟨.fn, 1, 8, [.nilFunc]⟩) := ⟨⟨Tryd.t39, _, by kernel_rfl, rfl, rfl, rfl, rfl⟩, ⟨_, _, _, Tryd.underlying39⟩⟩
theorem ty40 : tyOk Tryd.prog 40 (⟨.ptr, 1, 8, [.pointer none]⟩) := ⟨⟨Tryd.t40, _, by kernel_rfl, rfl, rfl, rfl, rfl⟩, ⟨_, Tryd.underlying40⟩⟩
theorem ty41 : tyOk Tryd.prog 41 (⟨.sl 5, 1, 24, [.slice none 0 0]⟩) := ⟨⟨Tryd.t41, _, by kernel_rfl, rfl, rfl, rfl, rfl⟩, Tryd.underlying41⟩
theorem ty42 : tyOk Tryd.prog 42 (⟨.st [(0, 40), (1, 41)], 2, 32, [.pointer none, .slice none 0 0]⟩) := ⟨⟨Tryd.t42, _, by kernel_rfl, rfl, rfl, rfl, rfl⟩, ⟨_, [(0, 1), (1, 1)], Tryd.underlying42, by kernel_rfl, by kernel_rfl⟩⟩
theorem ty43 : tyOk Tryd.prog 43 (⟨.st [(0, 40), (1, 41)], 2, 32, [.pointer none, .slice none 0 0]⟩) := ⟨⟨Tryd.t43, _, by kernel_rfl, rfl, rfl, rfl, rfl⟩, ⟨_, [(0, 1), (1, 1)], Tryd.underlying43, by kernel_rfl, by kernel_rfl⟩⟩
theorem ty44 : tyOk Tryd.prog 44 (⟨.other, 0, 0, []⟩) := rfl
theorem ty45 : tyOk Tryd.prog 45 (⟨.other, 0, 0, []⟩) := rfl
theorem ty46 : tyOk Tryd.prog 46 (⟨.fn, 1, 8, [.nilFunc]⟩) := ⟨⟨Tryd.t46, _, by kernel_rfl, rfl, rfl, rfl, rfl⟩, ⟨_, _, _, Tryd.underlying46⟩⟩
theorem ty47 : tyOk Tryd.prog 47 (⟨.int .u64, 1, 8, [.int .u64 0]⟩) := ⟨⟨Tryd.t47, _, by kernel_rfl, rfl, rfl, rfl, rfl⟩, Tryd.underlying47⟩
theorem ty48 : tyOk Tryd.prog 48 (⟨.fn, 1, 8, [.nilFunc]⟩) := ⟨⟨Tryd.t48, _, by kernel_rfl, rfl, rfl, rfl, rfl⟩, ⟨_, _, _, Tryd.underlying48⟩⟩
theorem ty49 : tyOk Tryd.prog 49 (⟨.other, 0, 0, []⟩) := rfl
theorem ty50 : tyOk Tryd.prog 50 (⟨.fn, 1, 8, [.nilFunc]⟩) := ⟨⟨Tryd.t50, _, by kernel_rfl, rfl, rfl, rfl, rfl⟩, ⟨_, _, _, Tryd.underlying50⟩⟩
theorem ty51 : tyOk Tryd.prog 51 (⟨.fn, 1, 8, [.nilFunc]⟩) := ⟨⟨Tryd.t51, _, by kernel_rfl, rfl, rfl, rfl, rfl⟩, ⟨_, _, _, Tryd.underlying51⟩⟩
theorem ty52 : tyOk Tryd.prog 52 (⟨.fn, 1, 8, [.nilFunc]⟩) := ⟨⟨Tryd.t52, _, by kernel_rfl, rfl, rfl, rfl, rfl⟩, ⟨_, _, _, Tryd.underlying52⟩⟩
theorem ty53 : tyOk Tryd.prog 53 (⟨.other, 0, 0, []⟩) := rfl
theorem ty54 : tyOk Tryd.prog 54 (⟨.fn, 1, 8, [.nilFunc]⟩) := ⟨⟨Tryd.t54, _, by kernel_rfl, rfl, rfl, rfl, rfl⟩, ⟨_, _, _, Tryd.underlying54⟩⟩
theorem ty55 : tyOk Tryd.prog 55 (⟨.other, 0, 0, []⟩) := rfl
theorem ty56 : tyOk Tryd.prog 56 (⟨.fn, 1, 8, [.nilFunc]⟩) := ⟨⟨Tryd.t56, _, by kernel_rfl, rfl, rfl, rfl, rfl⟩, ⟨_, _, _, Tryd.underlying56⟩⟩
theorem ty57 : tyOk Tryd.prog 57 (⟨.fn, 1, 8, [.nilFunc]⟩) := ⟨⟨Tryd.t57, _, by kernel_rfl, rfl, rfl, rfl, rfl⟩, ⟨_, _, _, Tryd.underlying57⟩⟩
theorem ty58 : tyOk Tryd.prog 58 (⟨.fn, 1, 8, [.nilFunc]⟩) := ⟨⟨Tryd.t58, _, by kernel_rfl, rfl, rfl, rfl, rfl⟩, ⟨_, _, _, Tryd.underlying58⟩⟩
theorem ty59 : tyOk Tryd.prog 59 (⟨.ptr, 1, 8, [.pointer none]⟩) := ⟨⟨Tryd.t59, _, by kernel_rfl, rfl, rfl, rfl, rfl⟩, ⟨_, Tryd.underlying59⟩⟩
theorem ty60 : tyOk Tryd.prog 60 (⟨.ptr, 1, 8, [.pointer none]⟩) := ⟨⟨Tryd.t60, _, by kernel_rfl, rfl, rfl, rfl, rfl⟩, ⟨_, Tryd.underlying60⟩⟩
theorem ty61 : tyOk Tryd.prog 61 (⟨.other, 0, 0, []⟩) := rfl
theorem ty62 : tyOk Tryd.prog 62 (⟨.fn, 1, 8, [.nilFunc]⟩) := ⟨⟨Tryd.t62, _, by kernel_rfl, rfl, rfl, rfl, rfl⟩, ⟨_, _, _, Tryd.underlying62⟩⟩
theorem ty63 : tyOk Tryd.prog 63 (⟨.arr 40 5, 40, 40, [.int .u8 0, .int .u8 0, .int .u8 0, .int .u8 0, .int .u8 0, .int .u8 0, .int .u8 0, .int .u8 0, .int .u8 0, .int .u8 0, .int .u8 0, .int .u8 0, .int .u8 0, .int .u8 0, .int .u8 0, .int .u8 0, .int .u8 0, .int .u8 0, .int .u8 0, .int .u8 0, .int .u8 0, .int .u8 0, .int .u8 0, .int .u8 0, .int .u8 0, .int .u8 0, .int .u8 0, .int .u8 0, .int .u8 0, .int .u8 0, .int .u8 0, .int .u8 0, .int .u8 0, .int .u8 0, .int .u8 0, .int .u8 0, .int .u8 0, .int .u8 0, .int .u8 0, .int .u8 0]⟩) := ⟨⟨Tryd.t63, _, by kernel_rfl, rfl, rfl, rfl, rfl⟩, Tryd.underlying63⟩
theorem ty64 : tyOk Tryd.prog 64 (⟨.fn, 1, 8, [.nilFunc]⟩) := ⟨⟨Tryd.t64, _, by kernel_rfl, rfl, rfl, rfl, rfl⟩, ⟨_, _, _, Tryd.underlying64⟩⟩
theorem ty65 : tyOk Tryd.prog 65 (⟨.int .u64, 1, 8, [.int .u64 0]⟩) := ⟨⟨Tryd.t65, _, by kernel_rfl, rfl, rfl, rfl, rfl⟩, Tryd.underlying65⟩
theorem ty66 : tyOk Tryd.prog 66 (⟨.fn, 1, 8, [.nilFunc]⟩) := ⟨⟨Tryd.t66, _, by kernel_rfl, rfl, rfl, rfl, rfl⟩, ⟨_, _, _, Tryd.underlying66⟩⟩
theorem ty67 : tyOk Tryd.prog 67 (⟨.fn, 1, 8, [.nilFunc]⟩) := ⟨⟨Tryd.t67, _, by kernel_rfl, rfl, rfl, rfl, rfl⟩, ⟨_, _, _, Tryd.underlying67⟩⟩
theorem ty68 : tyOk Tryd.prog 68 (⟨.int .u32, 1, 4, [.int .u32 0]⟩) := ⟨⟨Tryd.t68, _, by kernel_rfl, rfl, rfl, rfl, rfl⟩, Tryd.underlying68⟩
theorem ty69 : tyOk Tryd.prog 69 (⟨.sl 68, 1, 24, [.slice none 0 0]⟩) := ⟨⟨Tryd.t69, _, by kernel_rfl, rfl, rfl, rfl, rfl⟩, Tryd.underlying69⟩
theorem ty70 : tyOk Tryd.prog 70 (⟨.sl 68, 1, 24, [.slice none 0 0]⟩) := ⟨⟨Tryd.t70, _, by kernel_rfl, rfl, rfl, rfl, rfl⟩, Tryd.underlying70⟩
theorem ty71 : tyOk Tryd.prog 71 (⟨.fn, 1, 8, [.nilFunc]⟩) := ⟨⟨Tryd.t71, _, by kernel_rfl, rfl, rfl, rfl, rfl⟩, ⟨_, _, _, Tryd.underlying71⟩⟩
theorem ty72 : tyOk Tryd.prog 72 (⟨.fn, 1, 8, [.nilFunc]⟩) := ⟨⟨Tryd.t72, _, by kernel_rfl, rfl, rfl, rfl, rfl⟩, ⟨_, _, _, Tryd.underlying72⟩⟩
theorem ty73 : tyOk Tryd.prog 73 (⟨.other, 0, 0, []⟩) := rfl
theorem ty74 : tyOk Tryd.prog 74 (⟨.fn, 1, 8, [.nilFunc]⟩) := ⟨⟨Tryd.t74, _, by kernel_rfl, rfl, rfl, rfl, rfl⟩, ⟨_, _, _, Tryd.underlying74⟩⟩
theorem ty75 : tyOk Tryd.prog 75 (⟨.fn, 1, 8, [.nilFunc]⟩) := ⟨⟨Tryd.t75, _, by kernel_rfl, rfl, rfl, rfl, rfl⟩, ⟨_, _, _, Tryd.underlying75⟩⟩
theorem ty76 : tyOk Tryd.prog 76 (⟨.fn, 1, 8, [.nilFunc]⟩) := ⟨⟨Tryd.t76, _, by kernel_rfl, rfl, rfl, rfl, rfl⟩, ⟨_, _, _, Tryd.underlying76⟩⟩
theorem ty77 : tyOk Tryd.prog 77 (⟨.fn, 1, 8, [.nilFunc]⟩) := ⟨⟨Tryd.t77, _, by kernel_rfl, rfl, rfl, rfl, rfl⟩, ⟨_, _, _, Tryd.underlying77⟩⟩
theorem ty78 : tyOk Tryd.prog 78 (⟨.fn, 1, 8, [.nilFunc]⟩) := ⟨⟨Tryd.t78, _, by kernel_rfl, rfl, rfl, rfl, rfl⟩, ⟨_, _, _, Tryd.underlying78⟩⟩
theorem ty79 : tyOk Tryd.prog 79 (⟨.fn, 1, 8, [.nilFunc]⟩) := ⟨⟨Tryd.t79, _, by kernel_rfl, rfl, rfl, rfl, rfl⟩, ⟨_, _, _, Tryd.underlying79⟩⟩
theorem ty80 : tyOk Tryd.prog 80 (⟨.fn, 1, 8, [.nilFunc]⟩) := ⟨⟨Tryd.t80, _, by kernel_rfl, rfl, rfl, rfl, rfl⟩, ⟨_, _, _, Tryd.underlying80⟩⟩
theorem ty81 : tyOk Tryd.prog 81 (⟨.ptr, 1, 8, [.pointer none]⟩) := ⟨⟨Tryd.t81, _, by kernel_rfl, rfl, rfl, rfl, rfl⟩, ⟨_, Tryd.underlying81⟩⟩
theorem ty82 : tyOk Tryd.prog 82 (⟨.fn, 1, 8, [.nilFunc]⟩) := ⟨⟨Tryd.t82, _, by kernel_rfl, rfl, rfl, rfl, rfl⟩, ⟨_, _, _, Tryd.underlying82⟩⟩
theorem ty83 : tyOk Tryd.prog 83 (⟨.fn, 1, 8, [.nilFunc]⟩) := ⟨⟨Tryd.t83, _, by kernel_rfl, rfl, rfl, rfl, rfl⟩, ⟨_, _, _, Tryd.underlying83⟩⟩
theorem ty84 : tyOk Tryd.prog 84 (⟨.arr 2 47, 2, 16, [.int .u64 0, .int .u64 0]⟩) := ⟨⟨Tryd.t84, _, by kernel_rfl, rfl, rfl, rfl, rfl⟩, Tryd.underlying84⟩
theorem ty85 : tyOk Tryd.prog 85 (⟨.arr 2 47, 2, 16, [.int .u64 0, .int .u64 0]⟩) := ⟨⟨Tryd.t85, _, by kernel_rfl, rfl, rfl, rfl, rfl⟩, Tryd.underlying85⟩
theorem ty86 : tyOk Tryd.prog 86 (⟨.other, 0, 0, []⟩) := rfl
theorem ty87 : tyOk Tryd.prog 87 (⟨.fn, 1, 8, [.nilFunc]⟩) := ⟨⟨Tryd.t87, _, by kernel_rfl, rfl, rfl, rfl, rfl⟩, ⟨_, _, _, Tryd.underlying87⟩⟩
theorem ty88 : tyOk Tryd.prog 88 (⟨.fn, 1, 8, [.nilFunc]⟩) := ⟨⟨Tryd.t88, _, by kernel_rfl, rfl, rfl, rfl, rfl⟩, ⟨_, _, _, Tryd.underlying88⟩⟩
theorem ty89 : tyOk Tryd.prog 89 (⟨.fn, 1, 8, [.nilFunc]⟩) := ⟨⟨Tryd.t89, _, by kernel_rfl, rfl, rfl, rfl, rfl⟩, ⟨_, _, _, Tryd.underlying89⟩⟩
theorem ty90 : tyOk Tryd.prog 90 (⟨.fn, 1, 8, [.nilFunc]⟩) := ⟨⟨Tryd.t90, _, by kernel_rfl, rfl, rfl, rfl, rfl⟩, ⟨_, _, _, Tryd.underlying90⟩⟩
theorem ty91 : tyOk Tryd.prog 91 (⟨.other, 0, 0, []⟩) := rfl
theorem ty92 : tyOk Tryd.prog 92 (⟨.fn, 1, 8, [.nilFunc]⟩) := ⟨⟨Tryd.t92, _, by kernel_rfl, rfl, rfl, rfl, rfl⟩, ⟨_, _, _, Tryd.underlying92⟩⟩
theorem ty93 : tyOk Tryd.prog 93 (⟨.fn, 1, 8, [.nilFunc]⟩) := ⟨⟨Tryd.t93, _, by kernel_rfl, rfl, rfl, rfl, rfl⟩, ⟨_, _, _, Tryd.underlying93⟩⟩
theorem ty94 : tyOk Tryd.prog 94 (⟨.arr 24 5, 24, 24, [.int .u8 0, .int .u8 0, .int .u8 0, .int .u8 0, .int .u8 0, .int .u8 0, .int .u8 0, .int .u8 0, .int .u8 0, .int .u8 0, .int .u8 0, .int .u8 0, .int .u8 0, .int .u8 0, .int .u8 0, .int .u8 0, .int .u8 0, .int .u8 0, .int .u8 0, .int .u8 0, .int .u8 0, .int .u8 0, .int .u8 0, .int .u8 0]⟩) := ⟨⟨Tryd.t94, _, by kernel_rfl, rfl, rfl, rfl, rfl⟩, Tryd.underlying94⟩
theorem ty95 : tyOk Tryd.prog 95 (⟨.fn, 1, 8, [.nilFunc]⟩) := ⟨⟨Tryd.t95, _, by kernel_rfl, rfl, rfl, rfl, rfl⟩, ⟨_, _, _, Tryd.underlying95⟩⟩
theorem ty96 : tyOk Tryd.prog 96 (⟨.fn, 1, 8, [.nilFunc]⟩) := ⟨⟨Tryd.t96, _, by kernel_rfl, rfl, rfl, rfl, rfl⟩, ⟨_, _, _, Tryd.underlying96⟩⟩
theorem ty97 : tyOk Tryd.prog 97 (⟨.other, 0, 0, []⟩) := rfl
theorem ty98 : tyOk Tryd.prog 98 (⟨.fn, 1, 8, [.nilFunc]⟩) := ⟨⟨Tryd.t98, _, by kernel_rfl, rfl, rfl, rfl, rfl⟩, ⟨_, _, _, Tryd.underlying98⟩⟩
theorem ty99 : tyOk Tryd.prog 99 (⟨.fn, 1, 8, [.nilFunc]⟩) := ⟨⟨Tryd.t99, _, by kernel_rfl, rfl, rfl, rfl, rfl⟩, ⟨_, _, _, Tryd.underlying99⟩⟩
theorem ty100 : tyOk Tryd.prog 100 (⟨.fn, 1, 8, [.nilFunc]⟩) := ⟨⟨Tryd.t100, _, by kernel_rfl, rfl, rfl, rfl, rfl⟩, ⟨_, _, _, Tryd.underlying100⟩⟩
theorem ty101 : tyOk Tryd.prog 101 (⟨.fn, 1, 8, [.nilFunc]⟩) := ⟨⟨Tryd.t101, _, by kernel_rfl, rfl, rfl, rfl, rfl⟩, ⟨_, _, _, Tryd.underlying101⟩⟩
theorem ty102 : tyOk Tryd.prog 102 (⟨.arr 256 4, 256, 256, [.bool false, .bool false, .bool false, .bool false, .bool false, .bool false, .bool false, .bool false, .bool false, .bool false, .bool false, .bool false, .bool false, .bool false, .bool false, .bool false, .bool false, .bool false, .bool false, .bool false, .bool false, .bool false, .bool false, .bool false, .bool false, .bool false, .bool false, .bool false, .bool false, .bool false, .bool false, .bool false, .bool false, .bool false, .bool false, .bool false, .bool false, .bool false, .bool false, .bool false, .bool false, .bool false, .bool false, .bool false, .bool false, .bool false, .bool false, .bool false, .bool false, .bool false, .bool false, .bool false, .bool false, .bool false, .bool false, .bool false, .bool false, .bool false, .bool false, .bool false, .bool false, .bool false, .bool false, .bool false, .bool false, .bool false, .bool false, .bool false, .bool false, .bool false, .bool false, .bool false, .bool false, .bool false, .bool false, .bool false, .bool false, .bool false, .bool false, .bool false, .bool false, .bool false, .bool false, .bool false, .bool false, .bool false, .bool false, .bool false, .bool false, .bool false, .bool false, .bool false, .bool false, .bool false, .bool false, .bool false, .bool false, .bool false, .bool false, .bool false, .bool false, .bool false, .bool false, .bool false, .bool false, .bool false, .bool false, .bool false, .bool false, .bool false, .bool false, .bool false, .bool false, .bool false, .bool false, .bool false, .bool false, .bool false, .bool false, .bool false, .bool false, .bool false, .bool false, .bool false, .bool false, .bool false, .bool false, .bool false, .bool false, .bool false, .bool false, .bool false, .bool false, .bool false, .bool false, .bool false, .bool false, .bool false, .bool false, .bool false, .bool false, .bool false, .bool false, .bool false, .bool false, .bool false, .bool false, .bool false, .bool false, .bool false, .bool false, .bool false, .bool false, .bool false, .bool false, .bool false, .bool false, .bool false, .bool false, .bool false, .bool false, .bool false, .bool false, .bool false, .bool false, .bool false, .bool false, .bool false, .bool false, .bool false, .bool false, .bool false, .bool false, .bool false, .bool false, .bool false, .bool false, .bool false, .bool false, .bool false, .bool false, .bool false, .bool false, .bool false, .bool false, .bool false, .bool false, .bool false, .bool false, .bool false, .bool false, .bool false, .bool false, .bool false, .bool false, .bool false, .bool false, .bool false, .bool false, .bool false, .bool false, .bool false, .bool false, .bool false, .bool false, .bool false, .bool false, .bool false, .bool false, .bool false, .bool false, .bool false, .bool false, .bool false, .bool false, .bool false, .bool false, .bool false, .bool false, .bool false, .bool false, .bool false, .bool false, .bool false, .bool false, .bool false, .bool false, .bool false, .bool false, .bool false, .bool false, .bool false, .bool false, .bool false, .bool false, .bool false, .bool false, .bool false, .bool false, .bool false, .bool false, .bool false, .bool false, .bool false, .bool false, .bool false, .bool false, .bool false, .bool false, .bool false, .bool false, .bool false, .bool false, .bool false, .bool false, .bool false]⟩) := ⟨⟨Tryd.t102, _, by kernel_rfl, rfl, rfl, rfl, rfl⟩, Tryd.underlying102⟩
theorem ty103 : tyOk Tryd.prog 103 (⟨.arr 256 4, 256, 256, [.bool false, .bool false, .bool false, .bool false, .bool false, .bool false, .bool false, .bool false, .bool false, .bool false, .bool false, .bool false, .bool false, .bool false, .bool false, .bool false, .bool false, .bool false, .bool false, .bool false, .bool false, .bool false, .bool false, .bool false, .bool false, .bool false, .bool false, .bool false, .bool false, .bool false, .bool false, .bool false, .bool false, .bool false, .bool false, .bool false, .bool false, .bool false, .bool false, .bool false, .bool false, .bool false, .bool false, .bool false, .bool false, .bool false, .bool false, .bool false, .bool false, .bool false, .bool false, .bool false, .bool false, .bool false, .bool false, .bool false, .bool false, .bool false, .bool false, .bool false, .bool false, .bool false, .bool false, .bool false, .bool false, .bool false, .bool false, .bool false, .bool false, .bool false, .bool false, .bool false, .bool false, .bool false, .bool false, .bool false, .bool false, .bool false, .bool false, .bool false, .bool false, .bool false, .bool false, .bool false, .bool false, .bool false, .bool false, .bool false, .bool false, .bool false, .bool false, .bool false, .bool false, .bool false, .bool false, .bool false, .bool false, .bool false, .bool false, .bool false, .bool false, .bool false, .bool false, .bool false, .bool false, .bool false, .bool false, .bool false, .bool false, .bool false, .bool false, .bool false, .bool false, .bool false, .bool false, .bool false, .bool false, .bool false, .bool false, .bool false, .bool false, .bool false, .bool false, .bool false, .bool false, .bool false, .bool false, .bool false, .bool false, .bool false, .bool false, .bool false, .bool false, .bool false, .bool false, .bool false, .bool false, .bool false, .bool false, .bool false, .bool false, .bool false, .bool false, .bool false, .bool false, .bool false, .bool false, .bool false, .bool false, .bool false, .bool false, .bool false, .bool false, .bool false, .bool false, .bool false, .bool false, .bool false, .bool false, .bool false, .bool false, .bool false, .bool false, .bool false, .bool false, .bool false, .bool false, .bool false, .bool false, .bool false, .bool false, .bool false, .bool false, .bool false, .bool false, .bool false, .bool false, .bool false, .bool false, .bool false, .bool false, .bool false, .bool false, .bool false, .bool false, .bool false, .bool false, .bool false, .bool false, .bool false, .bool false, .bool false, .bool false, .bool false, .bool false, .bool false, .bool false, .bool false, .bool false, .bool false, .bool false, .bool false, .bool false, .bool false, .bool false, .bool false, .bool false, .bool false, .bool false, .bool false, .bool false, .bool false, .bool false, .bool false, .bool false, .bool false, .bool false, .bool false, .bool false, .bool false, .bool false, .bool false, .bool false, .bool false, .bool false, .bool false, .bool false, .bool false, .bool false, .bool false, .bool false, .bool false, .bool false, .bool false, .bool false, .bool false, .bool false, .bool false, .bool false, .bool false, .bool false, .bool false, .bool false, .bool false, .bool false, .bool false, .bool false, .bool false, .bool false, .bool false, .bool false, .bool false, .bool false, .bool false, .bool false, .bool false]⟩) := ⟨⟨Tryd.t103, _, by kernel_rfl, rfl, rfl, rfl, rfl⟩, Tryd.underlying103⟩
theorem ty104 : tyOk Tryd.prog 104 (⟨.other, 0, 0, []⟩) := rfl
theorem ty105 : tyOk Tryd.prog 105 (⟨.fn, 1, 8, [.nilFunc]⟩) := ⟨⟨Tryd.t105, _, by kernel_rfl, rfl, rfl, rfl, rfl⟩, ⟨_, _, _, Tryd.underlying105⟩⟩
theorem ty106 : tyOk Tryd.prog 106 (⟨.fn, 1, 8, [.nilFunc]⟩) := ⟨⟨Tryd.t106, _, by kernel_rfl, rfl, rfl, rfl, rfl⟩, ⟨_, _, _, Tryd.underlying106⟩⟩
theorem ty107 : tyOk Tryd.prog 107 (⟨.ptr, 1, 8, [.pointer none]⟩) := ⟨⟨Tryd.t107, _, by kernel_rfl, rfl, rfl, rfl, rfl⟩, ⟨_, Tryd.underlying107⟩⟩
theorem ty108 : tyOk Tryd.prog 108 (⟨.int .i64, 1, 8, [.int .i64 0]⟩) := ⟨⟨Tryd.t108, _, by kernel_rfl, rfl, rfl, rfl, rfl⟩, Tryd.underlying108⟩
theorem ty109 : tyOk Tryd.prog 109 (⟨.fn, 1, 8, [.nilFunc]⟩) := ⟨⟨Tryd.t109, _, by kernel_rfl, rfl, rfl, rfl, rfl⟩, ⟨_, _, _, Tryd.underlying109⟩⟩
theorem ty110 : tyOk Tryd.prog 110 (⟨.ptr, 1, 8, [.pointer none]⟩) := ⟨⟨Tryd.t110, _, by kernel_rfl, rfl, rfl, rfl, rfl⟩, ⟨_, Tryd.underlying110⟩⟩
theorem ty111 : tyOk Tryd.prog 111 (⟨.fn, 1, 8, [.nilFunc]⟩) := ⟨⟨Tryd.t111, _, by kernel_rfl, rfl, rfl, rfl, rfl⟩, ⟨_, _, _, Tryd.underlying111⟩⟩
theorem ty112 : tyOk Tryd.prog 112 (⟨.fn, 1, 8, [.nilFunc]⟩) := ⟨⟨Tryd.t112, _, by kernel_rfl, rfl, rfl, rfl, rfl⟩, ⟨_, _, _, Tryd.underlying112⟩⟩
theorem ty113 : tyOk Tryd.prog 113 (⟨.fn, 1, 8, [.nilFunc]⟩) := ⟨⟨Tryd.t113, _, by kernel_rfl, rfl, rfl, rfl, rfl⟩, ⟨_, _, _, Tryd.underlying113⟩⟩
theorem ty114 : tyOk Tryd.prog 114 (⟨.fn, 1, 8, [.nilFunc]⟩) := ⟨⟨Tryd.t114, _, by kernel_rfl, rfl, rfl, rfl, rfl⟩, ⟨_, _, _, Tryd.underlying114⟩⟩
theorem ty115 : tyOk Tryd.prog 115 (⟨.fn, 1, 8, [.nilFunc]⟩) := ⟨⟨Tryd.t115, _, by kernel_rfl, rfl, rfl, rfl, rfl⟩, ⟨_, _, _, Tryd.underlying115⟩⟩
theorem ty116 : tyOk Tryd.prog 116 (⟨.arr 20 47, 20, 160, [.int .u64 0, .int .u64 0, .int .u64 0, .int .u64 0, .int .u64 0, .int .u64 0, .int .u64 0, .int .u64 0, .int .u64 0, .int .u64 0, .int .u64 0, .int .u64 0, .int .u64 0, .int .u64 0, .int .u64 0, .int .u64 0, .int .u64 0, .int .u64 0, .int .u64 0, .int .u64 0]⟩) := ⟨⟨Tryd.t116, _, by kernel_rfl, rfl, rfl, rfl, rfl⟩, Tryd.underlying116⟩
theorem ty117 : tyOk Tryd.prog 117 (⟨.arr 65 5, 65, 65, [.int .u8 0, .int .u8 0, .int .u8 0, .int .u8 0, .int .u8 0, .int .u8 0, .int .u8 0, .int .u8 0, .int .u8 0, .int .u8 0, .int .u8 0, .int .u8 0, .int .u8 0, .int .u8 0, .int .u8 0, .int .u8 0, .int .u8 0, .int .u8 0, .int .u8 0, .int .u8 0, .int .u8 0, .int .u8 0, .int .u8 0, .int .u8 0, .int .u8 0, .int .u8 0, .int .u8 0, .int .u8 0, .int .u8 0, .int .u8 0, .int .u8 0, .int .u8 0, .int .u8 0, .int .u8 0, .int .u8 0, .int .u8 0, .int .u8 0, .int .u8 0, .int .u8 0, .int .u8 0, .int .u8 0, .int .u8 0, .int .u8 0, .int .u8 0, .int .u8 0, .int .u8 0, .int .u8 0, .int .u8 0, .int .u8 0, .int .u8 0, .int .u8 0, .int .u8 0, .int .u8 0, .int .u8 0, .int .u8 0, .int .u8 0, .int .u8 0, .int .u8 0, .int .u8 0, .int .u8 0, .int .u8 0, .int .u8 0, .int .u8 0, .int .u8 0, .int .u8 0]⟩) := ⟨⟨Tryd.t117, _, by kernel_rfl, rfl, rfl, rfl, rfl⟩, Tryd.underlying117⟩
theorem ty118 : tyOk Tryd.prog 118 (⟨.fn, 1, 8, [.nilFunc]⟩) := ⟨⟨Tryd.t118, _, by kernel_rfl, rfl, rfl, rfl, rfl⟩, ⟨_, _, _, Tryd.underlying118⟩⟩
theorem ty119 : tyOk Tryd.prog 119 (⟨.fn, 1, 8, [.nilFunc]⟩) := ⟨⟨Tryd.t119, _, by kernel_rfl, rfl, rfl, rfl, rfl⟩, ⟨_, _, _, Tryd.underlying119⟩⟩
theorem ty120 : tyOk Tryd.prog 120 (⟨.fn, 1, 8, [.nilFunc]⟩) := ⟨⟨Tryd.t120, _, by kernel_rfl, rfl, rfl, rfl, rfl⟩, ⟨_, _, _, Tryd.underlying120⟩⟩
theorem ty121 : tyOk Tryd.prog 121 (⟨.fn, 1, 8, [.nilFunc]⟩) := ⟨⟨Tryd.t121, _, by kernel_rfl, rfl, rfl, rfl, rfl⟩, ⟨_, _, _, Tryd.underlying121⟩⟩
theorem ty122 : tyOk Tryd.prog 122 (⟨.other, 0, 0, []⟩) := rfl
theorem ty123 : tyOk Tryd.prog 123 (⟨.fn, 1, 8, [.nilFunc]⟩) := ⟨⟨Tryd.t123, _, by kernel_rfl, rfl, rfl, rfl, rfl⟩, ⟨_, _, _, Tryd.underlying123⟩⟩
theorem ty124 : tyOk Tryd.prog 124 (⟨.fn, 1, 8, [.nilFunc]⟩) := ⟨⟨Tryd.t124, _, by kernel_rfl, rfl, rfl, rfl, rfl⟩, ⟨_, _, _, Tryd.underlying124⟩⟩
theorem ty125 : tyOk Tryd.prog 125 (⟨.fn, 1, 8, [.nilFunc]⟩) := ⟨⟨Tryd.t125, _, by kernel_rfl, rfl, rfl, rfl, rfl⟩, ⟨_, _, _, Tryd.underlying125⟩⟩
theorem ty126 : tyOk Tryd.prog 126 (⟨.st [(0, 9), (1, 9), (2, 45)], 3, 48, [.string ⟨#[]⟩, .string ⟨#[]⟩, .nilIface]⟩) := ⟨⟨Tryd.t126, _, by kernel_rfl, rfl, rfl, rfl, rfl⟩, ⟨_, [(0, 1), (1, 1), (2, 1)], Tryd.underlying126, by kernel_rfl, by kernel_rfl⟩⟩
theorem ty127 : tyOk Tryd.prog 127 (⟨.st [(0, 9), (1, 9), (2, 45)], 3, 48, [.string ⟨#[]⟩, .string ⟨#[]⟩, .nilIface]⟩) := ⟨⟨Tryd.t127, _, by kernel_rfl, rfl, rfl, rfl, rfl⟩, ⟨_, [(0, 1), (1, 1), (2, 1)], Tryd.underlying127, by kernel_rfl, by kernel_rfl⟩⟩
theorem ty128 : tyOk Tryd.prog 128 (⟨.fn, 1, 8, [.nilFunc]⟩) := ⟨⟨Tryd.t128, _, by kernel_rfl, rfl, rfl, rfl, rfl⟩, ⟨_, _, _, Tryd.underlying128⟩⟩
theorem ty129 : tyOk Tryd.prog 129 (⟨.fn, 1, 8, [.nilFunc]⟩) := ⟨⟨Tryd.t129, _, by kernel_rfl, rfl, rfl, rfl, rfl⟩, ⟨_, _, _, Tryd.underlying129⟩⟩
theorem ty130 : tyOk Tryd.prog 130 (⟨.other, 0, 0, []⟩) := rfl
theorem ty131 : tyOk Tryd.prog 131 (⟨.fn, 1, 8, [.nilFunc]⟩) := ⟨⟨Tryd.t131, _, by kernel_rfl, rfl, rfl, rfl, rfl⟩, ⟨_, _, _, Tryd.underlying131⟩⟩
theorem ty132 : tyOk Tryd.prog 132 (⟨.fn, 1, 8, [.nilFunc]⟩) := ⟨⟨Tryd.t132, _, by kernel_rfl, rfl, rfl, rfl, rfl⟩, ⟨_, _, _, Tryd.underlying132⟩⟩
theorem ty133 : tyOk Tryd.prog 133 (⟨.ptr, 1, 8, [.pointer none]⟩) := ⟨⟨Tryd.t133, _, by kernel_rfl, rfl, rfl, rfl, rfl⟩, ⟨_, Tryd.underlying133⟩⟩
theorem ty134 : tyOk Tryd.prog 134 (⟨.st [(0, 9)], 1, 16, [.string ⟨#[]⟩]⟩) := ⟨⟨Tryd.t134, _, by kernel_rfl, rfl, rfl, rfl, rfl⟩, ⟨_, [(0, 1)], Tryd.underlying134, by kernel_rfl, by kernel_rfl⟩⟩
theorem ty135 : tyOk Tryd.prog 135 (⟨.st [(0, 9)], 1, 16, [.string ⟨#[]⟩]⟩) := ⟨⟨Tryd.t135, _, by kernel_rfl, rfl, rfl, rfl, rfl⟩, ⟨_, [(0, 1)], Tryd.underlying135, by kernel_rfl, by kernel_rfl⟩⟩
theorem ty136 : tyOk Tryd.prog 136 (⟨.arr 32 5, 32, 32, [.int .u8 0, .int .u8 0, .int .u8 0, .int .u8 0, .int .u8 0, .int .u8 0, .int .u8 0, .int .u8 0, .int .u8 0, .int .u8 0, .int .u8 0, .int .u8 0, .int .u8 0, .int .u8 0, .int .u8 0, .int .u8 0, .int .u8 0, .int .u8 0, .int .u8 0, .int .u8 0, .int .u8 0, .int .u8 0, .int .u8 0, .int .u8 0, .int .u8 0, .int .u8 0, .int .u8 0, .int .u8 0, .int .u8 0, .int .u8 0, .int .u8 0, .int .u8 0]⟩) := ⟨⟨Tryd.t136, _, by kernel_rfl, rfl, rfl, rfl, rfl⟩, Tryd.underlying136⟩
theorem ty137 : tyOk Tryd.prog 137 (⟨.arr 64 5, 64, 64, [.int .u8 0, .int .u8 0, .int .u8 0, .int .u8 0, .int .u8 0, .int .u8 0, .int .u8 0, .int .u8 0, .int .u8 0, .int .u8 0, .int .u8 0, .int .u8 0, .int .u8 0, .int .u8 0, .int .u8 0, .int .u8 0, .int .u8 0, .int .u8 0, .int .u8 0, .int .u8 0, .int .u8 0, .int .u8 0, .int .u8 0, .int .u8 0, .int .u8 0, .int .u8 0, .int .u8 0, .int .u8 0, .int .u8 0, .int .u8 0, .int .u8 0, .int .u8 0, .int .u8 0, .int .u8 0, .int .u8 0, .int .u8 0, .int .u8 0, .int .u8 0, .int .u8 0, .int .u8 0, .int .u8 0, .int .u8 0, .int .u8 0, .int .u8 0, .int .u8 0, .int .u8 0, .int .u8 0, .int .u8 0, .int .u8 0, .int .u8 0, .int .u8 0, .int .u8 0, .int .u8 0, .int .u8 0, .int .u8 0, .int .u8 0, .int .u8 0, .int .u8 0, .int .u8 0, .int .u8 0, .int .u8 0, .int .u8 0, .int .u8 0, .int .u8 0]⟩) := ⟨⟨Tryd.t137, _, by kernel_rfl, rfl, rfl, rfl, rfl⟩, Tryd.underlying137⟩
theorem ty138 : tyOk Tryd.prog 138 (⟨.arr 256 5, 256, 256, [.int .u8 0, .int .u8 0, .int .u8 0, .int .u8 0, .int .u8 0, .int .u8 0, .int .u8 0, .int .u8 0, .int .u8 0, .int .u8 0, .int .u8 0, .int .u8 0, .int .u8 0, .int .u8 0, .int .u8 0, .int .u8 0, .int .u8 0, .int .u8 0, .int .u8 0, .int .u8 0, .int .u8 0, .int .u8 0, .int .u8 0, .int .u8 0, .int .u8 0, .int .u8 0, .int .u8 0, .int .u8 0, .int .u8 0, .int .u8 0, .int .u8 0, .int .u8 0, .int .u8 0, .int .u8 0, .int .u8 0, .int .u8 0, .int .u8 0, .int .u8 0, .int .u8 0, .int .u8 0, .int .u8 0, .int .u8 0, .int .u8 0, .int .u8 0, .int .u8 0, .int .u8 0, .int .u8 0, .int .u8 0, .int .u8 0, .int .u8 0, .int .u8 0, .int .u8 0, .int .u8 0, .int .u8 0, .int .u8 0, .int .u8 0, .int .u8 0, .int .u8 0, .int .u8 0, .int .u8 0, .int .u8 0, .int .u8 0, .int .u8 0, .int .u8 0, .int .u8 0, .int .u8 0, .int .u8 0, .int .u8 0, .int .u8 0, .int .u8 0, .int .u8 0, .int .u8 0, .int .u8 0, .int .u8 0, .int .u8 0, .int .u8 0, .int .u8 0, .int .u8 0, .int .u8 0, .int .u8 0, .int .u8 0, .int .u8 0, .int .u8 0, .int .u8 0, .int .u8 0, .int .u8 0, .int .u8 0, .int .u8 0, .int .u8 0, .int .u8 0, .int .u8 0, .int .u8 0, .int .u8 0, .int .u8 0, .int .u8 0, .int .u8 0, .int .u8 0, .int .u8 0, .int .u8 0, .int .u8 0, .int .u8 0, .int .u8 0, .int .u8 0, .int .u8 0, .int .u8 0, .int .u8 0, .int .u8 0, .int .u8 0, .int .u8 0, .int .u8 0, .int .u8 0, .int .u8 0, .int .u8 0, .int .u8 0, .int .u8 0, .int .u8 0, .int .u8 0, .int .u8 0, .int .u8 0, .int .u8 0, .int .u8 0, .int .u8 0, .int .u8 0, .int .u8 0, .int .u8 0, .int .u8 0, .int .u8 0, .int .u8 0, .int .u8 0, .int .u8 0, .int .u8 0, .int .u8 0, .int .u8 0, .int .u8 0, .int .u8 0, .int .u8 0, .int .u8 0, .int .u8 0, .int .u8 0, .int .u8 0, .int .u8 0, .int .u8 0, .int .u8 0, .int .u8 0, .int .u8 0, .int .u8 0, .int .u8 0, .int .u8 0, .int .u8 0, .int .u8 0, .int .u8 0, .int .u8 0, .int .u8 0, .int .u8 0, .int .u8 0, .int .u8 0, .int .u8 0, .int .u8 0, .int .u8 0, .int .u8 0, .int .u8 0, .int .u8 0, .int .u8 0, .int .u8 0, .int .u8 0, .int .u8 0, .int .u8 0, .int .u8 0, .int .u8 0, .int .u8 0, .int .u8 0, .int .u8 0, .int .u8 0, .int .u8 0, .int .u8 0, .int .u8 0, .int .u8 0, .int .u8 0, .int .u8 0, .int .u8 0, .int .u8 0, .int .u8 0, .int .u8 0, .int .u8 0, .int .u8 0, .int .u8 0, .int .u8 0, .int .u8 0, .int .u8 0, .int .u8 0, .int .u8 0, .int .u8 0, .int .u8 0, .int .u8 0, .int .u8 0, .int .u8 0, .int .u8 0, .int .u8 0, .int .u8 0, .int .u8 0, .int .u8 0, .int .u8 0, .int .u8 0, .int .u8 0, .int .u8 0, .int .u8 0, .int .u8 0, .int .u8 0, .int .u8 0, .int .u8 0, .int .u8 0, .int .u8 0, .int .u8 0, .int .u8 0, .int .u8 0, .int .u8 0, .int .u8 0, .int .u8 0, .int .u8 0, .int .u8 0, .int .u8 0, .int .u8 0, .int .u8 0, .int .u8 0, .int .u8 0, .int .u8 0, .int .u8 0, .int .u8 0, .int .u8 0, .int .u8 0, .int .u8 0, .int .u8 0, .int .u8 0, .int .u8 0, .int .u8 0, .int .u8 0, .int .u8 0, .int .u8 0, .int .u8 0, .int .u8 0, .int .u8 0, .int .u8 0, .int .u8 0, .int .u8 0, .int .u8 0, .int .u8 0, .int .u8 0, .int .u8 0, .int .u8 0, .int .u8 0, .int .u8 0, .int .u8 0, .int .u8 0, .int .u8 0, .int .u8 0, .int .u8 0]⟩) := ⟨⟨Tryd.t138, _, by kernel_rfl, rfl, rfl, rfl, rfl⟩, Tryd.underlying138⟩
theorem ty139 : tyOk Tryd.prog 139 (⟨.st [(0, 5), (1, 5)], 2, 2, [.int .u8 0, .int .u8 0]⟩) := ⟨⟨Tryd.t139, _, by kernel_rfl, rfl, rfl, rfl, rfl⟩, ⟨_, [(0, 1), (1, 1)], Tryd.underlying139, by kernel_rfl, by kernel_rfl⟩⟩
theorem ty140 : tyOk Tryd.prog 140 (⟨.st [(0, 5), (1, 5)], 2, 2, [.int .u8 0, .int .u8 0]⟩) := ⟨⟨Tryd.t140, _, by kernel_rfl, rfl, rfl, rfl, rfl⟩, ⟨_, [(0, 1), (1, 1)], Tryd.underlying140, by kernel_rfl, by kernel_rfl⟩⟩
theorem ty141 : tyOk Tryd.prog 141 (⟨.arr 16 140, 32, 32, [.int .u8 0, .int .u8 0, .int .u8 0, .int .u8 0, .int .u8 0, .int .u8 0, .int .u8 0, .int .u8 0, .int .u8 0, .int .u8 0, .int .u8 0, .int .u8 0, .int .u8 0, .int .u8 0, .int .u8 0, .int .u8 0, .int .u8 0, .int .u8 0, .int .u8 0, .int .u8 0, .int .u8 0, .int .u8 0, .int .u8 0, .int .u8 0, .int .u8 0, .int .u8 0, .int .u8 0, .int .u8 0, .int .u8 0, .int .u8 0, .int .u8 0, .int .u8 0]⟩) := ⟨⟨Tryd.t141, _, by kernel_rfl, rfl, rfl, rfl, rfl⟩, Tryd.underlying141⟩
theorem ty142 : tyOk Tryd.prog 142 (⟨.fn, 1, 8, [.nilFunc]⟩) := ⟨⟨Tryd.t142, _, by kernel_rfl, rfl, rfl, rfl, rfl⟩, ⟨_, _, _, Tryd.underlying142⟩⟩
theorem ty143 : tyOk Tryd.prog 143 (⟨.fn, 1, 8, [.nilFunc]⟩) := ⟨⟨Tryd.t143, _, by kernel_rfl, rfl, rfl, rfl, rfl⟩, ⟨_, _, _, Tryd.underlying143⟩⟩
theorem ty144 : tyOk Tryd.prog 144 (⟨.st [(0, 17), (1, 17), (2, 17), (3, 9)], 4, 40, [.pointer none, .pointer none, .pointer none, .string ⟨#[]⟩]⟩) := ⟨⟨Tryd.t144, _, by kernel_rfl, rfl, rfl, rfl, rfl⟩, ⟨_, [(0, 1), (1, 1), (2, 1), (3, 1)], Tryd.underlying144, by kernel_rfl, by kernel_rfl⟩⟩
theorem ty145 : tyOk Tryd.prog 145 (⟨.st [(0, 17), (1, 17), (2, 17), (3, 9)], 4, 40, [.pointer none, .pointer none, .pointer none, .string ⟨#[]⟩]⟩) := ⟨⟨Tryd.t145, _, by kernel_rfl, rfl, rfl, rfl, rfl⟩, ⟨_, [(0, 1), (1, 1), (2, 1), (3, 1)], Tryd.underlying145, by kernel_rfl, by kernel_rfl⟩⟩
theorem ty146 : tyOk Tryd.prog 146 (⟨.arr 0 16, 0, 0, []⟩) := ⟨⟨Tryd.t146, _, by kernel_rfl, rfl, rfl, rfl, rfl⟩, Tryd.underlying146⟩
theorem ty147 : tyOk Tryd.prog 147 (⟨.st [(0, 146)], 0, 0, []⟩) := ⟨⟨Tryd.t147, _, by kernel_rfl, rfl, rfl, rfl, rfl⟩, ⟨_, [(0, 0)], Tryd.underlying147, by kernel_rfl, by kernel_rfl⟩⟩
theorem ty148 : tyOk Tryd.prog 148 (⟨.st [(0, 146)], 0, 0, []⟩) := ⟨⟨Tryd.t148, _, by kernel_rfl, rfl, rfl, rfl, rfl⟩, ⟨_, [(0, 0)], Tryd.underlying148, by kernel_rfl, by kernel_rfl⟩⟩
theorem ty149 : tyOk Tryd.prog 149 (⟨.fn, 1, 8, [.nilFunc]⟩) := ⟨⟨Tryd.t149, _, by kernel_rfl, rfl, rfl, rfl, rfl⟩, ⟨_, _, _, Tryd.underlying149⟩⟩
theorem ty150 : tyOk Tryd.prog 150 (⟨.int .u8, 1, 1, [.int .u8 0]⟩) := ⟨⟨Tryd.t150, _, by kernel_rfl, rfl, rfl, rfl, rfl⟩, Tryd.underlying150⟩
theorem ty151 : tyOk Tryd.prog 151 (⟨.int .u8, 1, 1, [.int .u8 0]⟩) := ⟨⟨Tryd.t151, _, by kernel_rfl, rfl, rfl, rfl, rfl⟩, Tryd.underlying151⟩
theorem ty152 : tyOk Tryd.prog 152 (⟨.fn, 1, 8, [.nilFunc]⟩) := ⟨⟨Tryd.t152, _, by kernel_rfl, rfl, rfl, rfl, rfl⟩, ⟨_, _, _, Tryd.underlying152⟩⟩
theorem ty153 : tyOk Tryd.prog 153 (⟨.int .i32, 1, 4, [.int .i32 0]⟩) := ⟨⟨Tryd.t153, _, by kernel_rfl, rfl, rfl, rfl, rfl⟩, Tryd.underlying153⟩
theorem ty154 : tyOk Tryd.prog 154 (⟨.int .i32, 1, 4, [.int .i32 0]⟩) := ⟨⟨Tryd.t154, _, by kernel_rfl, rfl, rfl, rfl, rfl⟩, Tryd.underlying154⟩
theorem ty155 : tyOk Tryd.prog 155 (⟨.st [(0, 12), (1, 12), (2, 68), (3, 150), (4, 5), (5, 5), (6, 151), (7, 152), (8, 81), (9, 153), (10, 154)], 11, 48, [.int .u64 0, .int .u64 0, .int .u32 0, .int .u8 0, .int .u8 0, .int .u8 0, .int .u8 0, .nilFunc, .pointer none, .int .i32 0, .int .i32 0]⟩) := ⟨⟨Tryd.t155, _, by kernel_rfl, rfl, rfl, rfl, rfl⟩, ⟨_, [(0, 1), (1, 1), (2, 1), (3, 1), (4, 1), (5, 1), (6, 1), (7, 1), (8, 1), (9, 1), (10, 1)], Tryd.underlying155, by kernel_rfl, by kernel_rfl⟩⟩
theorem ty156 : tyOk Tryd.prog 156 (⟨.st [(0, 12), (1, 12), (2, 68), (3, 150), (4, 5), (5, 5), (6, 151), (7, 152), (8, 81), (9, 153), (10, 154)], 11, 48, [.int .u64 0, .int .u64 0, .int .u32 0, .int .u8 0, .int .u8 0, .int .u8 0, .int .u8 0, .nilFunc, .pointer none, .int .i32 0, .int .i32 0]⟩) := ⟨⟨Tryd.t156, _, by kernel_rfl, rfl, rfl, rfl, rfl⟩, ⟨_, [(0, 1), (1, 1), (2, 1), (3, 1), (4, 1), (5, 1), (6, 1), (7, 1), (8, 1), (9, 1), (10, 1)], Tryd.underlying156, by kernel_rfl, by kernel_rfl⟩⟩
theorem ttok : TTok Tryd.prog tt := fun t => match t with
  | 0 => ty0
  | 1 => ty1
  | 2 => ty2
  | 3 => ty3
  | 4 => ty4
  | 5 => ty5
  | 6 => ty6
  | 7 => ty7
  | 8 => ty8
  | 9 => ty9
  | 10 => ty10
  | 11 => ty11
  | 12 => ty12
  | 13 => ty13
  | 14 => ty14
  | 15 => ty15
  | 16 => ty16
  | 17 => ty17
  | 18 => ty18
  | 19 => ty19
  | 20 => ty20
  | 21 => ty21
  | 22 => ty22
  | 23 => ty23
  | 24 => ty24
  | 25 => ty25
  | 26 => ty26
  | 27 => ty27
  | 28 => ty28
  | 29 => ty29
  | 30 => ty30
  | 31 => ty31
  | 32 => ty32
  | 33 => ty33
  | 34 => ty34
  | 35 => ty35
  | 36 => ty36
  | 37 => ty37
  | 38 => ty38
  | 39 => ty39
  | 40 => ty40
  | 41 => ty41
  | 42 => ty42
  | 43 => ty43
  | 44 => ty44
  | 45 => ty45
  | 46 => ty46
  | 47 => ty47
  | 48 => ty48
  | 49 => ty49
  | 50 => ty50
  | 51 => ty51
  | 52 => ty52
  | 53 => ty53
  | 54 => ty54
  | 55 => ty55
  | 56 => ty56
  | 57 => ty57
  | 58 => ty58
  | 59 => ty59
  | 60 => ty60
  | 61 => ty61
  | 62 => ty62
  | 63 => ty63
  | 64 => ty64
  | 65 => ty65
  | 66 => ty66
  | 67 => ty67
  | 68 => ty68
  | 69 => ty69
  | 70 => ty70
  | 71 => ty71
  | 72 => ty72
  | 73 => ty73
  | 74 => ty74
  | 75 => ty75
  | 76 => ty76
  | 77 => ty77
  | 78 => ty78
  | 79 => ty79
  | 80 => ty80
  | 81 => ty81
  | 82 => ty82
  | 83 => ty83
  | 84 => ty84
  | 85 => ty85
  | 86 => ty86
  | 87 => ty87
  | 88 => ty88
  | 89 => ty89
  | 90 => ty90
  | 91 => ty91
  | 92 => ty92
  | 93 => ty93
  | 94 => ty94
  | 95 => ty95
  | 96 => ty96
  | 97 => ty97
  | 98 => ty98
  | 99 => ty99
  | 100 => ty100
  | 101 => ty101
  | 102 => ty102
  | 103 => ty103
  | 104 => ty104
  | 105 => ty105
  | 106 => ty106
  | 107 => ty107
  | 108 => ty108
  | 109 => ty109
  | 110 => ty110
  | 111 => ty111
  | 112 => ty112
  | 113 => ty113
  | 114 => ty114
  | 115 => ty115
  | 116 => ty116
  | 117 => ty117
  | 118 => ty118
  | 119 => ty119
  | 120 => ty120
  | 121 => ty121
  | 122 => ty122
  | 123 => ty123
  | 124 => ty124
  | 125 => ty125
  | 126 => ty126
  | 127 => ty127
  | 128 => ty128
  | 129 => ty129
  | 130 => ty130
  | 131 => ty131
  | 132 => ty132
  | 133 => ty133
  | 134 => ty134
  | 135 => ty135
  | 136 => ty136
  | 137 => ty137
  | 138 => ty138
  | 139 => ty139
  | 140 => ty140
  | 141 => ty141
  | 142 => ty142
  | 143 => ty143
  | 144 => ty144
  | 145 => ty145
  | 146 => ty146
  | 147 => ty147
  | 148 => ty148
  | 149 => ty149
  | 150 => ty150
  | 151 => ty151
  | 152 => ty152
  | 153 => ty153
  | 154 => ty154
  | 155 => ty155
  | 156 => ty156
  | _ + 157 => rfl

noncomputable def cf : Cfg := { P := Tryd.prog, tt := tt, fns := [3, 4, 5, 6, 7, 8, 9, 10, 11, 12, 13, 14, 15, 16, 17, 18, 19, 20, 21, 22, 23, 24, 25, 26, 27, 28, 29, 30, 31, 32, 33, 34, 35, 36, 37, 38, 39, 40, 41, 42, 43, 44, 45, 46, 47, 48, 49, 50, 51, 52, 53, 54, 55, 56, 57, 58, 59, 60, 61, 62, 64, 65, 66, 67, 68, 69, 70, 71, 72, 73, 74, 75, 76, 77, 78, 79, 80, 81, 82, 83, 84, 85, 86, 87, 88, 89, 91, 92, 93, 94, 95, 96, 97, 98, 99, 100, 101, 102, 104, 105, 106, 107, 108, 109, 110, 111, 142] }

theorem cfok : CfgOk cf where
  mix := by kernel_rfl
  tt := ttok
  fns := List.forall_mem_cons.2 ⟨Tryd.call3, List.forall_mem_cons.2 ⟨Tryd.call4, List.forall_mem_cons.2 ⟨Tryd.call5, List.forall_mem_cons.2 ⟨Tryd.call6, List.forall_mem_cons.2 ⟨Tryd.call7, List.forall_mem_cons.2 ⟨Tryd.call8, List.forall_mem_cons.2 ⟨Tryd.call9, List.forall_mem_cons.2 ⟨Tryd.call10, List.forall_mem_cons.2 ⟨Tryd.call11, List.forall_mem_cons.2 ⟨Tryd.call12, List.forall_mem_cons.2 ⟨Tryd.call13, List.forall_mem_cons.2 ⟨Tryd.call14, List.forall_mem_cons.2 ⟨Tryd.call15, List.forall_mem_cons.2 ⟨Tryd.call16, List.forall_mem_cons.2 ⟨Tryd.call17, List.forall_mem_cons.2 ⟨Tryd.call18, List.forall_mem_cons.2 ⟨Tryd.call19, List.forall_mem_cons.2 ⟨Tryd.call20, List.forall_mem_cons.2 ⟨Tryd.call21, List.forall_mem_cons.2 ⟨Tryd.call22, List.forall_mem_cons.2 ⟨Tryd.call23, List.forall_mem_cons.2 ⟨Tryd.call24, List.forall_mem_cons.2 ⟨Tryd.call25, List.forall_mem_cons.2 ⟨Tryd.call26, List.forall_mem_cons.2 ⟨Tryd.call27, List.forall_mem_cons.2 ⟨Tryd.call28, List.forall_mem_cons.2 ⟨Tryd.call29, List.forall_mem_cons.2 ⟨Tryd.call30, List.forall_mem_cons.2 ⟨Tryd.call31, List.forall_mem_cons.2 ⟨Tryd.call32, List.forall_mem_cons.2 ⟨Tryd.call33, List.forall_mem_cons.2 ⟨Tryd.call34, List.forall_mem_cons.2 ⟨Tryd.call35, List.forall_mem_cons.2 ⟨Tryd.call36, List.forall_mem_cons.2 ⟨Tryd.call37, List.forall_mem_cons.2 ⟨Tryd.call38, List.forall_mem_cons.2 ⟨Tryd.call39, List.forall_mem_cons.2 ⟨Tryd.call40, List.forall_mem_cons.2 ⟨Tryd.call41, List.forall_mem_cons.2 ⟨Tryd.call42, List.forall_mem_cons.2 ⟨Tryd.call43, List.forall_mem_cons.2 ⟨Tryd.call44, List.forall_mem_cons.2 ⟨Tryd.call45, List.forall_mem_cons.2 ⟨Tryd.call46, List.forall_mem_cons.2 ⟨Tryd.call47, List.forall_mem_cons.2 ⟨Tryd.call48, List.forall_mem_cons.2 ⟨Tryd.call49, List.forall_mem_cons.2 ⟨Tryd.call50, List.forall_mem_cons.2 ⟨Tryd.call51, List.forall_mem_cons.2 ⟨Tryd.call52, List.forall_mem_cons.2 ⟨Tryd.call53, List.forall_mem_cons.2 ⟨Tryd.call54, List.forall_mem_cons.2 ⟨Tryd.call55, List.forall_mem_cons.2 ⟨Tryd.call56, List.forall_mem_cons.2 ⟨Tryd.call57, List.forall_mem_cons.2 ⟨Tryd.call58, List.forall_mem_cons.2 ⟨Tryd.call59, List.forall_mem_cons.2 ⟨Tryd.call60, List.forall_mem_cons.2 ⟨Tryd.call61, List.forall_mem_cons.2 ⟨Tryd.call62, List.forall_mem_cons.2 ⟨Tryd.call64, List.forall_mem_cons.2 ⟨Tryd.call65, List.forall_mem_cons.2 ⟨Tryd.call66, List.forall_mem_cons.2 ⟨Tryd.call67, List.forall_mem_cons.2 ⟨Tryd.call68, List.forall_mem_cons.2 ⟨Tryd.call69, List.forall_mem_cons.2 ⟨Tryd.call70, List.forall_mem_cons.2 ⟨Tryd.call71, List.forall_mem_cons.2 ⟨Tryd.call72, List.forall_mem_cons.2 ⟨Tryd.call73, List.forall_mem_cons.2 ⟨Tryd.call74, List.forall_mem_cons.2 ⟨Tryd.call75, List.forall_mem_cons.2 ⟨Tryd.call76, List.forall_mem_cons.2 ⟨Tryd.call77, List.forall_mem_cons.2 ⟨Tryd.call78, List.forall_mem_cons.2 ⟨Tryd.call79, List.forall_mem_cons.2 ⟨Tryd.call80, List.forall_mem_cons.2 ⟨Tryd.call81, List.forall_mem_cons.2 ⟨Tryd.call82, List.forall_mem_cons.2 ⟨Tryd.call83, List.forall_mem_cons.2 ⟨Tryd.call84, List.forall_mem_cons.2 ⟨Tryd.call85, List.forall_mem_cons.2 ⟨Tryd.call86, List.forall_mem_cons.2 ⟨Tryd.call87, List.forall_mem_cons.2 ⟨Tryd.call88, List.forall_mem_cons.2 ⟨Tryd.call89, List.forall_mem_cons.2 ⟨Tryd.call91, List.forall_mem_cons.2 ⟨Tryd.call92, List.forall_mem_cons.2 ⟨Tryd.call93, List.forall_mem_cons.2 ⟨Tryd.call94, List.forall_mem_cons.2 ⟨Tryd.call95, List.forall_mem_cons.2 ⟨Tryd.call96, List.forall_mem_cons.2 ⟨Tryd.call97, List.forall_mem_cons.2 ⟨Tryd.call98, List.forall_mem_cons.2 ⟨Tryd.call99, List.forall_mem_cons.2 ⟨Tryd.call100, List.forall_mem_cons.2 ⟨Tryd.call101, List.forall_mem_cons.2 ⟨Tryd.call102, List.forall_mem_cons.2 ⟨Tryd.call104, List.forall_mem_cons.2 ⟨Tryd.call105, List.forall_mem_cons.2 ⟨Tryd.call106, List.forall_mem_cons.2 ⟨Tryd.call107, List.forall_mem_cons.2 ⟨Tryd.call108, List.forall_mem_cons.2 ⟨Tryd.call109, List.forall_mem_cons.2 ⟨Tryd.call110, List.forall_mem_cons.2 ⟨Tryd.call111, List.forall_mem_cons.2 ⟨Tryd.call142, List.forall_mem_nil _⟩⟩⟩⟩⟩⟩⟩⟩⟩⟩⟩⟩⟩⟩⟩⟩⟩⟩⟩⟩⟩⟩⟩⟩⟩⟩⟩⟩⟩⟩⟩⟩⟩⟩⟩⟩⟩⟩⟩⟩⟩⟩⟩⟩⟩⟩⟩⟩⟩⟩⟩⟩⟩⟩⟩⟩⟩⟩⟩⟩⟩⟩⟩⟩⟩⟩⟩⟩⟩⟩⟩⟩⟩⟩⟩⟩⟩⟩⟩⟩⟩⟩⟩⟩⟩⟩⟩⟩⟩⟩⟩⟩⟩⟩⟩⟩⟩⟩⟩⟩⟩⟩⟩⟩⟩⟩⟩

/-
  0: main.main
  1: gosem.cut
  2: gosem.cut.init
  3: calamus/calamuslaw01.FixedPrints
  4: calamus/calamuslaw01.FixedReads
  5: calamus/calamuslaw01.FixedQuotients
  6: calamus/calamuslaw01.FixedNear
  7: calamus/calamuslaw01.FixedScales
  8: calamus/calamuslaw01.FixedSums
  9: calamus/fixed.Print
  10: calamus/fixed.Read
  11: calamus/calamusref01.Print
  12: calamus/calamuslaw01.works
  13: calamus/calamusref01.Read
  14: calamus/calamusref01.Right
  15: calamus/fixed.MulDiv
  16: calamus/calamusref01.MulDiv
  17: calamus/fixed.Round
  18: calamus/calamusref01.Round
  19: calamus/fixed.Ratio
  20: calamus/fixed.Scale
  21: calamus/fixed.Add
  22: calamus/calamusref01.Add
  23: calamus/fixed.Sub
  24: calamus/calamusref01.Sub
  25: (*strings.Builder).WriteByte
  26: calamus/fixed.size
  27: (*strings.Builder).WriteString
  28: strconv.FormatUint
  29: (*strings.Builder).String
  30: strings.CutPrefix
  31: strings.Cut
  32: calamus/fixed.digits
  33: calamus/fixed.caught
  34: strconv.ParseUint
  35: calamus/fixed.Read$1
  36: calamus/fixed.signed
  37: calamus/calamusref01.size
  38: calamus/calamusref01.digits
  39: calamus/calamusref01.plus
  40: calamus/calamusref01.times
  41: calamus/calamusref01.divide
  42: calamus/calamusref01.less
  43: calamus/calamusref01.double
  44: calamus/calamusref01.plusOne
  45: calamus/calamusref01.number
  46: calamus/fixed.quotient
  47: calamus/fixed.MulDiv$1
  48: calamus/calamusref01.quotient
  49: calamus/fixed.Round$1
  50: (*strings.Builder).copyCheck
  51: internal/strconv.FormatUint
  52: internal/stringslite.CutPrefix
  53: internal/stringslite.Cut
  54: strings.Trim
  55: internal/strconv.ParseUint
  56: strconv.toError
  57: calamus/calamusref01.trim
  58: calamus/calamusref01.minus
  59: math/bits.Mul64
  60: (calamus/fixed.long).divide
  61: calamus/calamusref01.of
  62: calamus/calamusref01.zero
  63: internal/abi.NoEscape
  64: internal/strconv.small
  65: internal/strconv.numDigits
  66: internal/strconv.formatBase10
  67: internal/strconv.formatBits
  68: internal/stringslite.HasPrefix
  69: internal/stringslite.Index
  70: strings.trimLeftByte
  71: strings.trimRightByte
  72: strings.makeASCIISet
  73: strings.trimLeftASCII
  74: strings.trimRightASCII
  75: strings.trimLeftUnicode
  76: strings.trimRightUnicode
  77: internal/strconv.lower
  78: internal/strconv.underscoreOK
  79: strconv.syntaxError
  80: strconv.rangeError
  81: strconv.baseError
  82: strconv.bitSizeError
  83: math/bits.Div64
  84: internal/strconv.log10Pow2
  85: math/bits.Len64
  86: internal/strconv.bool2[int]
  87: internal/strconv.isPowerOfTwo
  88: math/bits.TrailingZeros
  89: internal/stringslite.IndexByte
  90: internal/bytealg.IndexString
  91: internal/bytealg.Cutover
  92: internal/bytealg.IndexRabinKarp[string]
  93: (*strings.asciiSet).contains
  94: unicode/utf8.DecodeRuneInString
  95: strings.ContainsRune
  96: unicode/utf8.DecodeLastRuneInString
  97: internal/stringslite.Clone
  98: errors.New
  99: strconv.Itoa
  100: math/bits.LeadingZeros64
  101: math/bits.TrailingZeros32
  102: math/bits.TrailingZeros64
  103: internal/bytealg.IndexByteString
  104: internal/bytealg.hashStr[string]
  105: unicode/utf8.decodeRuneInStringSlow
  106: strings.IndexRune
  107: unicode/utf8.RuneStart
  108: internal/strconv.Itoa
  109: strings.IndexByte
  110: unicode/utf8.ValidRune
  111: internal/strconv.FormatInt
  112: (runtime.boundsError).Error
  113: (runtime.boundsError).RuntimeError
  114: (runtime.errorString).Error
  115: (runtime.errorString).RuntimeError
  116: (runtime.plainError).Error
  117: (runtime.plainError).RuntimeError
  118: (runtime.errorAddressString).Error
  119: (runtime.errorAddressString).RuntimeError
  120: (*runtime.TypeAssertionError).Error
  121: (*runtime.TypeAssertionError).RuntimeError
  122: (*runtime.PanicNilError).Error
  123: (*runtime.PanicNilError).RuntimeError
  124: (*internal/abi.Type).Align
  125: (internal/runtime/maps.unhashableTypeError).Error
  126: (internal/runtime/maps.unhashableTypeError).RuntimeError
  127: (calamus/api.Errno).Error
  128: (*strings.Builder).Reset
  129: (internal/strconv.Error).Error
  130: (*strconv.NumError).Error
  131: (*errors.errorString).Error
  132: (internal/abi.Kind).String
  142: gosem.cut.vars
-/
end Go.Proofs.YtfjkajlkehjnnaaDoor
