/- What is put is read again: plain Lean. -/
import Derived.Test.YtalploampmdemaaR6
namespace Go.Proofs.Ytalploampmdemaa
open Go Go.Eng Go.RowKit

theorem or_bytes (x y : Nat) (hy : y < 256) : x * 256 ||| y = x * 256 + y := by
  rw [Nat.mul_comm]
  exact (Nat.two_pow_add_eq_or_of_lt (i := 8) hy x).symm
theorem or32 (x y : Nat) (hx : x < 256) (hy : y < 256) : bitsV .or .u32 ((x * 256 : Nat) : Int) ((y : Nat) : Int) = ((x * 256 + y : Nat) : Int) := by
  show IntKind.u32.wrap (((BitVec.ofInt 32 ((x * 256 : Nat) : Int)) ||| (BitVec.ofInt 32 ((y : Nat) : Int))).toNat : Int) = _
  rw [BitVec.toNat_or, BitVec.ofInt_natCast, BitVec.ofInt_natCast, BitVec.toNat_ofNat, BitVec.toNat_ofNat, Nat.mod_eq_of_lt (by omega), Nat.mod_eq_of_lt (by omega), or_bytes x y hy, IntKind.wrap_u32]
  omega
theorem or16 (x y : Nat) (hx : x < 256) (hy : y < 256) : bitsV .or .u16 ((x * 256 : Nat) : Int) ((y : Nat) : Int) = ((x * 256 + y : Nat) : Int) := by
  show IntKind.u16.wrap (((BitVec.ofInt 16 ((x * 256 : Nat) : Int)) ||| (BitVec.ofInt 16 ((y : Nat) : Int))).toNat : Int) = _
  rw [BitVec.toNat_or, BitVec.ofInt_natCast, BitVec.ofInt_natCast, BitVec.toNat_ofNat, BitVec.toNat_ofNat, Nat.mod_eq_of_lt (by omega), Nat.mod_eq_of_lt (by omega), or_bytes x y hy, IntKind.wrap_u16]
  omega
theorem numS_byte (x y : Nat) (hx : x < 256) (hy : y < 256) : numS (x : Int) (y : Int) = ((x * 256 + y : Nat) : Int) := by
  unfold numS
  have e : shlV .u32 (x : Int) 8 = ((x * 256 : Nat) : Int) := by
    show IntKind.u32.wrap ((x : Int) * 2 ^ 8) = _
    rw [IntKind.wrap_u32]; omega
  rw [e, show IntKind.u32.wrap (y : Int) = (y : Int) from by rw [IntKind.wrap_u32]; omega]
  exact or32 x y hx hy
theorem numS_zero (y : Nat) (hy : y < 256) : numS 0 (y : Int) = (y : Int) := by
  have := numS_byte 0 y (by omega) hy
  simpa using this
theorem wd_val (d : List Int) (p : Nat) (x y : Nat) (h1 : nth d p = (x : Int)) (h2 : nth d (p + 1) = (y : Int)) (hx : x < 256) (hy : y < 256) : wd d p = ((x * 256 + y : Nat) : Int) := by
  unfold wd
  rw [h1, h2, numS_zero x hx, numS_byte x y hx hy, IntKind.wrap_u16]
  omega
theorem wo_val (d : List Int) (p : Nat) (x y : Nat) (h1 : nth d p = (x : Int)) (h2 : nth d (p + 1) = (y : Int)) (hx : x < 256) (hy : y < 256) : wo d p = ((x * 256 + y : Nat) : Int) := by
  unfold wo wordOf
  show bitsV .or .u16 (shlV .u16 (IntKind.u16.wrap (nth d p)) 8) (IntKind.u16.wrap (nth d (p + 1))) = _
  have e : shlV .u16 (IntKind.u16.wrap (nth d p)) 8 = ((x * 256 : Nat) : Int) := by
    show IntKind.u16.wrap (IntKind.u16.wrap (nth d p) * 2 ^ 8) = _
    rw [h1, IntKind.wrap_u16, IntKind.wrap_u16]; omega
  rw [e, h2, show IntKind.u16.wrap (y : Int) = (y : Int) from by rw [IntKind.wrap_u16]; omega]
  exact or16 x y hx hy
end Go.Proofs.Ytalploampmdemaa
