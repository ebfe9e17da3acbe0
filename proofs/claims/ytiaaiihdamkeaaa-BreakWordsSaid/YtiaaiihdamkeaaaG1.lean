/- fixed.size, bits.Len64, LeadingZeros64, Mul64: what they compute. -/
import Derived.Test.YtiaaiihdamkeaaaA1
import Derived.Test.YtiaaiihdamkeaaaCfg
namespace Go.Proofs.Ytiaaiihdamkeaaa
open Go Go.Eng Go.RowKit Go.Ar

theorem ret1 {k : IntKind} {a b : Int} (h : a = b) : Ending.returned (.int k a) = .returned (.int k b) := by rw [h]
theorem ret2 {k k' : IntKind} {a b c d : Int} (h1 : a = c) (h2 : b = d) : Ending.returned (.tuple #[.int k a, .int k' b]) = .returned (.tuple #[.int k c, .int k' d]) := by rw [h1, h2]

theorem size_c (n : Int) (w : World) (h1 : -9223372036854775808 ≤ n) (h2 : n ≤ 9223372036854775807) : Calls Try.prog 35 #[.int .i64 n] w fun e w' => e = .returned (.int .u64 (n.natAbs : Nat)) ∧ Below w.heap.size w w' := by
  refine calls_exec (cf := cf) cfok (fn := Try.f35) Try.func35 rfl [.v (.int .i64 n)] [] (ρ := fun _ => undef) (· < w.heap.size) rfl rfl rfl (by simp [svOkL, svOk]) (memNil fun _ h => h) ?_
  refine And.intro (fun h => ?_) (fun h => ?_)
  · have h : n < 0 := by simpa using h
    refine fun ρ S w' hi => ⟨ret1 ?_, hi.below⟩
    show IntKind.u64.wrap (0 - IntKind.u64.wrap n) = _
    simp only [IntKind.wrap, IntKind.bits, IntKind.signed, Bool.false_and]
    simp
    omega
  · have h : ¬ n < 0 := by simpa using h
    refine fun ρ S w' hi => ⟨ret1 ?_, hi.below⟩
    show IntKind.u64.wrap n = _
    rw [IntWalk.u64_in _ (by omega)]; omega
theorem mul64_c (x y : Nat) (w : World) (hx : x < W) (hy : y < W) : Calls Try.prog 34 #[.int .u64 x, .int .u64 y] w fun e w' => e = .returned (.tuple #[.int .u64 ((x * y / W : Nat) : Int), .int .u64 ((x * y % W : Nat) : Int)]) ∧ Below w.heap.size w w' := by
  refine calls_exec (cf := cf) cfok (fn := Try.f34) Try.func34 rfl [.v (.int .u64 x), .v (.int .u64 y)] [] (ρ := fun _ => undef) (· < w.heap.size) rfl rfl rfl (by simp [svOkL, svOk]) (memNil fun _ h => h) ?_
  obtain ⟨p1, p2, p3, p4, p5, p6, p7, p8, p9⟩ := mul_parts hx hy
  have ax := and32 hx
  have ay := and32 hy
  have sx := shr32 x
  have sy := shr32 y
  have h32 : (0 : Int) ≤ 32 := by decide
  refine And.intro h32 ?_
  refine And.intro h32 ?_
  refine And.intro h32 ?_
  refine And.intro h32 ?_
  refine And.intro h32 ?_
  refine fun ρ S w' hi => ⟨ret2 ?_ (wmulm x y), hi.below⟩
  rw [ax, ay, sx, sy, wmul p3, wmul p4, shr32, wadd (by unfold mulT at p1; exact p1), and32 (by unfold mulT at p1; exact p1), shr32, wmul p5, wadd (by unfold mulW mulT at p2; exact p2), shr32, wmul p6, wadd (by unfold mulT at p7; exact p7), wadd (by unfold mulHi mulW mulT at p8; exact p8)]
  rw [← p9]; rfl

/-! how many bits -/
def tab8 : List Int := [0, 1, 2, 2, 3, 3, 3, 3] ++ List.replicate 8 4 ++ List.replicate 16 5 ++ List.replicate 32 6 ++ List.replicate 64 7 ++ List.replicate 128 8
def len8 (x : Nat) : Nat := if x = 0 then 0 else x.log2 + 1
def len16 (x : Nat) : Nat := if 256 ≤ x then 8 + len8 (x / 256) else len8 x
def len32 (x : Nat) : Nat := if 65536 ≤ x then 16 + len16 (x / 65536) else len16 x
def len64 (x : Nat) : Nat := if B ≤ x then 32 + len32 (x / B) else len32 x
def IsLen (x L : Nat) : Prop := x < 2 ^ L ∧ (x ≠ 0 → 2 ^ L ≤ 2 * x)
theorem isLen8 (x : Nat) : IsLen x (len8 x) := by
  unfold len8
  split
  · rename_i h; subst h; exact ⟨by decide, fun h => absurd rfl h⟩
  · rename_i h
    refine ⟨Nat.lt_log2_self, fun _ => ?_⟩
    rw [Nat.pow_succ, Nat.mul_comm]
    exact Nat.mul_le_mul_left _ (Nat.log2_self_le h)
theorem isLen_up {x L k : Nat} (h : 2 ^ k ≤ x) (hl : IsLen (x / 2 ^ k) L) : IsLen x (k + L) := by
  have hp := Nat.two_pow_pos k
  have hd := Nat.div_add_mod x (2 ^ k)
  have hm := Nat.mod_lt x hp
  obtain ⟨h1, h2⟩ := hl
  have h0 : x / 2 ^ k ≠ 0 := by
    intro e
    have := (Nat.div_eq_zero_iff_lt hp).1 e
    omega
  have h2 := h2 h0
  have h1 : x / 2 ^ k + 1 ≤ 2 ^ L := h1
  have a1 := Nat.mul_le_mul_left (2 ^ k) h1
  have a2 := Nat.mul_le_mul_left (2 ^ k) h2
  rw [Nat.mul_add] at a1
  rw [Nat.mul_left_comm] at a2
  refine ⟨by rw [Nat.pow_add]; omega, fun _ => by rw [Nat.pow_add]; omega⟩
theorem isLen16 (x : Nat) : IsLen x (len16 x) := by
  unfold len16
  split
  · rename_i h; exact isLen_up (k := 8) h (isLen8 _)
  · exact isLen8 x
theorem isLen32 (x : Nat) : IsLen x (len32 x) := by
  unfold len32
  split
  · rename_i h; exact isLen_up (k := 16) h (isLen16 _)
  · exact isLen16 x
theorem isLen64 (x : Nat) : IsLen x (len64 x) := by
  unfold len64
  split
  · rename_i h; exact isLen_up (k := 32) h (isLen32 _)
  · exact isLen32 x
theorem len64_le {x : Nat} (h : x < W) : len64 x ≤ 64 := by
  have := (isLen64 x).2
  rcases Nat.eq_zero_or_pos x with h0 | h0
  · subst h0; decide
  · have h2 := this (by omega)
    rcases Nat.lt_or_ge 64 (len64 x) with h3 | h3
    · have : 2 ^ 65 ≤ 2 ^ len64 x := Nat.pow_le_pow_right (by omega) h3
      simp only [W] at h
      omega
    · exact h3
theorem len8_le {x : Nat} (h : x < 256) : len8 x ≤ 8 := by
  have := (isLen8 x).2
  rcases Nat.eq_zero_or_pos x with h0 | h0
  · subst h0; decide
  · have h2 := this (by omega)
    rcases Nat.lt_or_ge 8 (len8 x) with h3 | h3
    · have : 2 ^ 9 ≤ 2 ^ len8 x := Nat.pow_le_pow_right (by omega) h3
      omega
    · exact h3
end Go.Proofs.Ytiaaiihdamkeaaa
