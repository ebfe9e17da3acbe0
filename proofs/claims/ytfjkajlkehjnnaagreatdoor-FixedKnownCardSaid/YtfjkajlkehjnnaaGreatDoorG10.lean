/- The reference's numbers: number. -/
import Derived.Test.YtfjkajlkehjnnaaGreatDoorG9
namespace Go.Proofs.YtfjkajlkehjnnaaGreatDoor
open Go Go.Eng Go.RowKit Go.Ar

theorem or16 {n d : Nat} (hn : n * R < W) (hd : d < R) : bitsV .or .u64 ((n * R : Nat) : Int) (d : Int) = ((n * R + d : Nat) : Int) := by
  rw [or_w hn (Nat.lt_trans hd (by decide))]
  rw [Nat.mul_comm n R, show (R : Nat) = 2 ^ 16 from rfl, ← Nat.two_pow_add_eq_or_of_lt (by simpa only [R] using hd)]
theorem shl16 {n : Nat} (hn : n * R < W) : shlV .u64 (n : Int) 16 = ((n * R : Nat) : Int) := by
  have := shl_n n (n := 16) (by decide)
  rw [show ((16 : Nat) : Int) = 16 from rfl] at this
  rw [this, show n * 2 ^ 16 = n * R from rfl, Nat.mod_eq_of_lt hn]
theorem dig_step {A j : Nat} : A / R ^ j = A / R ^ (j + 1) * R + A / R ^ j % R := by
  rw [pdiv]
  have := Nat.div_add_mod (A / R ^ j) R
  rw [Nat.mul_comm] at this
  omega
theorem R4 : R ^ 4 = W := by decide
structure Num (xs : List Nat) where
  k : Nat
  hk : k ≤ xs.length
  hz : val xs / R ^ (max k 4) = 0
theorem num_ret {a b c d : Int} (h : (a, b) = (c, d)) : Ending.returned (.tuple #[.int .i64 a, .int .i64 b]) = .returned (.tuple #[.int .i64 c, .int .i64 d]) := by
  rw [Prod.mk.injEq] at h; rw [h.1, h.2]
def Num.start (xs : List Nat) (hx : Dg xs) : Num xs := ⟨xs.length, Nat.le_refl _, Nat.div_eq_of_lt (Nat.lt_of_lt_of_le (val_lt hx) (Nat.pow_le_pow_right (by decide) (Nat.le_max_left _ _)))⟩

theorem number_c (xs : List Nat) (neg : Bool) (v : Value) (w : World) (hx : Dg xs) (hl : xs.length ≤ 100000) (hv : Rd w v 1 uE xs) :
    Calls Tryz.prog 51 #[v, .bool neg] w fun e w' => e = .returned (.tuple #[.int .i64 (sgnF (val xs) neg).1, .int .i64 (sgnF (val xs) neg).2]) ∧ Below w.heap.size w w' := by
  refine calls_exec (cf := cf) cfok (fn := Tryz.f51) Tryz.func51 rfl [.sl 0, .v (.bool neg)] [rdU xs] (ρ := fun _ => v) (· < w.heap.size) rfl rfl rfl (by simp [svOkL, svOk]) (memRd (fun _ h => h) ⟨hv, trivial⟩) ?_
  refine ⟨Num xs, fun s => ⟨50, [⟨0, [], .sl 0⟩, ⟨1, [], .v (.bool neg)⟩, ⟨6, [], .v (.int .u64 ((val xs / R ^ s.k : Nat) : Int))⟩, ⟨7, [], .v (.int .i64 ((s.k : Int) - 1))⟩], [rdU xs], [], dropL nats 1⟩, fun s => s.k, ⟨[0], Num.start xs hx, ?_⟩, fun s => ?_⟩
  · refine And.intro (And.intro rfl (And.intro rfl (And.intro (svI ?_) (And.intro (svI ?_) trivial)))) (And.intro rfl trivial)
    · show (0 : Int) = ((val xs / R ^ xs.length : Nat) : Int)
      rw [Nat.div_eq_of_lt (val_lt hx)]; rfl
    · exact i64_id _ (by omega) (by omega)
  have hk := s.hk
  refine And.intro (fun hge => ?_) (fun hlt => ?_)
  · have hge : (s.k : Int) - 1 ≥ 0 := of_decide_eq_true hge
    obtain ⟨j, hj⟩ : ∃ j, s.k = j + 1 := ⟨s.k - 1, by omega⟩
    have hiN : ((s.k : Int) - 1).toNat = j := by omega
    have hz := s.hz
    rw [hj] at hz
    have nx := nth_val hx j
    have hwr : IntKind.i64.wrap ((s.k : Int) - 1 - 1) = (j : Int) - 1 := by rw [i64_id _ (by omega) (by omega)]; omega
    have hds := dig_step (A := val xs) (j := j)
    refine And.intro (fun _ => ⟨by omega, by omega⟩) ?_
    refine And.intro (fun hf => ?_) (fun hf => ?_)
    · have hf : (decide ((s.k : Int) - 1 ≥ 4) && !decide (((nth xs ((s.k : Int) - 1).toNat : Nat) : Int) = 0)) = true := hf
      rw [Bool.and_eq_true, decide_eq_true_iff, hiN] at hf
      obtain ⟨h4, hn0⟩ := hf
      have hn0 := nd_t hn0
      refine fun ρ S w' hi => ⟨num_ret ?_, hi.below⟩
      rw [sgnF_big]
      have h1 : 1 ≤ val xs / R ^ j := by rw [nx] at hn0; omega
      have h2 := (Nat.le_div_iff_mul_le (Rpos j)).1 h1
      have h3 : R ^ 4 ≤ R ^ j := Nat.pow_le_pow_right (by decide) (by omega)
      rw [R4] at h3
      simp only [W] at h3
      omega
    · have hf : (decide ((s.k : Int) - 1 ≥ 4) && !decide (((nth xs ((s.k : Int) - 1).toNat : Nat) : Int) = 0)) = false := hf
      rw [hiN] at hf
      refine And.intro (fun h4 => ?_) (fun h4 => ?_)
      · have h4 : (s.k : Int) - 1 < 4 := of_decide_eq_true h4
        rw [show max (j + 1) 4 = 4 by omega, R4] at hz
        have hA : val xs < W := by
          rcases Nat.lt_or_ge (val xs) W with h | h
          · exact h
          · have := Nat.div_pos h (by decide : 0 < W); omega
        have hq : val xs / R ^ (j + 1) * R < W := by
          have : val xs / R ^ (j + 1) * R ≤ val xs / R ^ j := by omega
          exact Nat.lt_of_le_of_lt (Nat.le_trans this (Nat.div_le_self _ _)) hA
        refine And.intro (show (0 : Int) ≤ 16 by decide) ?_
        refine And.intro ⟨by omega, by omega⟩ ?_
        refine ⟨[0], ⟨j, by omega, by rw [show max j 4 = 4 by omega, R4]; exact hz⟩, And.intro (And.intro rfl (And.intro rfl (And.intro (svI ?_) (And.intro (svI hwr) trivial)))) (And.intro rfl trivial), by show j < s.k; omega⟩
        rw [hiN, hj, shl16 hq]
        show bitsV .or .u64 _ (IntKind.u64.wrap ((nth xs j : Nat) : Int)) = ((val xs / R ^ j : Nat) : Int)
        have hd : nth xs j < R := hx.nth j
        rw [show IntKind.u64.wrap ((nth xs j : Nat) : Int) = ((nth xs j : Nat) : Int) from IntWalk.u64_in _ (by simp only [R] at hd; omega), or16 hq hd, nx, ← hds]
      · have h4 : ¬ (s.k : Int) - 1 < 4 := of_decide_eq_false h4
        have hz0 : nth xs j = 0 := by
          rw [decide_eq_true (by omega : (s.k : Int) - 1 ≥ 4), Bool.true_and] at hf
          have := nd_f hf
          omega
        rw [show max (j + 1) 4 = j + 1 by omega] at hz
        have hv0 : val xs / R ^ j = 0 := by rw [hds, hz, ← nx, hz0, Nat.zero_mul]
        refine ⟨[0], ⟨j, by omega, by rw [show max j 4 = j by omega]; exact hv0⟩, And.intro (And.intro rfl (And.intro rfl (And.intro (svI ?_) (And.intro (svI hwr) trivial)))) (And.intro rfl trivial), by show j < s.k; omega⟩
        rw [hj]
        show ((val xs / R ^ (j + 1) : Nat) : Int) = ((val xs / R ^ j : Nat) : Int)
        rw [hv0, hz]
  · have hlt : ¬ (s.k : Int) - 1 ≥ 0 := of_decide_eq_false hlt
    have hk0 : s.k = 0 := by omega
    have hz := s.hz
    rw [hk0, show max 0 4 = 4 from rfl, R4] at hz
    have hA : val xs < W := by
      rcases Nat.lt_or_ge (val xs) W with h | h
      · exact h
      · have := Nat.div_pos h (by decide : 0 < W); omega
    have hn : ((val xs / R ^ s.k : Nat) : Int) = ((val xs : Nat) : Int) := by rw [hk0, Nat.pow_zero, Nat.div_one]
    refine And.intro (fun h => ?_) (fun h => ?_)
    · have h : (neg && decide (((val xs / R ^ s.k : Nat) : Int) = 9223372036854775808)) = true := h
      rw [hn, Bool.and_eq_true, decide_eq_true_iff] at h
      refine fun ρ S w' hi => ⟨num_ret ?_, hi.below⟩
      unfold sgnF
      rw [if_pos ⟨h.1, by omega⟩, h.2]
    have h : (neg && decide (((val xs / R ^ s.k : Nat) : Int) = 9223372036854775808)) = false := h
    rw [hn, Bool.and_eq_false_iff, decide_eq_false_iff_not] at h
    refine And.intro (fun h2 => ?_) (fun h2 => ?_)
    · have h2 : ((val xs / R ^ s.k : Nat) : Int) ≥ 9223372036854775808 := of_decide_eq_true h2
      rw [hn] at h2
      refine fun ρ S w' hi => ⟨num_ret ?_, hi.below⟩
      unfold sgnF
      rw [if_neg (by rintro ⟨e1, e2⟩; rcases h with h | h; · rw [e1] at h; cases h
                     · apply h; omega), if_pos (by right; omega)]
    have h2 : ¬ ((val xs / R ^ s.k : Nat) : Int) ≥ 9223372036854775808 := of_decide_eq_false h2
    rw [hn] at h2
    have hc : IntKind.i64.wrap ((val xs : Nat) : Int) = ((val xs : Nat) : Int) := i64_id _ (by omega) (by omega)
    refine And.intro (fun h3 => ?_) (fun h3 => ?_)
    · have h3 : neg = true := h3
      refine fun ρ S w' hi => ⟨num_ret ?_, hi.below⟩
      unfold sgnF
      rw [if_pos ⟨h3, by omega⟩]
      show (IntKind.i64.wrap (0 - IntKind.i64.wrap ((val xs / R ^ s.k : Nat) : Int)), (0 : Int)) = _
      rw [hn, hc, i64_id _ (by omega) (by omega)]
      congr 1
      omega
    · have h3 : neg = false := h3
      refine fun ρ S w' hi => ⟨num_ret ?_, hi.below⟩
      unfold sgnF
      rw [if_neg (by rw [h3]; rintro ⟨e, _⟩; cases e), if_neg (by rw [h3]; rintro (e | e); · cases e
                                                                  · omega)]
      show (IntKind.i64.wrap ((val xs / R ^ s.k : Nat) : Int), (0 : Int)) = _
      rw [hn, hc]
end Go.Proofs.YtfjkajlkehjnnaaGreatDoor
