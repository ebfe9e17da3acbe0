/- fixed.quotient: its parts. -/
import Derived.Test.YtiaaiihdamkeaaaG3
import Derived.Test.YtiaaiihdamkeaaaA2
namespace Go.Proofs.Ytiaaiihdamkeaaa
open Go Go.Eng Go.RowKit Go.Ar

abbrev pcF : List PanicEntry := [{ v := .iface 27 (.int .i64 10), recovered := false }]

theorem divide_c (hi lo y : Nat) (w : World) (hlo : lo < W) (hy : y < W) (hlt : hi < y) : Calls Try.prog 36 #[.agg #[.int .u64 hi, .int .u64 lo], .int .u64 y] w fun e w' => e = .returned (.tuple #[.int .u64 (((hi * W + lo) / y : Nat) : Int), .int .u64 (((hi * W + lo) % y : Nat) : Int)]) ∧ Below w.heap.size w w' := by
  refine calls_exec (cf := cf) cfok (fn := Try.f36) Try.func36 rfl [.agg [.v (.int .u64 hi), .v (.int .u64 lo)], .v (.int .u64 y)] [] (ρ := fun _ => undef) (· < w.heap.size) rfl rfl rfl (by simp [svOkL, svOk]) (memNil fun _ h => h) ?_
  refine And.intro (fun h => absurd (of_decide_eq_true h) (by show ¬ ((hi : Int) ≥ (y : Int)); omega)) (fun _ => ?_)
  refine Or.inl ⟨_, fun ρ S w' hm => div64_c hi lo y w' hlo hy hlt, ?_⟩
  exact fun ρ S w' hi => ⟨rfl, hi.below⟩
theorem divide_p (hi lo y : Nat) (w : World) (hge : y ≤ hi) : Calls Try.prog 36 #[.agg #[.int .u64 hi, .int .u64 lo], .int .u64 y] w fun e w' => e = .panicked pcF ∧ Below w.heap.size w w' := by
  refine calls_exec (cf := cf) cfok (fn := Try.f36) Try.func36 rfl [.agg [.v (.int .u64 hi), .v (.int .u64 lo)], .v (.int .u64 y)] [] (ρ := fun _ => undef) (· < w.heap.size) rfl rfl rfl (by simp [svOkL, svOk]) (memNil fun _ h => h) ?_
  refine And.intro (fun _ => ?_) (fun h => absurd (of_decide_eq_false h) (by show ¬ ¬ ((hi : Int) ≥ (y : Int)); omega))
  exact fun ρ S w' hi => ⟨rfl, hi.below⟩
theorem u64i {q : Nat} (h : q ≤ 9223372036854775807) : IntKind.i64.wrap (q : Int) = (q : Int) := i64_id _ (by omega) (by omega)
theorem sgA (q : Nat) (neg : Bool) : (neg && decide ((q : Int) ≤ 9223372036854775808)) = decide (neg = true ∧ q ≤ 9223372036854775808) := by
  cases neg
  · simp
  · simp; omega
theorem sgB (q : Nat) (neg : Bool) : (neg || decide ((q : Int) > 9223372036854775807)) = decide (neg = true ∨ q > 9223372036854775807) := by
  cases neg
  · simp; omega
  · simp
theorem signed_c (q : Nat) (neg : Bool) (w : World) (hs : (sgnF q neg).2 = 0) : Calls Try.prog 37 #[.int .u64 q, .bool neg] w fun e w' => e = .returned (.int .i64 (sgnF q neg).1) ∧ Below w.heap.size w w' := by
  refine calls_exec (cf := cf) cfok (fn := Try.f37) Try.func37 rfl [.v (.int .u64 q), .v (.bool neg)] [] (ρ := fun _ => undef) (· < w.heap.size) rfl rfl rfl (by simp [svOkL, svOk]) (memNil fun _ h => h) ?_
  unfold sgnF at hs ⊢
  refine And.intro (fun h => ?_) (fun h => ?_)
  · have h : neg = true ∧ q ≤ 9223372036854775808 := by
      have : (neg && decide ((q : Int) ≤ 9223372036854775808)) = true := h
      rw [sgA] at this; exact of_decide_eq_true this
    rw [if_pos h] at hs ⊢
    refine fun ρ S w' hi => ⟨ret1 ?_, hi.below⟩
    show IntKind.i64.wrap (0 - IntKind.i64.wrap (q : Int)) = -(q : Int)
    rw [IntKind.wrap_i64, IntKind.wrap_i64]
    have := h.2
    omega
  · have h : ¬ (neg = true ∧ q ≤ 9223372036854775808) := by
      have : (neg && decide ((q : Int) ≤ 9223372036854775808)) = false := h
      rw [sgA] at this; exact of_decide_eq_false this
    rw [if_neg h] at hs ⊢
    refine And.intro (fun h2 => ?_) (fun h2 => ?_)
    · have h2 : neg = true ∨ q > 9223372036854775807 := by
        have : (neg || decide ((q : Int) > 9223372036854775807)) = true := h2
        rw [sgB] at this; exact of_decide_eq_true this
      rw [if_pos h2] at hs
      cases hs
    · have h2 : ¬ (neg = true ∨ q > 9223372036854775807) := by
        have : (neg || decide ((q : Int) > 9223372036854775807)) = false := h2
        rw [sgB] at this; exact of_decide_eq_false this
      rw [if_neg h2]
      refine fun ρ S w' hi => ⟨ret1 ?_, hi.below⟩
      show IntKind.i64.wrap (q : Int) = (q : Int)
      exact u64i (by omega)
theorem signed_p (q : Nat) (neg : Bool) (w : World) (hs : (sgnF q neg).2 ≠ 0) : Calls Try.prog 37 #[.int .u64 q, .bool neg] w fun e w' => e = .panicked pcF ∧ Below w.heap.size w w' := by
  refine calls_exec (cf := cf) cfok (fn := Try.f37) Try.func37 rfl [.v (.int .u64 q), .v (.bool neg)] [] (ρ := fun _ => undef) (· < w.heap.size) rfl rfl rfl (by simp [svOkL, svOk]) (memNil fun _ h => h) ?_
  unfold sgnF at hs
  refine And.intro (fun h => ?_) (fun h => ?_)
  · have h : neg = true ∧ q ≤ 9223372036854775808 := by
      have : (neg && decide ((q : Int) ≤ 9223372036854775808)) = true := h
      rw [sgA] at this; exact of_decide_eq_true this
    rw [if_pos h] at hs
    exact absurd rfl hs
  · have h : ¬ (neg = true ∧ q ≤ 9223372036854775808) := by
      have : (neg && decide ((q : Int) ≤ 9223372036854775808)) = false := h
      rw [sgA] at this; exact of_decide_eq_false this
    rw [if_neg h] at hs
    refine And.intro (fun h2 => ?_) (fun h2 => ?_)
    · exact fun ρ S w' hi => ⟨rfl, hi.below⟩
    · have h2 : ¬ (neg = true ∨ q > 9223372036854775807) := by
        have : (neg || decide ((q : Int) > 9223372036854775807)) = false := h2
        rw [sgB] at this; exact of_decide_eq_false this
      rw [if_neg h2] at hs
      exact absurd rfl hs
theorem up_c (r b : Nat) (neg : Bool) (w : World) : Calls Try.prog 32 #[.int .u64 r, .int .u64 b, .bool neg] w fun e w' => e = .returned (.bool (upFl r b neg)) ∧ Below w.heap.size w w' := by
  refine calls_exec (cf := cf) cfok (fn := Try.f32) Try.func32 rfl [.v (.int .u64 r), .v (.int .u64 b), .v (.bool neg)] [] (ρ := fun _ => undef) (· < w.heap.size) rfl rfl rfl (by simp [svOkL, svOk]) (memNil fun _ h => h) ?_
  refine fun ρ S w' hi => ⟨?_, hi.below⟩
  show Ending.returned (.bool (neg && decide ((r : Int) > 0))) = _
  unfold upFl
  congr 3
  simp

abbrev chC (n e : Int) : List Chunk := [.bx 2 [.v (.int .i64 n)], .bx 27 [.v (.int .i64 e)]]
theorem caught_r (n e : Int) : DCall Try.prog ⟨0, [], chC n e, [], []⟩ 33 [.bx 0 0, .bx 1 0] .returning (fun u' st' => st'.ch = chC n e ∧ u' = .returning) := by
  refine dcall_rec (cf := cf) cfok (fn := Try.f33) Try.func33 rfl rfl rfl rfl rfl rfl rfl rfl rfl rfl [.bx 0 0, .bx 1 0] (chC n e) (chC n e) .returning .nilIface rfl rfl rfl (by simp [svOkL, svOk]) rfl ⟨trivial, trivial, trivial⟩ rfl ?_
  refine ⟨.bool false, pure_neqNil (by kernel_rfl) rfl false (.inl ⟨rfl, rfl⟩), ?_⟩
  refine And.intro (fun h => by cases h) (fun _ => ?_)
  exact And.intro rfl ⟨[0, 1], rfl, rfl, rfl, And.intro (And.intro rfl rfl) (And.intro (And.intro rfl rfl) trivial)⟩
theorem caught_p (n e z : Int) : DCall Try.prog ⟨0, [], chC n e, [], []⟩ 33 [.bx 0 0, .bx 1 0] (.panicking [{ v := .iface 27 (.int .i64 z), recovered := false }]) (fun u' st' => st'.ch = chC 0 z ∧ u' = .returning) := by
  refine dcall_rec (cf := cf) cfok (fn := Try.f33) Try.func33 rfl rfl rfl rfl rfl rfl rfl rfl rfl rfl [.bx 0 0, .bx 1 0] (chC n e) (chC 0 z) _ (.iface 27 (.int .i64 z)) rfl rfl rfl (by simp [svOkL, svOk]) rfl ⟨trivial, trivial, trivial⟩ rfl ?_
  refine ⟨.bool true, pure_neqNil (by kernel_rfl) rfl true (.inr ⟨⟨_, _, rfl⟩, rfl⟩), ?_⟩
  refine And.intro (fun _ => ?_) (fun h => by cases h)
  refine Or.inr (Or.inr (Or.inr ⟨[0, 1, 2, 3, 4], [5], [6, 7], [(0, some [0])], by kernel_rfl, ?_⟩))
  refine ⟨_, ⟨rfl, rfl⟩, fun xs => ⟨rfl, rfl⟩, ?_⟩
  refine ⟨_, ⟨rfl, rfl⟩, fun xs => ⟨rfl, rfl⟩, ?_⟩
  refine ⟨_, ⟨rfl, rfl⟩, fun xs => ⟨rfl, rfl⟩, ?_⟩
  refine ⟨.v (.int .i64 z), ⟨.int .i64 z, pure_assert rfl Try.underlying27 (by simp), rfl, rfl⟩, fun xs => ⟨.int .i64 z, pure_assert rfl Try.underlying27 (by simp), rfl, rfl⟩, ?_⟩
  refine ⟨_, ⟨rfl, rfl⟩, fun xs => ⟨rfl, rfl⟩, ?_⟩
  refine ⟨rfl, fun xs => rfl, ?_⟩
  exact And.intro rfl ⟨[0, 1], rfl, rfl, rfl, And.intro (And.intro rfl rfl) (And.intro (And.intro rfl rfl) trivial)⟩
end Go.Proofs.Ytiaaiihdamkeaaa
