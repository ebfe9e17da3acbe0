/- fixed.quotient and MulDiv. -/
import Derived.Test.YtiaaiihdamkeaaaG4
namespace Go.Proofs.Ytiaaiihdamkeaaa
open Go Go.Eng Go.RowKit Go.Ar

structure I64 (n : Int) : Prop where
  lo : -9223372036854775808 ≤ n
  hi : n ≤ 9223372036854775807

theorem sgnF_big {q : Nat} {neg : Bool} (h : 9223372036854775808 < q) : sgnF q neg = (0, 10) := by
  unfold sgnF
  rw [if_neg (by omega), if_pos (by omega)]
theorem sgnF_ok {q : Nat} {neg : Bool} (h : (sgnF q neg).2 ≠ 0) : sgnF q neg = (0, 10) := by
  unfold sgnF at h ⊢
  split at h
  · exact absurd rfl h
  · rename_i h1
    rw [if_neg h1]
    split at h
    · rename_i h2; rw [if_pos h2]
    · exact absurd rfl h

theorem quotient_c (a b c : Int) (ha : I64 a) (hb : I64 b) (hc : I64 c) (w : World) : Calls Try.prog 31 #[.int .i64 a, .int .i64 b, .int .i64 c, .func (.func 32) #[] #[]] w fun e w' =>
    e = .returned (.tuple #[.int .i64 (quoF upFl a b c).1, .int .i64 (quoF upFl a b c).2]) ∧ Below w.heap.size w w' := by
  refine calls_execD (cf := cf) cfok (fn := Try.f31) Try.func31 rfl [.v (.int .i64 a), .v (.int .i64 b), .v (.int .i64 c), .fn 32 []] [] (ρ := fun _ => undef) (· < w.heap.size) rfl rfl rfl (by simp [svOkL, svOk]) (memNil fun _ h => h) ?_
  unfold quoF
  refine And.intro (fun h => ?_) (fun h => ?_)
  · have h : c = 0 := of_decide_eq_true h
    rw [if_pos h]
    exact fun ρ S w' hi => ⟨rfl, hi.below⟩
  have h : ¬ c = 0 := of_decide_eq_false h
  rw [if_neg h]
  have hA : a.natAbs < W := by have := ha.lo; have := ha.hi; simp only [W]; omega
  have hB : b.natAbs < W := by have := hb.lo; have := hb.hi; simp only [W]; omega
  have hC : c.natAbs < W := by have := hc.lo; have := hc.hi; simp only [W]; omega
  have hC0 : 0 < c.natAbs := by omega
  refine Or.inl ?_
  refine Or.inl ⟨_, fun ρ S w' hm => size_c a w' ha.lo ha.hi, ?_⟩
  refine Or.inl ⟨_, fun ρ S w' hm => size_c b w' hb.lo hb.hi, ?_⟩
  refine Or.inl ⟨_, fun ρ S w' hm => mul64_c _ _ w' hA hB, ?_⟩
  refine Or.inr (Or.inr (Or.inl ⟨[0, 1, 2, 3, 4, 5, 6, 7, 8], [3], [], by kernel_rfl, ?_⟩))
  refine ⟨_, fun ρ S w' hm => size_c c w' hc.lo hc.hi, ?_⟩
  have hW : W = 18446744073709551616 := rfl
  have hlo : a.natAbs * b.natAbs % W < W := Nat.mod_lt _ (by decide)
  have hdm := Nat.div_add_mod (a.natAbs * b.natAbs) W
  have hneg : ((decide (a < 0) != decide (b < 0)) != decide (c < 0)) = negQ a b c := rfl
  by_cases hov : c.natAbs ≤ a.natAbs * b.natAbs / W
  · refine mcall_panic pcF (fun ρ S w' hm => divide_p _ _ _ w' hov) ?_
    have hbig : sgnF (absQ a b c + (if upFl (absR a b c) c.natAbs (negQ a b c) = true then 1 else 0)) (negQ a b c) = (0, 10) := by
      refine sgnF_big ?_
      have : W ≤ absQ a b c := by
        unfold absQ
        rw [Nat.le_div_iff_mul_le hC0]
        have := Nat.mul_le_mul_left W hov
        omega
      rw [hW] at this
      omega
    rw [hbig]
    refine And.intro rfl (dcall_sub [1, 2] (caught_p 0 0 10) rfl rfl rfl rfl rfl (And.intro (And.intro rfl rfl) (And.intro (And.intro rfl rfl) trivial)) ?_)
    exact fun ρ S w' hi => ⟨rfl, hi.below⟩
  have hov : a.natAbs * b.natAbs / W < c.natAbs := by omega
  have hprod : a.natAbs * b.natAbs / W * W + a.natAbs * b.natAbs % W = a.natAbs * b.natAbs := by rw [Nat.mul_comm]; exact hdm
  refine mcall_val (.tuple #[.int .u64 (absQ a b c : Nat), .int .u64 (absR a b c : Nat)]) (fun ρ S w' hm => by
    have := divide_c _ _ _ w' hlo hC hov
    rw [hprod] at this
    exact this) ?_
  have hqW : absQ a b c < W := by
    unfold absQ
    rw [Nat.div_lt_iff_lt_mul hC0]
    have := (Nat.div_lt_iff_lt_mul (by decide : 0 < W)).1 hov
    rw [Nat.mul_comm W]; exact this
  refine Or.inl ⟨_, fun ρ S w' hm => size_c c w' hc.lo hc.hi, ?_⟩
  refine Or.inl ⟨_, fun ρ S w' hm => up_c _ _ _ w', ?_⟩
  refine And.intro (fun hu => ?_) (fun hu => ?_)
  · have hu : upFl (absR a b c) c.natAbs (negQ a b c) = true := hu
    rw [if_pos hu]
    refine And.intro (fun h2 => ?_) (fun h2 => ?_)
    · have h2 : (absQ a b c : Int) = 18446744073709551615 := of_decide_eq_true h2
      rw [sgnF_big (by omega)]
      refine And.intro rfl (dcall_sub [1, 2] (caught_p 0 0 10) rfl rfl rfl rfl rfl (And.intro (And.intro rfl rfl) (And.intro (And.intro rfl rfl) trivial)) ?_)
      exact fun ρ S w' hi => ⟨rfl, hi.below⟩
    · have h2 : ¬ (absQ a b c : Int) = 18446744073709551615 := of_decide_eq_false h2
      have hadd : IntKind.u64.wrap ((absQ a b c : Int) + 1) = ((absQ a b c + 1 : Nat) : Int) := by rw [IntWalk.u64_in _ (by omega)]; omega
      by_cases hs : (sgnF (absQ a b c + 1) (negQ a b c)).2 = 0
      · refine Or.inl ⟨.int .i64 (sgnF (absQ a b c + 1) (negQ a b c)).1, fun ρ S w' hm => by
          show Calls _ 37 #[.int .u64 (IntKind.u64.wrap ((absQ a b c : Int) + 1)), .bool (negQ a b c)] _ _
          rw [hadd]; exact signed_c _ _ w' hs, ?_⟩
        rw [hs]
        refine And.intro rfl (dcall_sub [1, 2] (caught_r _ 0) rfl rfl rfl rfl rfl (And.intro (And.intro rfl rfl) (And.intro (And.intro rfl rfl) trivial)) ?_)
        exact fun ρ S w' hi => ⟨rfl, hi.below⟩
      · refine Or.inr (lcall_panic pcF (fun ρ S w' hm => by
          show Calls _ 37 #[.int .u64 (IntKind.u64.wrap ((absQ a b c : Int) + 1)), .bool (negQ a b c)] _ _
          rw [hadd]; exact signed_p _ _ w' hs) ?_)
        rw [sgnF_ok hs]
        refine And.intro rfl (dcall_sub [1, 2] (caught_p 0 0 10) rfl rfl rfl rfl rfl (And.intro (And.intro rfl rfl) (And.intro (And.intro rfl rfl) trivial)) ?_)
        exact fun ρ S w' hi => ⟨rfl, hi.below⟩
  · have hu : upFl (absR a b c) c.natAbs (negQ a b c) = false := hu
    rw [hu, if_neg (by decide)]
    by_cases hs : (sgnF (absQ a b c + 0) (negQ a b c)).2 = 0
    · refine Or.inl ⟨_, fun ρ S w' hm => signed_c _ _ w' hs, ?_⟩
      rw [hs]
      refine And.intro rfl (dcall_sub [1, 2] (caught_r _ 0) rfl rfl rfl rfl rfl (And.intro (And.intro rfl rfl) (And.intro (And.intro rfl rfl) trivial)) ?_)
      exact fun ρ S w' hi => ⟨rfl, hi.below⟩
    · refine Or.inr (lcall_panic pcF (fun ρ S w' hm => signed_p _ _ w' hs) ?_)
      rw [sgnF_ok hs]
      refine And.intro rfl (dcall_sub [1, 2] (caught_p 0 0 10) rfl rfl rfl rfl rfl (And.intro (And.intro rfl rfl) (And.intro (And.intro rfl rfl) trivial)) ?_)
      exact fun ρ S w' hi => ⟨rfl, hi.below⟩

theorem mulDiv_c (a b c : Int) (ha : I64 a) (hb : I64 b) (hc : I64 c) (w : World) : Calls Try.prog 30 #[.int .i64 a, .int .i64 b, .int .i64 c] w fun e w' =>
    e = .returned (.tuple #[.int .i64 (mulDivF a b c).1, .int .i64 (mulDivF a b c).2]) ∧ Below w.heap.size w w' := by
  refine calls_exec (cf := cf) cfok (fn := Try.f30) Try.func30 rfl [.v (.int .i64 a), .v (.int .i64 b), .v (.int .i64 c)] [] (ρ := fun _ => undef) (· < w.heap.size) rfl rfl rfl (by simp [svOkL, svOk]) (memNil fun _ h => h) ?_
  refine Or.inl ⟨_, fun ρ S w' hm => quotient_c a b c ha hb hc w', ?_⟩
  exact fun ρ S w' hi => ⟨rfl, hi.below⟩
end Go.Proofs.Ytiaaiihdamkeaaa
