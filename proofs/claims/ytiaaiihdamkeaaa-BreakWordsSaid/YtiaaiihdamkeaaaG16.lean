/- glue: the reference's Badness, Demerits and Space of both. -/
import Derived.Test.YtiaaiihdamkeaaaG15
namespace Go.Proofs.Ytiaaiihdamkeaaa
open Go Go.Eng Go.RowKit Go.Ar

theorem num_ret {a b c d : Int} (h : (a, b) = (c, d)) : Ending.returned (.tuple #[.int .i64 a, .int .i64 b]) = .returned (.tuple #[.int .i64 c, .int .i64 d]) := by
  rw [Prod.mk.injEq] at h; rw [h.1, h.2]
theorem notOk {h w st sh : Int} : (((!okN h || !okN w) || !okN st) || !okN sh) = !okF h w st sh := by
  unfold okF
  cases okN h <;> cases okN w <;> cases okN st <;> cases okN sh <;> rfl
theorem cubeF_range {d s : Int} (hd : 0 ≤ d) (hs : 0 ≤ s) : 0 ≤ cubeF d s ∧ cubeF d s ≤ 10000 := by
  unfold cubeF
  by_cases h : s = 0
  · rw [if_pos h]; omega
  · rw [if_neg h]
    obtain ⟨q0, q1⟩ := q_range (d := d) (s := s) hd (by omega)
    show 0 ≤ min 10000 (100 * min (d * 1024 / s) 8192 * min (d * 1024 / s) 8192 * min (d * 1024 / s) 8192 / 1073741824) ∧ min 10000 _ ≤ 10000
    generalize min (d * 1024 / s) 8192 = q at *
    obtain ⟨a1, a2, a3, a4, a5, a6⟩ := cube_bound q0 q1
    have : 0 ≤ 100 * q * q * q / 1073741824 := Int.ediv_nonneg a5 (by decide)
    omega
theorem badF_range {h w st sh : Int} (i : In4 h w st sh) : 0 ≤ (badF h w st sh).1 ∧ (badF h w st sh).1 ≤ 10000 ∧ 0 ≤ (badF h w st sh).2 ∧ (badF h w st sh).2 ≤ 1099511627776 := by
  obtain ⟨a1, a2, a3, a4, a5, a6, a7, a8⟩ := i
  unfold badF
  split
  · exact ⟨by decide, by decide, by decide, by decide⟩
  · split
    · have := cubeF_range (d := w - h) (s := st) (by omega) a5
      exact ⟨this.1, this.2, by show (0 : Int) ≤ 0; omega, by show (0 : Int) ≤ _; omega⟩
    · split
      · exact ⟨by show (0 : Int) ≤ 10000; omega, by show (10000 : Int) ≤ 10000; omega, by show 0 ≤ h - w - sh; omega, by show h - w - sh ≤ _; omega⟩
      · have := cubeF_range (d := h - w) (s := sh) (by omega) a7
        exact ⟨this.1, this.2, by show (0 : Int) ≤ 0; omega, by show (0 : Int) ≤ _; omega⟩
theorem sq_range {b : Int} (h0 : 0 ≤ b) (h1 : b ≤ 10000) : 0 ≤ (b + 10) * (b + 10) ∧ (b + 10) * (b + 10) ≤ 100200100 := by
  have a1 : 0 ≤ (b + 10) * (b + 10) := Int.mul_nonneg (by omega) (by omega)
  have a2 : (b + 10) * (b + 10) ≤ 10010 * 10010 := Int.mul_le_mul (by omega) (by omega) (by omega) (by omega)
  omega
theorem demerits_c (h w st sh : Int) (last : Bool) (W : World) : Calls Try.prog 21 #[.int .i64 h, .int .i64 w, .int .i64 st, .int .i64 sh, .bool last] W fun e w' => e = .returned (.tuple #[.int .i64 (demF h w st sh last).1, .int .i64 (demF h w st sh last).2]) ∧ Below W.heap.size W w' := by
  refine calls_exec (cf := cf) cfok (fn := Try.f21) Try.func21 rfl [.v (.int .i64 h), .v (.int .i64 w), .v (.int .i64 st), .v (.int .i64 sh), .v (.bool last)] [] (ρ := fun _ => undef) (· < W.heap.size) rfl rfl rfl (by simp [svOkL, svOk]) (memNil fun _ h => h) ?_
  unfold demF
  cases hk : okF h w st sh with
  | false =>
    refine Or.inl ⟨.tuple #[.int .i64 0, .int .i64 0, .int .i64 2], fun ρ S w' _ => by
      have := badness_c h w st sh w'
      unfold badnessF at this
      rw [hk, if_neg (by decide)] at this
      exact this, ?_⟩
    rw [if_neg (by decide)]
    refine And.intro (fun _ => ?_) (fun hf => absurd hf (by decide))
    exact fun ρ S w' hi => ⟨rfl, hi.below⟩
  | true =>
    refine Or.inl ⟨.tuple #[.int .i64 (badF h w st sh).1, .int .i64 (badF h w st sh).2, .int .i64 0], fun ρ S w' _ => by
      have := badness_c h w st sh w'
      unfold badnessF at this
      rw [hk, if_pos rfl] at this
      exact this, ?_⟩
    rw [if_pos rfl]
    obtain ⟨r1, r2, r3, r4⟩ := badF_range (okF_iff.1 hk)
    refine And.intro (fun hf => absurd hf (by decide)) (fun _ => ?_)
    refine And.intro (fun ho => ?_) (fun ho => ?_)
    · have ho : (badF h w st sh).2 > 0 := of_decide_eq_true ho
      rw [if_pos ho]
      refine fun ρ S w' hi => ⟨num_ret ?_, hi.below⟩
      show (IntKind.i64.wrap (1000000000000 + (badF h w st sh).2), (0 : Int)) = (1000000000000 + (badF h w st sh).2, 0)
      rw [i64_id _ (by omega) (by omega)]
    have ho : ¬ (badF h w st sh).2 > 0 := of_decide_eq_false ho
    rw [if_neg ho]
    obtain ⟨s0, s1⟩ := sq_range r1 r2
    refine And.intro (fun hl => ?_) (fun hl => ?_)
    · have hl : (last && decide (h < w)) = true := hl
      rw [Bool.and_eq_true, decide_eq_true_iff] at hl
      rw [if_pos hl]
      exact fun ρ S w' hi => ⟨rfl, hi.below⟩
    · have hl : (last && decide (h < w)) = false := hl
      rw [if_neg (by
        rintro ⟨e1, e2⟩
        rw [e1, decide_eq_true e2] at hl
        cases hl)]
      refine fun ρ S w' hi => ⟨num_ret ?_, hi.below⟩
      show (IntKind.i64.wrap (IntKind.i64.wrap ((badF h w st sh).1 + 10) * IntKind.i64.wrap ((badF h w st sh).1 + 10)), (0 : Int)) = (((badF h w st sh).1 + 10) * ((badF h w st sh).1 + 10), 0)
      rw [i64_id ((badF h w st sh).1 + 10) (by omega) (by omega), i64_id _ (by omega) (by omega)]
end Go.Proofs.Ytiaaiihdamkeaaa
