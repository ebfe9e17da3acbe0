/- calamuslaw01.FixedNear, over works. -/
import Derived.Test.YtfjkajlkehjnnaaGreatDoorH4
namespace Go.Proofs.YtfjkajlkehjnnaaGreatDoor
open Go Go.Eng Go.RowKit Go.Ar

set_option maxRecDepth 100000 in
set_option maxHeartbeats 1000000 in
theorem lawNear_c (hw : WorksC) (a b c : Int) (ha : -2147483648 ≤ a ∧ a ≤ 2147483647) (hb : -2147483648 ≤ b ∧ b ≤ 2147483647) (hc : I64 c) (w : World) : Calls Tryz.prog 13 #[.int .i32 a, .int .i32 b, .int .i64 c] w fun e w' => e = .returned (.bool true) ∧ Below w.heap.size w w' := by
  refine calls_exec (cf := cf) cfok (fn := Tryz.f13) Tryz.func13 rfl [.v (.int .i32 a), .v (.int .i32 b), .v (.int .i64 c)] [] (ρ := fun _ => undef) (· < w.heap.size) rfl rfl rfl (by simp [svOkL, svOk]) (memNil fun _ h => h) ?_
  obtain ⟨c1, c2⟩ := hc
  have ea : IntKind.i64.wrap a = a := i64_id _ (by omega) (by omega)
  have eb : IntKind.i64.wrap b = b := i64_id _ (by omega) (by omega)
  have hp : -4611686018427387904 ≤ a * b ∧ a * b ≤ 4611686018427387904 := by
    have h1 : (a * b).natAbs ≤ 2147483648 * 2147483648 := by rw [Int.natAbs_mul]; exact Nat.mul_le_mul (by omega) (by omega)
    omega
  refine And.intro (fun h => ?_) (fun h => ?_)
  · refine Or.inl ⟨.bool true, fun ρ S w' hm => hw w', ?_⟩
    exact fun ρ S w' hi => ⟨rfl, hi.below⟩
  have h : (decide (c = 0) || decide (c = -9223372036854775808)) = false := h
  rw [Bool.or_eq_false_iff, decide_eq_false_iff_not, decide_eq_false_iff_not] at h
  obtain ⟨h0, hm⟩ := h
  obtain ⟨x, y, R, hx, hy, hn⟩ := near ha hb h0
  have hA : I64 a := ⟨by omega, by omega⟩
  have hB : I64 b := ⟨by omega, by omega⟩
  refine Or.inl ⟨.tuple #[.int .i64 x, .int .i64 0], fun ρ S w' hm => ?_, ?_⟩
  · show Calls _ 5 #[.int .i64 (IntKind.i64.wrap a), .int .i64 (IntKind.i64.wrap b), .int .i64 c] _ _
    rw [ea, eb]
    have := mulDiv_c a b c hA hB ⟨c1, c2⟩ w'
    rw [hx] at this
    exact this
  refine Or.inl ⟨.tuple #[.int .i64 y, .int .i64 0], fun ρ S w' hm => ?_, ?_⟩
  · show Calls _ 4 #[.int .i64 (IntKind.i64.wrap a), .int .i64 (IntKind.i64.wrap b), .int .i64 c] _ _
    rw [ea, eb]
    have := round_c a b c hA hB ⟨c1, c2⟩ w'
    rw [hy] at this
    exact this
  refine And.intro (fun h => by cases h) (fun _ => ?_)
  generalize hp' : (if c < 0 then -(a * b) else a * b) = p' at hn
  generalize hd' : (if c < 0 then -c else c) = D at hn
  refine And.intro (fun hlt => ?_) (fun hlt => ?_)
  · have hPE : IntKind.i64.wrap (0 - IntKind.i64.wrap (IntKind.i64.wrap a * IntKind.i64.wrap b)) = p' := by have hlt : c < 0 := of_decide_eq_true hlt; rw [if_pos hlt] at hp'; rw [ea, eb, i64_id (a * b) (by omega) (by omega), i64_id _ (by omega) (by omega)]; omega
    have hDE : IntKind.i64.wrap (0 - c) = D := by have hlt : c < 0 := of_decide_eq_true hlt; rw [if_pos hlt] at hd'; rw [i64_id _ (by omega) (by omega)]; omega
    have hrest : IntKind.i64.wrap (IntKind.i64.wrap (0 - IntKind.i64.wrap (IntKind.i64.wrap a * IntKind.i64.wrap b)) - IntKind.i64.wrap (x * IntKind.i64.wrap (0 - c))) = R := by
      rw [hPE, hDE]
      have e := hn.e
      have e1 : x * D = p' - R := by omega
      rw [e1]
      have := hn.r0
      have := hn.r1
      simp only [IntKind.wrap_i64]
      omega
    have hx1 : IntKind.i64.wrap (x + 1) = x + 1 := i64_id _ (by have := hn.lo; omega) (by have := hn.hi; omega)
    have hfar : IntKind.i64.wrap (IntKind.i64.wrap (0 - c) - IntKind.i64.wrap (IntKind.i64.wrap (0 - IntKind.i64.wrap (IntKind.i64.wrap a * IntKind.i64.wrap b)) - IntKind.i64.wrap (x * IntKind.i64.wrap (0 - c)))) = D - R := by
      rw [hrest, hDE]
      have := hn.r0
      have := hn.r1
      exact i64_id _ (by omega) (by omega)
    refine And.intro (fun hb => ?_) (fun _ => ?_)
    · have hb : ((decide (IntKind.i64.wrap (IntKind.i64.wrap (0 - IntKind.i64.wrap (IntKind.i64.wrap a * IntKind.i64.wrap b)) - IntKind.i64.wrap (x * IntKind.i64.wrap (0 - c))) < 0) || decide (IntKind.i64.wrap (IntKind.i64.wrap (0 - IntKind.i64.wrap (IntKind.i64.wrap a * IntKind.i64.wrap b)) - IntKind.i64.wrap (x * IntKind.i64.wrap (0 - c))) ≥ IntKind.i64.wrap (0 - c))) || (!decide (y = x) && !decide (y = IntKind.i64.wrap (x + 1)))) = true := hb
      rw [hrest, hDE, hx1, decide_eq_false (by have := hn.r0; omega : ¬ R < 0), decide_eq_false (by have := hn.r1; omega : ¬ R ≥ D)] at hb
      rcases hn.yx with h | h
      · rw [decide_eq_true h] at hb; simp at hb
      · rw [decide_eq_true h] at hb; simp at hb
    refine And.intro (fun hb => ?_) (fun _ => ?_)
    · have hb : ((!decide (IntKind.i64.wrap (IntKind.i64.wrap (0 - IntKind.i64.wrap (IntKind.i64.wrap a * IntKind.i64.wrap b)) - IntKind.i64.wrap (x * IntKind.i64.wrap (0 - c))) = IntKind.i64.wrap (IntKind.i64.wrap (0 - c) - IntKind.i64.wrap (IntKind.i64.wrap (0 - IntKind.i64.wrap (IntKind.i64.wrap a * IntKind.i64.wrap b)) - IntKind.i64.wrap (x * IntKind.i64.wrap (0 - c))))) && (decide (y = IntKind.i64.wrap (x + 1)) != decide (IntKind.i64.wrap (IntKind.i64.wrap (0 - IntKind.i64.wrap (IntKind.i64.wrap a * IntKind.i64.wrap b)) - IntKind.i64.wrap (x * IntKind.i64.wrap (0 - c))) > IntKind.i64.wrap (IntKind.i64.wrap (0 - c) - IntKind.i64.wrap (IntKind.i64.wrap (0 - IntKind.i64.wrap (IntKind.i64.wrap a * IntKind.i64.wrap b)) - IntKind.i64.wrap (x * IntKind.i64.wrap (0 - c))))))) || (decide (IntKind.i64.wrap (IntKind.i64.wrap (0 - IntKind.i64.wrap (IntKind.i64.wrap a * IntKind.i64.wrap b)) - IntKind.i64.wrap (x * IntKind.i64.wrap (0 - c))) = IntKind.i64.wrap (IntKind.i64.wrap (0 - c) - IntKind.i64.wrap (IntKind.i64.wrap (0 - IntKind.i64.wrap (IntKind.i64.wrap a * IntKind.i64.wrap b)) - IntKind.i64.wrap (x * IntKind.i64.wrap (0 - c))))) && (decide (y = IntKind.i64.wrap (x + 1)) != decide (IntKind.i64.wrap (0 - IntKind.i64.wrap (IntKind.i64.wrap a * IntKind.i64.wrap b)) > 0)))) = true := hb
      rw [hfar, hrest, hPE, hx1] at hb
      by_cases h : R = D - R
      · rw [decide_eq_true h, show decide (y = x + 1) = decide (p' > 0) from decide_eq_decide.2 (hn.eq h)] at hb
        simp at hb
      · rw [decide_eq_false h, show decide (y = x + 1) = decide (R > D - R) from decide_eq_decide.2 (hn.ne h)] at hb
        simp at hb
    refine Or.inl ⟨.bool true, fun ρ S w' hm => hw w', ?_⟩
    exact fun ρ S w' hi => ⟨rfl, hi.below⟩
  · have hPE : IntKind.i64.wrap (IntKind.i64.wrap a * IntKind.i64.wrap b) = p' := by have hlt : ¬ c < 0 := of_decide_eq_false hlt; rw [if_neg hlt] at hp'; rw [ea, eb, i64_id (a * b) (by omega) (by omega)]; exact hp'
    have hDE : c = D := by have hlt : ¬ c < 0 := of_decide_eq_false hlt; rw [if_neg hlt] at hd'; exact hd'
    have hrest : IntKind.i64.wrap (IntKind.i64.wrap (IntKind.i64.wrap a * IntKind.i64.wrap b) - IntKind.i64.wrap (x * c)) = R := by
      rw [hPE, hDE]
      have e := hn.e
      have e1 : x * D = p' - R := by omega
      rw [e1]
      have := hn.r0
      have := hn.r1
      simp only [IntKind.wrap_i64]
      omega
    have hx1 : IntKind.i64.wrap (x + 1) = x + 1 := i64_id _ (by have := hn.lo; omega) (by have := hn.hi; omega)
    have hfar : IntKind.i64.wrap (c - IntKind.i64.wrap (IntKind.i64.wrap (IntKind.i64.wrap a * IntKind.i64.wrap b) - IntKind.i64.wrap (x * c))) = D - R := by
      rw [hrest, hDE]
      have := hn.r0
      have := hn.r1
      exact i64_id _ (by omega) (by omega)
    refine And.intro (fun hb => ?_) (fun _ => ?_)
    · have hb : ((decide (IntKind.i64.wrap (IntKind.i64.wrap (IntKind.i64.wrap a * IntKind.i64.wrap b) - IntKind.i64.wrap (x * c)) < 0) || decide (IntKind.i64.wrap (IntKind.i64.wrap (IntKind.i64.wrap a * IntKind.i64.wrap b) - IntKind.i64.wrap (x * c)) ≥ c)) || (!decide (y = x) && !decide (y = IntKind.i64.wrap (x + 1)))) = true := hb
      rw [hrest, hDE, hx1, decide_eq_false (by have := hn.r0; omega : ¬ R < 0), decide_eq_false (by have := hn.r1; omega : ¬ R ≥ D)] at hb
      rcases hn.yx with h | h
      · rw [decide_eq_true h] at hb; simp at hb
      · rw [decide_eq_true h] at hb; simp at hb
    refine And.intro (fun hb => ?_) (fun _ => ?_)
    · have hb : ((!decide (IntKind.i64.wrap (IntKind.i64.wrap (IntKind.i64.wrap a * IntKind.i64.wrap b) - IntKind.i64.wrap (x * c)) = IntKind.i64.wrap (c - IntKind.i64.wrap (IntKind.i64.wrap (IntKind.i64.wrap a * IntKind.i64.wrap b) - IntKind.i64.wrap (x * c)))) && (decide (y = IntKind.i64.wrap (x + 1)) != decide (IntKind.i64.wrap (IntKind.i64.wrap (IntKind.i64.wrap a * IntKind.i64.wrap b) - IntKind.i64.wrap (x * c)) > IntKind.i64.wrap (c - IntKind.i64.wrap (IntKind.i64.wrap (IntKind.i64.wrap a * IntKind.i64.wrap b) - IntKind.i64.wrap (x * c)))))) || (decide (IntKind.i64.wrap (IntKind.i64.wrap (IntKind.i64.wrap a * IntKind.i64.wrap b) - IntKind.i64.wrap (x * c)) = IntKind.i64.wrap (c - IntKind.i64.wrap (IntKind.i64.wrap (IntKind.i64.wrap a * IntKind.i64.wrap b) - IntKind.i64.wrap (x * c)))) && (decide (y = IntKind.i64.wrap (x + 1)) != decide (IntKind.i64.wrap (IntKind.i64.wrap a * IntKind.i64.wrap b) > 0)))) = true := hb
      rw [hfar, hrest, hPE, hx1] at hb
      by_cases h : R = D - R
      · rw [decide_eq_true h, show decide (y = x + 1) = decide (p' > 0) from decide_eq_decide.2 (hn.eq h)] at hb
        simp at hb
      · rw [decide_eq_false h, show decide (y = x + 1) = decide (R > D - R) from decide_eq_decide.2 (hn.ne h)] at hb
        simp at hb
    refine Or.inl ⟨.bool true, fun ρ S w' hm => hw w', ?_⟩
    exact fun ρ S w' hi => ⟨rfl, hi.below⟩
end Go.Proofs.YtfjkajlkehjnnaaGreatDoor
