/- The laws of glue: GlueGrows. -/
import Derived.Test.YtciflfejkncdeaaG20
import Derived.Test.YtciflfejkncdeaaA6
namespace Go.Proofs.Ytciflfejkncdeaa
open Go Go.Eng Go.RowKit Go.Ar

theorem growK {b o d i : Int} {gt : Bool} (hb0 : 0 ≤ b) (hb1 : b ≤ 10000) (ho : 0 ≤ o) (hid : i ≤ d) (h1 : o > 0 → 200400200 < d ∧ d = 1000000000000 + o) (h2 : o = 0 → d = (10 + b) * (10 + b)) (h3 : gt = true → o = 0 → b ≤ 100) :
    ((((((((((!decide ((0 : Int) = 0) || !decide ((0 : Int) = 0)) || decide (i > d)) || decide (b < 0)) || decide (b > 10000)) || decide (o < 0)) || (decide (o > 0) && (decide (d ≤ 200400200) || !decide (d = 1000000000000 + o)))) || (decide (o = 0) && !decide (d = (10 + b) * (10 + b)))) || ((gt && decide (o = 0)) && decide (b > 100))))) = false := by
  have e0 : (!decide ((0 : Int) = 0)) = false := by simp
  rw [e0, decide_eq_false (by omega : ¬ i > d), decide_eq_false (by omega : ¬ b < 0), decide_eq_false (by omega : ¬ b > 10000), decide_eq_false (by omega : ¬ o < 0)]
  by_cases hp : o > 0
  · have := h1 hp
    rw [decide_eq_true hp, decide_eq_false (by omega : ¬ d ≤ 200400200), decide_eq_true this.2, decide_eq_false (by omega : ¬ o = 0)]
    simp
  · have hz : o = 0 := by omega
    have := h2 hz
    rw [decide_eq_false hp, decide_eq_true hz, decide_eq_true this]
    cases gt with
    | false => simp
    | true => rw [decide_eq_false (by have := h3 rfl hz; omega : ¬ b > 100)]; simp

set_option maxRecDepth 100000 in
theorem lawGro_c (h w st sh more : Int) (W : World) : Calls Try.prog 6 #[.int .i64 h, .int .i64 w, .int .i64 st, .int .i64 sh, .int .i64 more] W fun e w' => e = .returned (.bool true) ∧ Below W.heap.size W w' := by
  refine calls_exec (cf := cf) cfok (fn := Try.f6) Try.func6 rfl [.v (.int .i64 h), .v (.int .i64 w), .v (.int .i64 st), .v (.int .i64 sh), .v (.int .i64 more)] [] (ρ := fun _ => undef) (· < W.heap.size) rfl rfl rfl (by simp [svOkL, svOk]) (memNil fun _ h => h) ?_
  refine And.intro (fun _ => ?_) (fun hm => ?_)
  · refine Or.inl ⟨_, fun ρ S w' _ => works_c w', ?_⟩
    exact fun ρ S w' hi => ⟨rfl, hi.below⟩
  have hm : (decide (more < 0) || decide (more > 1099511627776)) = false := hm
  rw [Bool.or_eq_false_iff, decide_eq_false_iff_not, decide_eq_false_iff_not] at hm
  cases hk : okF h w st sh with
  | false =>
    refine Or.inl ⟨.tuple #[.int .i64 0, .int .i64 0, .int .i64 2], fun ρ S w' _ => by
      have := badness_c h w st sh w'
      unfold badnessF at this
      rw [hk, if_neg (by decide)] at this
      exact this, ?_⟩
    refine And.intro (fun _ => ?_) (fun hf => absurd hf (by decide))
    refine Or.inl ⟨_, fun _ ρ S w' _ => works_c w', ?_⟩
    exact fun ρ S w' hi => ⟨rfl, hi.below⟩
  | true =>
    have i := okF_iff.1 hk
    obtain ⟨a1, a2, a3, a4, a5, a6, a7, a8⟩ := id i
    obtain ⟨r1, r2, r3, r4⟩ := badF_range i
    refine Or.inl ⟨.tuple #[.int .i64 (badF h w st sh).1, .int .i64 (badF h w st sh).2, .int .i64 0], fun ρ S w' _ => by
      have := badness_c h w st sh w'
      unfold badnessF at this
      rw [hk, if_pos rfl] at this
      exact this, ?_⟩
    refine And.intro (fun hf => absurd hf (by decide)) (fun _ => ?_)
    -- the line that is farther from what is wanted
    have hfar : ∀ x : Int, x = farF h w more → (badnessF x w st sh).2.2 = 0 → h ≠ w → (badF h w st sh).1 ≤ (badnessF x w st sh).1 ∧ (badF h w st sh).2 ≤ (badnessF x w st sh).2.1 := fun x hx hz hne => by
      subst hx; exact grows1 a1 a5 a7 (by omega) hne hz
    have rest : ∀ (F : Int × Int × Int), (F.2.2 = 0 → h ≠ w → (badF h w st sh).1 ≤ F.1 ∧ (badF h w st sh).2 ≤ F.2.1) →
        ((decide (F.2.2 = 0) && !decide (h = w)) && (decide (F.1 < (badF h w st sh).1) || decide (F.2.1 < (badF h w st sh).2))) = false := fun F hF => by
      by_cases z : F.2.2 = 0
      · by_cases e : h = w
        · rw [decide_eq_true e]; simp
        · have := hF z e
          rw [decide_eq_false (by omega : ¬ F.1 < _), decide_eq_false (by omega : ¬ F.2.1 < _)]; simp
      · rw [decide_eq_false z]; rfl
    have hw1 : IntKind.i64.wrap (h + more) = h + more := i64_id _ (by omega) (by omega)
    have hw2 : IntKind.i64.wrap (h - more) = h - more := i64_id _ (by omega) (by omega)
    obtain ⟨q0, q1⟩ := sq_range r1 r2
    obtain ⟨d, hd⟩ : ∃ d, d = if (badF h w st sh).2 > 0 then 1000000000000 + (badF h w st sh).2 else ((badF h w st sh).1 + 10) * ((badF h w st sh).1 + 10) := ⟨_, rfl⟩
    obtain ⟨i', hi'⟩ : ∃ i', i' = (demF h w st sh true).1 := ⟨_, rfl⟩
    have D0 : demF h w st sh false = (d, 0) := by
      unfold demF
      rw [if_pos hk, hd]
      split
      · rfl
      · rw [if_neg (by simp)]
    have D1 : demF h w st sh true = (i', 0) := by
      rw [hi']
      unfold demF
      rw [if_pos hk]
      split
      · rfl
      · split <;> rfl
    have hid : i' ≤ d := by
      rw [hi', hd]
      unfold demF
      rw [if_pos hk]
      split
      · exact Int.le_refl _
      · split
        · have : 10 * 10 ≤ ((badF h w st sh).1 + 10) * ((badF h w st sh).1 + 10) := Int.mul_le_mul (by omega) (by omega) (by omega) (by omega)
          exact this
        · exact Int.le_refl _
    have hd1 : (badF h w st sh).2 > 0 → 200400200 < d ∧ d = 1000000000000 + (badF h w st sh).2 := fun ho => by
      rw [if_pos ho] at hd; omega
    have hd2 : (badF h w st sh).2 = 0 → d = (10 + (badF h w st sh).1) * (10 + (badF h w st sh).1) := fun ho => by
      rw [if_neg (by omega)] at hd
      rw [hd, Int.add_comm 10]
    have v1 : IntKind.i64.wrap (1000000000000 + (badF h w st sh).2) = 1000000000000 + (badF h w st sh).2 := i64_id _ (by omega) (by omega)
    have v2 : IntKind.i64.wrap (10 + (badF h w st sh).1) = 10 + (badF h w st sh).1 := i64_id _ (by omega) (by omega)
    have v3 : IntKind.i64.wrap ((10 + (badF h w st sh).1) * (10 + (badF h w st sh).1)) = (10 + (badF h w st sh).1) * (10 + (badF h w st sh).1) := by
      rw [Int.add_comm 10]; exact i64_id _ (by omega) (by omega)
    obtain ⟨st', hst⟩ : ∃ st', st' = min 1099511627776 (st + more) := ⟨_, rfl⟩
    have hst' : min 1099511627776 (IntKind.i64.wrap (st + more)) = st' := by rw [i64_id (st + more) (by omega) (by omega), hst]
    have hk' : okF h w st' sh = true := okF_iff.2 ⟨a1, a2, a3, a4, by omega, by omega, a7, a8⟩
    have hg2 : (badF h w st' sh).1 ≤ (badF h w st sh).1 := grows2 a5 (by omega) a1
    refine And.intro (fun hl => ?_) (fun hl => ?_)
    · have hl : h < w := of_decide_eq_true hl
      have hx : max 0 (IntKind.i64.wrap (h - more)) = farF h w more := by unfold farF; rw [if_pos hl, hw2]
      refine Or.inl ⟨_, fun ρ S w' _ => badness_c (max 0 (IntKind.i64.wrap (h - more))) w st sh w', ?_⟩
      have hF := rest (badnessF (max 0 (IntKind.i64.wrap (h - more))) w st sh) (hfar _ hx)
      generalize badnessF (max 0 (IntKind.i64.wrap (h - more))) w st sh = F at *
      refine And.intro (fun hf => absurd (hF.symm.trans hf) (by decide)) (fun _ => ?_)
      refine Or.inl ⟨.tuple #[.int .i64 d, .int .i64 0], fun ρ S w' _ => by
        have := demerits_c h w st sh false w'
        rw [D0] at this
        exact this, ?_⟩
      refine Or.inl ⟨.tuple #[.int .i64 i', .int .i64 0], fun ρ S w' _ => by
        have := demerits_c h w st sh true w'
        rw [D1] at this
        exact this, ?_⟩
      refine And.intro (fun hf => ?_) (fun _ => ?_)
      · exfalso
        have hf : ((((((((((!decide ((0 : Int) = 0) || !decide ((0 : Int) = 0)) || decide (i' > d)) || decide ((badF h w st sh).1 < 0)) || decide ((badF h w st sh).1 > 10000)) || decide ((badF h w st sh).2 < 0)) || (decide ((badF h w st sh).2 > 0) && (decide (d ≤ 200400200) || !decide (d = IntKind.i64.wrap (1000000000000 + (badF h w st sh).2))))) || (decide ((badF h w st sh).2 = 0) && !decide (d = IntKind.i64.wrap (IntKind.i64.wrap (10 + (badF h w st sh).1) * IntKind.i64.wrap (10 + (badF h w st sh).1))))) || ((decide (h > w) && decide ((badF h w st sh).2 = 0)) && decide ((badF h w st sh).1 > 100))))) = true := hf
        rw [v1, v2, v3] at hf
        rw [growK r1 r2 r3 hid hd1 hd2 (fun hg ho => grows3 (of_decide_eq_true hg) ho a7)] at hf
        cases hf
      refine Or.inl ⟨.tuple #[.int .i64 (badF h w st' sh).1, .int .i64 (badF h w st' sh).2, .int .i64 0], fun ρ S w' _ => by
        show Calls _ 9 #[.int .i64 h, .int .i64 w, .int .i64 (min 1099511627776 (IntKind.i64.wrap (st + more))), .int .i64 sh] _ _
        rw [hst']
        have := badness_c h w st' sh w'
        unfold badnessF at this
        rw [hk', if_pos rfl] at this
        exact this, ?_⟩
      refine Or.inl ⟨_, fun _ ρ S w' _ => works_c w', ?_⟩
      refine fun ρ S w' hi => ⟨?_, hi.below⟩
      show Ending.returned (.bool ((true && decide ((badF h w st' sh).1 ≤ (badF h w st sh).1)) && true)) = _
      rw [decide_eq_true hg2]
      rfl
    · have hl : ¬ h < w := of_decide_eq_false hl
      have hx : IntKind.i64.wrap (h + more) = farF h w more := by unfold farF; rw [if_neg hl, hw1]
      refine Or.inl ⟨_, fun ρ S w' _ => badness_c (IntKind.i64.wrap (h + more)) w st sh w', ?_⟩
      have hF := rest (badnessF (IntKind.i64.wrap (h + more)) w st sh) (hfar _ hx)
      generalize badnessF (IntKind.i64.wrap (h + more)) w st sh = F at *
      refine And.intro (fun hf => absurd (hF.symm.trans hf) (by decide)) (fun _ => ?_)
      refine Or.inl ⟨.tuple #[.int .i64 d, .int .i64 0], fun ρ S w' _ => by
        have := demerits_c h w st sh false w'
        rw [D0] at this
        exact this, ?_⟩
      refine Or.inl ⟨.tuple #[.int .i64 i', .int .i64 0], fun ρ S w' _ => by
        have := demerits_c h w st sh true w'
        rw [D1] at this
        exact this, ?_⟩
      refine And.intro (fun hf => ?_) (fun _ => ?_)
      · exfalso
        have hf : ((((((((((!decide ((0 : Int) = 0) || !decide ((0 : Int) = 0)) || decide (i' > d)) || decide ((badF h w st sh).1 < 0)) || decide ((badF h w st sh).1 > 10000)) || decide ((badF h w st sh).2 < 0)) || (decide ((badF h w st sh).2 > 0) && (decide (d ≤ 200400200) || !decide (d = IntKind.i64.wrap (1000000000000 + (badF h w st sh).2))))) || (decide ((badF h w st sh).2 = 0) && !decide (d = IntKind.i64.wrap (IntKind.i64.wrap (10 + (badF h w st sh).1) * IntKind.i64.wrap (10 + (badF h w st sh).1))))) || ((decide (h > w) && decide ((badF h w st sh).2 = 0)) && decide ((badF h w st sh).1 > 100))))) = true := hf
        rw [v1, v2, v3] at hf
        rw [growK r1 r2 r3 hid hd1 hd2 (fun hg ho => grows3 (of_decide_eq_true hg) ho a7)] at hf
        cases hf
      refine Or.inl ⟨.tuple #[.int .i64 (badF h w st' sh).1, .int .i64 (badF h w st' sh).2, .int .i64 0], fun ρ S w' _ => by
        show Calls _ 9 #[.int .i64 h, .int .i64 w, .int .i64 (min 1099511627776 (IntKind.i64.wrap (st + more))), .int .i64 sh] _ _
        rw [hst']
        have := badness_c h w st' sh w'
        unfold badnessF at this
        rw [hk', if_pos rfl] at this
        exact this, ?_⟩
      refine Or.inl ⟨_, fun _ ρ S w' _ => works_c w', ?_⟩
      refine fun ρ S w' hi => ⟨?_, hi.below⟩
      show Ending.returned (.bool ((true && decide ((badF h w st' sh).1 ≤ (badF h w st sh).1)) && true)) = _
      rw [decide_eq_true hg2]
      rfl
end Go.Proofs.Ytciflfejkncdeaa
