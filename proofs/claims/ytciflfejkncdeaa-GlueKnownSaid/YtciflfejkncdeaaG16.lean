/- glue: the reference's Badness, Demerits and Space of both. -/
import Derived.Test.YtciflfejkncdeaaG15
namespace Go.Proofs.Ytciflfejkncdeaa
open Go Go.Eng Go.RowKit Go.Ar

theorem notOk {h w st sh : Int} : (((!okN h || !okN w) || !okN st) || !okN sh) = !okF h w st sh := by
  unfold okF
  cases okN h <;> cases okN w <;> cases okN st <;> cases okN sh <;> rfl
theorem badness2_c (h w st sh : Int) (W : World) : Calls Try.prog 10 #[.int .i64 h, .int .i64 w, .int .i64 st, .int .i64 sh] W fun e w' => e = .returned (.tuple #[.int .i64 (badnessF h w st sh).1, .int .i64 (badnessF h w st sh).2.1, .int .i64 (badnessF h w st sh).2.2]) ∧ Below W.heap.size W w' := by
  refine calls_exec (cf := cf) cfok (fn := Try.f10) Try.func10 rfl [.v (.int .i64 h), .v (.int .i64 w), .v (.int .i64 st), .v (.int .i64 sh)] [] (ρ := fun _ => undef) (· < W.heap.size) rfl rfl rfl (by simp [svOkL, svOk]) (memNil fun _ h => h) ?_
  refine Or.inl ⟨.bool (okN h), fun ρ S w' _ => right2_c h w', ?_⟩
  refine Or.inl ⟨.bool (okN w), fun _ ρ S w' _ => right2_c w w', ?_⟩
  refine Or.inl ⟨.bool (okN st), fun _ ρ S w' _ => right2_c st w', ?_⟩
  refine Or.inl ⟨.bool (okN sh), fun _ ρ S w' _ => right2_c sh w', ?_⟩
  unfold badnessF
  refine And.intro (fun hk => ?_) (fun hk => ?_)
  · have hk : (((!okN h || !okN w) || !okN st) || !okN sh) = true := hk
    rw [notOk, Bool.not_eq_true'] at hk
    rw [hk, if_neg (by decide)]
    exact fun ρ S w' hi => ⟨rfl, hi.below⟩
  have hk : (((!okN h || !okN w) || !okN st) || !okN sh) = false := hk
  rw [notOk, Bool.not_eq_false'] at hk
  rw [if_pos hk]
  have i := okF_iff.1 hk
  obtain ⟨a1, a2, a3, a4, a5, a6, a7, a8⟩ := id i
  unfold badF
  have hs1 : IntKind.i64.wrap (w - h) = w - h := i64_id _ (by omega) (by omega)
  have hs2 : IntKind.i64.wrap (h - w) = h - w := i64_id _ (by omega) (by omega)
  have hs3 : IntKind.i64.wrap (w + sh) = w + sh := i64_id _ (by omega) (by omega)
  refine And.intro (fun he => ?_) (fun he => ?_)
  · have he : h = w := of_decide_eq_true he
    rw [if_pos he]
    exact fun ρ S w' hi => ⟨rfl, hi.below⟩
  have he : ¬ h = w := of_decide_eq_false he
  rw [if_neg he]
  refine And.intro (fun hl => ?_) (fun hl => ?_)
  · have hl : h < w := of_decide_eq_true hl
    rw [if_pos hl]
    refine Or.inl ⟨.int .i64 (cubeF (w - h) st), fun ρ S w' _ => by
      show Calls _ 23 #[.int .i64 (IntKind.i64.wrap (w - h)), .int .i64 st] _ _
      rw [hs1]
      exact cube2_c (w - h) st w' ⟨by omega, by omega⟩ ⟨by omega, by omega⟩, ?_⟩
    exact fun ρ S w' hi => ⟨rfl, hi.below⟩
  have hl : ¬ h < w := of_decide_eq_false hl
  rw [if_neg hl]
  refine And.intro (fun ho => ?_) (fun ho => ?_)
  · have ho : h > IntKind.i64.wrap (w + sh) := of_decide_eq_true ho
    rw [hs3] at ho
    rw [if_pos ho]
    refine fun ρ S w' hi => ⟨retI ?_, hi.below⟩
    show (10000, IntKind.i64.wrap (IntKind.i64.wrap (h - w) - sh), (0 : Int)) = (10000, h - w - sh, 0)
    rw [hs2, i64_id _ (by omega) (by omega)]
  · have ho : ¬ h > IntKind.i64.wrap (w + sh) := of_decide_eq_false ho
    rw [hs3] at ho
    rw [if_neg ho]
    refine Or.inl ⟨.int .i64 (cubeF (h - w) sh), fun ρ S w' _ => by
      show Calls _ 23 #[.int .i64 (IntKind.i64.wrap (h - w)), .int .i64 sh] _ _
      rw [hs2]
      exact cube2_c (h - w) sh w' ⟨by omega, by omega⟩ ⟨by omega, by omega⟩, ?_⟩
    exact fun ρ S w' hi => ⟨rfl, hi.below⟩

theorem cubeF_range {d s : Int} (hd : 0 ≤ d) (hs : 0 ≤ s) : 0 ≤ cubeF d s ∧ cubeF d s ≤ 10000 := by
  unfold cubeF
  by_cases h : s = 0
  · rw [if_pos h]; omega
  · rw [if_neg h]
    obtain ⟨q0, q1⟩ := q_range (d := d) (s := s) hd (by omega)
    show 0 ≤ min 10000 (100 * min (d * 1024 / s) 8192 * min (d * 1024 / s) 8192 * min (d * 1024 / s) 8192 / 1073741824) ∧ min 10000 _ ≤ 10000
    generalize min (d * 1024 / s) 8192 = q at *
    obtain ⟨a1, a2, a3, a4, a5, a6⟩ := cube_bound q0 q1
    have : 0 ≤ 100 * q * q * q / 1073741824 := Int.ediv_nonneg a5 (by decide)
    omega
theorem badF_range {h w st sh : Int} (i : In4 h w st sh) : 0 ≤ (badF h w st sh).1 ∧ (badF h w st sh).1 ≤ 10000 ∧ 0 ≤ (badF h w st sh).2 ∧ (badF h w st sh).2 ≤ 1099511627776 := by
  obtain ⟨a1, a2, a3, a4, a5, a6, a7, a8⟩ := i
  unfold badF
  split
  · exact ⟨by decide, by decide, by decide, by decide⟩
  · split
    · have := cubeF_range (d := w - h) (s := st) (by omega) a5
      exact ⟨this.1, this.2, by show (0 : Int) ≤ 0; omega, by show (0 : Int) ≤ _; omega⟩
    · split
      · exact ⟨by show (0 : Int) ≤ 10000; omega, by show (10000 : Int) ≤ 10000; omega, by show 0 ≤ h - w - sh; omega, by show h - w - sh ≤ _; omega⟩
      · have := cubeF_range (d := h - w) (s := sh) (by omega) a7
        exact ⟨this.1, this.2, by show (0 : Int) ≤ 0; omega, by show (0 : Int) ≤ _; omega⟩
theorem sq_range {b : Int} (h0 : 0 ≤ b) (h1 : b ≤ 10000) : 0 ≤ (b + 10) * (b + 10) ∧ (b + 10) * (b + 10) ≤ 100200100 := by
  have a1 : 0 ≤ (b + 10) * (b + 10) := Int.mul_nonneg (by omega) (by omega)
  have a2 : (b + 10) * (b + 10) ≤ 10010 * 10010 := Int.mul_le_mul (by omega) (by omega) (by omega) (by omega)
  omega
theorem demerits_c (h w st sh : Int) (last : Bool) (W : World) : Calls Try.prog 14 #[.int .i64 h, .int .i64 w, .int .i64 st, .int .i64 sh, .bool last] W fun e w' => e = .returned (.tuple #[.int .i64 (demF h w st sh last).1, .int .i64 (demF h w st sh last).2]) ∧ Below W.heap.size W w' := by
  refine calls_exec (cf := cf) cfok (fn := Try.f14) Try.func14 rfl [.v (.int .i64 h), .v (.int .i64 w), .v (.int .i64 st), .v (.int .i64 sh), .v (.bool last)] [] (ρ := fun _ => undef) (· < W.heap.size) rfl rfl rfl (by simp [svOkL, svOk]) (memNil fun _ h => h) ?_
  unfold demF
  cases hk : okF h w st sh with
  | false =>
    refine Or.inl ⟨.tuple #[.int .i64 0, .int .i64 0, .int .i64 2], fun ρ S w' _ => by
      have := badness_c h w st sh w'
      unfold badnessF at this
      rw [hk, if_neg (by decide)] at this
      exact this, ?_⟩
    rw [if_neg (by decide)]
    refine And.intro (fun _ => ?_) (fun hf => absurd hf (by decide))
    exact fun ρ S w' hi => ⟨rfl, hi.below⟩
  | true =>
    refine Or.inl ⟨.tuple #[.int .i64 (badF h w st sh).1, .int .i64 (badF h w st sh).2, .int .i64 0], fun ρ S w' _ => by
      have := badness_c h w st sh w'
      unfold badnessF at this
      rw [hk, if_pos rfl] at this
      exact this, ?_⟩
    rw [if_pos rfl]
    obtain ⟨r1, r2, r3, r4⟩ := badF_range (okF_iff.1 hk)
    refine And.intro (fun hf => absurd hf (by decide)) (fun _ => ?_)
    refine And.intro (fun ho => ?_) (fun ho => ?_)
    · have ho : (badF h w st sh).2 > 0 := of_decide_eq_true ho
      rw [if_pos ho]
      refine fun ρ S w' hi => ⟨num_ret ?_, hi.below⟩
      show (IntKind.i64.wrap (1000000000000 + (badF h w st sh).2), (0 : Int)) = (1000000000000 + (badF h w st sh).2, 0)
      rw [i64_id _ (by omega) (by omega)]
    have ho : ¬ (badF h w st sh).2 > 0 := of_decide_eq_false ho
    rw [if_neg ho]
    obtain ⟨s0, s1⟩ := sq_range r1 r2
    refine And.intro (fun hl => ?_) (fun hl => ?_)
    · have hl : (last && decide (h < w)) = true := hl
      rw [Bool.and_eq_true, decide_eq_true_iff] at hl
      rw [if_pos hl]
      exact fun ρ S w' hi => ⟨rfl, hi.below⟩
    · have hl : (last && decide (h < w)) = false := hl
      rw [if_neg (by
        rintro ⟨e1, e2⟩
        rw [e1, decide_eq_true e2] at hl
        cases hl)]
      refine fun ρ S w' hi => ⟨num_ret ?_, hi.below⟩
      show (IntKind.i64.wrap (IntKind.i64.wrap ((badF h w st sh).1 + 10) * IntKind.i64.wrap ((badF h w st sh).1 + 10)), (0 : Int)) = (((badF h w st sh).1 + 10) * ((badF h w st sh).1 + 10), 0)
      rw [i64_id ((badF h w st sh).1 + 10) (by omega) (by omega), i64_id _ (by omega) (by omega)]
theorem demerits2_c (h w st sh : Int) (last : Bool) (W : World) : Calls Try.prog 15 #[.int .i64 h, .int .i64 w, .int .i64 st, .int .i64 sh, .bool last] W fun e w' => e = .returned (.tuple #[.int .i64 (demF h w st sh last).1, .int .i64 (demF h w st sh last).2]) ∧ Below W.heap.size W w' := by
  refine calls_exec (cf := cf) cfok (fn := Try.f15) Try.func15 rfl [.v (.int .i64 h), .v (.int .i64 w), .v (.int .i64 st), .v (.int .i64 sh), .v (.bool last)] [] (ρ := fun _ => undef) (· < W.heap.size) rfl rfl rfl (by simp [svOkL, svOk]) (memNil fun _ h => h) ?_
  unfold demF
  cases hk : okF h w st sh with
  | false =>
    refine Or.inl ⟨.tuple #[.int .i64 0, .int .i64 0, .int .i64 2], fun ρ S w' _ => by
      have := badness2_c h w st sh w'
      unfold badnessF at this
      rw [hk, if_neg (by decide)] at this
      exact this, ?_⟩
    rw [if_neg (by decide)]
    refine And.intro (fun _ => ?_) (fun hf => absurd hf (by decide))
    exact fun ρ S w' hi => ⟨rfl, hi.below⟩
  | true =>
    refine Or.inl ⟨.tuple #[.int .i64 (badF h w st sh).1, .int .i64 (badF h w st sh).2, .int .i64 0], fun ρ S w' _ => by
      have := badness2_c h w st sh w'
      unfold badnessF at this
      rw [hk, if_pos rfl] at this
      exact this, ?_⟩
    rw [if_pos rfl]
    obtain ⟨r1, r2, r3, r4⟩ := badF_range (okF_iff.1 hk)
    refine And.intro (fun hf => absurd hf (by decide)) (fun _ => ?_)
    refine And.intro (fun ho => ?_) (fun ho => ?_)
    · have ho : (badF h w st sh).2 > 0 := of_decide_eq_true ho
      rw [if_pos ho]
      refine fun ρ S w' hi => ⟨num_ret ?_, hi.below⟩
      show (IntKind.i64.wrap (1000000000000 + (badF h w st sh).2), (0 : Int)) = (1000000000000 + (badF h w st sh).2, 0)
      rw [i64_id _ (by omega) (by omega)]
    have ho : ¬ (badF h w st sh).2 > 0 := of_decide_eq_false ho
    rw [if_neg ho]
    obtain ⟨s0, s1⟩ := sq_range r1 r2
    refine And.intro (fun hl => ?_) (fun hl => ?_)
    · have hl : (last && decide (h < w)) = true := hl
      rw [Bool.and_eq_true, decide_eq_true_iff] at hl
      rw [if_pos hl]
      exact fun ρ S w' hi => ⟨rfl, hi.below⟩
    · have hl : (last && decide (h < w)) = false := hl
      rw [if_neg (by
        rintro ⟨e1, e2⟩
        rw [e1, decide_eq_true e2] at hl
        cases hl)]
      refine fun ρ S w' hi => ⟨num_ret ?_, hi.below⟩
      show (IntKind.i64.wrap (IntKind.i64.wrap (10 + (badF h w st sh).1) * IntKind.i64.wrap (10 + (badF h w st sh).1)), (0 : Int)) = (((badF h w st sh).1 + 10) * ((badF h w st sh).1 + 10), 0)
      rw [i64_id (10 + (badF h w st sh).1) (by omega) (by omega), Int.add_comm 10, i64_id _ (by omega) (by omega)]

theorem space_c (n : Int) (W : World) : Calls Try.prog 16 #[.int .i64 n] W fun e w' => e = .returned (.tuple #[.int .i64 (spaceF n).1, .int .i64 (spaceF n).2.1, .int .i64 (spaceF n).2.2]) ∧ Below W.heap.size W w' := by
  refine calls_exec (cf := cf) cfok (fn := Try.f16) Try.func16 rfl [.v (.int .i64 n)] [] (ρ := fun _ => undef) (· < W.heap.size) rfl rfl rfl (by simp [svOkL, svOk]) (memNil fun _ h => h) ?_
  refine Or.inl ⟨.bool ([n].all okN), fun ρ S w' hm => right_c [n] _ w' (by simp) (hm.raw (enc := iE) 0 rfl rfl [n] (List.flatMap iE [n]) rfl rfl rfl (fun _ _ => rfl)), ?_⟩
  have hall : [n].all okN = okN n := by simp
  unfold spaceF
  refine And.intro (fun hk => ?_) (fun hk => ?_)
  · have hk : (![n].all okN) = true := hk
    rw [hall, Bool.not_eq_true'] at hk
    rw [hk, if_neg (by decide)]
    exact fun ρ S w' hi => ⟨rfl, hi.below⟩
  have hk : (![n].all okN) = false := hk
  rw [hall, Bool.not_eq_false'] at hk
  rw [if_pos hk]
  have hn := okN_iff.1 hk
  refine And.intro (show (2 : Int) = 0 → False by decide) ?_
  refine And.intro (show (3 : Int) = 0 → False by decide) ?_
  refine fun ρ S w' hi => ⟨retI ?_, hi.below⟩
  show (IntKind.i64.wrap (n.tdiv 2), IntKind.i64.wrap (n.tdiv 3), (0 : Int)) = (n / 2, n / 3, 0)
  rw [Int.tdiv_eq_ediv_of_nonneg hn.1, Int.tdiv_eq_ediv_of_nonneg hn.1, i64_id _ (by omega) (by omega), i64_id _ (by omega) (by omega)]
theorem space2_c (n : Int) (W : World) : Calls Try.prog 17 #[.int .i64 n] W fun e w' => e = .returned (.tuple #[.int .i64 (spaceF n).1, .int .i64 (spaceF n).2.1, .int .i64 (spaceF n).2.2]) ∧ Below W.heap.size W w' := by
  refine calls_exec (cf := cf) cfok (fn := Try.f17) Try.func17 rfl [.v (.int .i64 n)] [] (ρ := fun _ => undef) (· < W.heap.size) rfl rfl rfl (by simp [svOkL, svOk]) (memNil fun _ h => h) ?_
  refine Or.inl ⟨.bool (okN n), fun ρ S w' hm => right2_c n w', ?_⟩
  unfold spaceF
  refine And.intro (fun hk => ?_) (fun hk => ?_)
  · have hk : (!okN n) = true := hk
    rw [Bool.not_eq_true'] at hk
    rw [hk, if_neg (by decide)]
    exact fun ρ S w' hi => ⟨rfl, hi.below⟩
  have hk : (!okN n) = false := hk
  rw [Bool.not_eq_false'] at hk
  rw [if_pos hk]
  have hn := okN_iff.1 hk
  refine And.intro (show (2 : Int) = 0 → False by decide) ?_
  refine And.intro (show (3 : Int) = 0 → False by decide) ?_
  refine fun ρ S w' hi => ⟨retI ?_, hi.below⟩
  show (IntKind.i64.wrap (n.tdiv 2), IntKind.i64.wrap (n.tdiv 3), (0 : Int)) = (n / 2, n / 3, 0)
  rw [Int.tdiv_eq_ediv_of_nonneg hn.1, Int.tdiv_eq_ediv_of_nonneg hn.1, i64_id _ (by omega) (by omega), i64_id _ (by omega) (by omega)]
end Go.Proofs.Ytciflfejkncdeaa
