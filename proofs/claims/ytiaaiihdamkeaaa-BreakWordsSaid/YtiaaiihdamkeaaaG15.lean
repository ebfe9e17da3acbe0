/- glue: Badness and its reference. -/
import Derived.Test.YtiaaiihdamkeaaaG14
namespace Go.Proofs.Ytiaaiihdamkeaaa
open Go Go.Eng Go.RowKit Go.Ar

structure In4 (h w st sh : Int) : Prop where
  h0 : 0 ≤ h
  h1 : h ≤ 1099511627776
  w0 : 0 ≤ w
  w1 : w ≤ 1099511627776
  s0 : 0 ≤ st
  s1 : st ≤ 1099511627776
  k0 : 0 ≤ sh
  k1 : sh ≤ 1099511627776
theorem okF_iff {h w st sh : Int} : okF h w st sh = true ↔ In4 h w st sh := by
  unfold okF
  rw [Bool.and_eq_true, Bool.and_eq_true, Bool.and_eq_true, okN_iff, okN_iff, okN_iff, okN_iff]
  constructor
  · rintro ⟨⟨⟨a, b⟩, c⟩, d⟩; exact ⟨a.1, a.2, b.1, b.2, c.1, c.2, d.1, d.2⟩
  · intro i; exact ⟨⟨⟨⟨i.h0, i.h1⟩, ⟨i.w0, i.w1⟩⟩, ⟨i.s0, i.s1⟩⟩, ⟨i.k0, i.k1⟩⟩

theorem over_c (h w st sh : Int) (W : World) (i : In4 h w st sh) : Calls Try.prog 28 #[.agg #[.int .i64 h, .int .i64 w, .int .i64 st, .int .i64 sh]] W fun e w' => e = .returned (.int .i64 (overF h w sh)) ∧ Below W.heap.size W w' := by
  refine calls_exec (cf := cf) cfok (fn := Try.f28) Try.func28 rfl [.agg [.v (.int .i64 h), .v (.int .i64 w), .v (.int .i64 st), .v (.int .i64 sh)]] [] (ρ := fun _ => undef) (· < W.heap.size) rfl rfl rfl (by simp [svOkL, svOk]) (memNil fun _ h => h) ?_
  refine fun ρ S w' hi => ⟨ret1 ?_, hi.below⟩
  obtain ⟨a1, a2, a3, a4, a5, a6, a7, a8⟩ := i
  show max 0 (IntKind.i64.wrap (IntKind.i64.wrap (h - w) - sh)) = max 0 (h - w - sh)
  rw [i64_id (h - w) (by omega) (by omega), i64_id _ (by omega) (by omega)]
theorem short_c (h w st sh : Int) (W : World) (i : In4 h w st sh) (hle : h ≤ w) : Calls Try.prog 26 #[.agg #[.int .i64 h, .int .i64 w, .int .i64 st, .int .i64 sh]] W fun e w' => e = .returned (.int .i64 (if w - h = 0 then 0 else cubeF (w - h) st)) ∧ Below W.heap.size W w' := by
  refine calls_exec (cf := cf) cfok (fn := Try.f26) Try.func26 rfl [.agg [.v (.int .i64 h), .v (.int .i64 w), .v (.int .i64 st), .v (.int .i64 sh)]] [] (ρ := fun _ => undef) (· < W.heap.size) rfl rfl rfl (by simp [svOkL, svOk]) (memNil fun _ h => h) ?_
  obtain ⟨a1, a2, a3, a4, a5, a6, a7, a8⟩ := i
  have hs : IntKind.i64.wrap (w - h) = w - h := i64_id _ (by omega) (by omega)
  refine Or.inl ⟨.int .i64 (if w - h = 0 then 0 else cubeF (w - h) st), fun ρ S w' _ => by
    show Calls _ 29 #[.int .i64 (IntKind.i64.wrap (w - h)), .int .i64 st] _ _
    rw [hs]
    exact cube_c (w - h) st w' ⟨by omega, by omega⟩ ⟨by omega, by omega⟩, ?_⟩
  exact fun ρ S w' hi => ⟨rfl, hi.below⟩
theorem long_c (h w st sh : Int) (W : World) (i : In4 h w st sh) (hgt : w < h) : Calls Try.prog 27 #[.agg #[.int .i64 h, .int .i64 w, .int .i64 st, .int .i64 sh]] W fun e w' => e = .returned (.int .i64 (if h > w + sh then 10000 else cubeF (h - w) sh)) ∧ Below W.heap.size W w' := by
  refine calls_exec (cf := cf) cfok (fn := Try.f27) Try.func27 rfl [.agg [.v (.int .i64 h), .v (.int .i64 w), .v (.int .i64 st), .v (.int .i64 sh)]] [] (ρ := fun _ => undef) (· < W.heap.size) rfl rfl rfl (by simp [svOkL, svOk]) (memNil fun _ h => h) ?_
  obtain ⟨a1, a2, a3, a4, a5, a6, a7, a8⟩ := id i
  refine Or.inl ⟨.int .i64 (overF h w sh), fun ρ S w' _ => over_c h w st sh w' i, ?_⟩
  unfold overF
  refine And.intro (fun hg => ?_) (fun hg => ?_)
  · have hg : max 0 (h - w - sh) > 0 := of_decide_eq_true hg
    rw [if_pos (by omega)]
    exact fun ρ S w' hi => ⟨rfl, hi.below⟩
  · have hg : ¬ max 0 (h - w - sh) > 0 := of_decide_eq_false hg
    rw [if_neg (by omega)]
    have hs : IntKind.i64.wrap (h - w) = h - w := i64_id _ (by omega) (by omega)
    refine Or.inl ⟨.int .i64 (if h - w = 0 then 0 else cubeF (h - w) sh), fun ρ S w' _ => by
      show Calls _ 29 #[.int .i64 (IntKind.i64.wrap (h - w)), .int .i64 sh] _ _
      rw [hs]
      exact cube_c (h - w) sh w' ⟨by omega, by omega⟩ ⟨by omega, by omega⟩, ?_⟩
    rw [if_neg (by omega)]
    exact fun ρ S w' hi => ⟨rfl, hi.below⟩

theorem okAll {h w st sh : Int} : [h, w, st, sh].all okN = okF h w st sh := by
  simp only [List.all_cons, List.all_nil, Bool.and_true, okF, Bool.and_assoc]
theorem retI {a b c d e f : Int} (h : (a, b, c) = (d, e, f)) : Ending.returned (.tuple #[.int .i64 a, .int .i64 b, .int .i64 c]) = .returned (.tuple #[.int .i64 d, .int .i64 e, .int .i64 f]) := by
  rw [Prod.mk.injEq, Prod.mk.injEq] at h; rw [h.1, h.2.1, h.2.2]
theorem badness_c (h w st sh : Int) (W : World) : Calls Try.prog 24 #[.int .i64 h, .int .i64 w, .int .i64 st, .int .i64 sh] W fun e w' => e = .returned (.tuple #[.int .i64 (badnessF h w st sh).1, .int .i64 (badnessF h w st sh).2.1, .int .i64 (badnessF h w st sh).2.2]) ∧ Below W.heap.size W w' := by
  refine calls_exec (cf := cf) cfok (fn := Try.f24) Try.func24 rfl [.v (.int .i64 h), .v (.int .i64 w), .v (.int .i64 st), .v (.int .i64 sh)] [] (ρ := fun _ => undef) (· < W.heap.size) rfl rfl rfl (by simp [svOkL, svOk]) (memNil fun _ h => h) ?_
  refine Or.inl ⟨.bool (okF h w st sh), fun ρ S w' hm => by
    rw [← okAll]
    exact right_c [h, w, st, sh] _ w' (by simp) (hm.raw (enc := iE) 0 rfl rfl [h, w, st, sh] (List.flatMap iE [h, w, st, sh]) rfl rfl rfl (fun _ _ => rfl)), ?_⟩
  unfold badnessF
  refine And.intro (fun hk => ?_) (fun hk => ?_)
  · have hk : (!okF h w st sh) = true := hk
    rw [Bool.not_eq_true'] at hk
    rw [hk, if_neg (by decide)]
    exact fun ρ S w' hi => ⟨rfl, hi.below⟩
  have hk : (!okF h w st sh) = false := hk
  rw [Bool.not_eq_false'] at hk
  rw [hk, if_pos rfl]
  have i := okF_iff.1 hk
  obtain ⟨a1, a2, a3, a4, a5, a6, a7, a8⟩ := id i
  unfold badF
  refine And.intro (fun hg => ?_) (fun hg => ?_)
  · have hg : h > w := of_decide_eq_true hg
    refine Or.inl ⟨by kernel_rfl, ?_⟩
    refine ⟨.int .i64 (if h > w + sh then 10000 else cubeF (h - w) sh), fun ρ S w' _ => long_c h w st sh w' i hg, ?_⟩
    refine ⟨.int .i64 (overF h w sh), fun ρ S w' _ => over_c h w st sh w' i, ?_⟩
    refine fun ρ S w' hi => ⟨retI ?_, hi.below⟩
    rw [if_neg (by omega : ¬ h = w), if_neg (by omega : ¬ h < w)]
    unfold overF
    by_cases ho : h > w + sh
    · rw [if_pos ho, if_pos ho]
      show (10000, max 0 (h - w - sh), (0 : Int)) = (10000, h - w - sh, 0)
      rw [show max 0 (h - w - sh) = h - w - sh by omega]
    · rw [if_neg ho, if_neg ho]
      show (cubeF (h - w) sh, max 0 (h - w - sh), (0 : Int)) = (cubeF (h - w) sh, 0, 0)
      rw [show max 0 (h - w - sh) = 0 by omega]
  · have hg : ¬ h > w := of_decide_eq_false hg
    refine Or.inl ⟨by kernel_rfl, ?_⟩
    refine ⟨.int .i64 (if w - h = 0 then 0 else cubeF (w - h) st), fun ρ S w' _ => short_c h w st sh w' i (by omega), ?_⟩
    refine ⟨.int .i64 (overF h w sh), fun ρ S w' _ => over_c h w st sh w' i, ?_⟩
    refine fun ρ S w' hi => ⟨retI ?_, hi.below⟩
    unfold overF
    rw [show max 0 (h - w - sh) = 0 by omega]
    by_cases he : h = w
    · rw [if_pos (by omega), if_pos he]
    · rw [if_neg (by omega), if_neg he, if_pos (by omega)]
end Go.Proofs.Ytiaaiihdamkeaaa
