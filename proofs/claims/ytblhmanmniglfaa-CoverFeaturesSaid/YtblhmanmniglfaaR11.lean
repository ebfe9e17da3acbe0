/- works; the law CoverAt. -/
import Derived.Test.YtblhmanmniglfaaR10
namespace Go.Proofs.Ytblhmanmniglfaa
open Go Go.Eng Go.RowKit

theorem cov_o (b : List Int) (at' g : Int) (hb : b.length ≤ 1000000) (ha : IntKind.i64.wrap at' = at') (o : Option (List Int)) (ho : covX b at' g = o) (v : Value) (w : World) (hv : Rdr w v b) :
    Calls Try.prog 8 #[v, .int .i64 at', .int .i64 g] w (OutH o 50 w) := by
  subst ho; exact (cov_c b at' g hb ha v w hv).mono fun e w' h => h.out
theorem cls_o (b : List Int) (at' g : Int) (hb : b.length ≤ 1000000) (ha : IntKind.i64.wrap at' = at') (o : Option (List Int)) (ho : clsX b at' g = o) (v : Value) (w : World) (hv : Rdr w v b) :
    Calls Try.prog 11 #[v, .int .i64 at', .int .i64 g] w (OutB o 50 w) := by
  subst ho; exact (cls_c b at' g hb ha v w hv).mono fun e w' h => h.out
theorem pcl_o (l : List Int) (hl : l.length ≤ 1000 ∨ l.length > 65535) (o : Option (List Int)) (ho : pclX l = o) (v : Value) (w : World) (hv : Rd w v 1 bE l) : Calls Try.prog 15 #[v] w (OutB o 2 w) := by
  subst ho; exact pcl_c l v w hl hv
theorem wk1 : covX [0, 2, 0, 1, 0, 5, 0, 7, 0, 0] 0 9 = some [5, 6, 7] := by decide +kernel
theorem wk2 : clsX [0, 2, 0, 1, 0, 1, 0, 2, 0, 3] 0 4 = some [0, 3, 3, 0] := by decide +kernel
theorem wk3 : pclX [0, 1, 1, 3] = some [0, 2, 0, 2, 0, 1, 0, 2, 0, 1, 0, 3, 0, 3, 0, 3] := by decide +kernel

theorem works_c (w : World) : Calls Try.prog 7 #[] w fun e w' => e = .returned (.bool true) ∧ Below w.heap.size w w' := by
  refine calls_exec (cf := cf) cfok (fn := Try.f7) Try.func7 rfl [] [] (ρ := fun _ => undef) (· < w.heap.size) rfl rfl rfl (by simp [svOkL]) (memNil fun _ h => h) ?_
  refine Or.inr (lcall_frzTo [(0, .rd Int inferInstance 1 bE [0, 2, 0, 1, 0, 5, 0, 7, 0, 0])] ⟨rfl, ⟨rfl, rfl, rfl, fun y hy => rfl⟩, lcall_rep1 (.ptr (rdD [0, 2, 0, 1, 0, 5, 0, 7, 0, 0])) (fun ρ S w hm => open_c _ _ w S hm.lt (by decide) (hm.rdS 0 rfl rfl)) ?_⟩)
  refine Or.inr (lcall_fresh2 [5, 6, 7] (.int .i64 0) (fun ρ S w hm => cov_o _ 0 9 (by decide) (by decide) _ wk1 _ w (hm.rp 1 rfl rfl)) ?_)
  refine Or.inr (lcall_frzTo [(3, .rd Int inferInstance 1 bE [0, 2, 0, 1, 0, 1, 0, 2, 0, 3])] ⟨rfl, ⟨rfl, rfl, rfl, fun y hy => rfl⟩, lcall_rep1 (.ptr (rdD [0, 2, 0, 1, 0, 1, 0, 2, 0, 3])) (fun ρ S w hm => open_c _ _ w S hm.lt (by decide) (hm.rdS 3 rfl rfl)) ?_⟩)
  refine Or.inr (lcall_fresh2 [0, 3, 3, 0] (.int .i64 0) (fun ρ S w hm => cls_o _ 0 4 (by decide) (by decide) _ wk2 _ w (hm.rp 4 rfl rfl)) ?_)
  refine Or.inr (lcall_fresh2 [0, 2, 0, 2, 0, 1, 0, 2, 0, 1, 0, 3, 0, 3, 0, 3] (.int .i64 0) (fun ρ S w hm => pcl_o [0, 1, 1, 3] (.inl (by decide)) _ wk3 _ w (hm.raw 6 rfl rfl [0, 1, 1, 3] _ rfl rfl rfl (fun y hy => rfl))) ?_)
  refine Or.inr (Or.inl ⟨And.intro rfl trivial, ?_⟩)
  refine Or.inl ⟨.bool true, fun g ρ S w hm => samew_c [5, 6, 7] [5, 6, 7] _ _ w (by decide) (hm.own 2 rfl rfl) (hm.raw 8 rfl rfl [5, 6, 7] _ rfl rfl rfl (fun y hy => rfl)), ?_⟩
  refine Or.inr (Or.inl ⟨And.intro rfl trivial, ?_⟩)
  refine Or.inl ⟨.bool true, fun g ρ S w hm => sameb_c [0, 3, 3, 0] _ _ w (hm.own 5 rfl rfl) (hm.raw 9 rfl rfl [0, 3, 3, 0] _ rfl rfl rfl (fun y hy => rfl)), ?_⟩
  refine Or.inr (Or.inl ⟨And.intro rfl trivial, ?_⟩)
  refine Or.inl ⟨.bool true, fun g ρ S w hm => sameb_c [0, 2, 0, 2, 0, 1, 0, 2, 0, 1, 0, 3, 0, 3, 0, 3] _ _ w (hm.own 7 rfl rfl) (hm.raw 10 rfl rfl [0, 2, 0, 2, 0, 1, 0, 2, 0, 1, 0, 3, 0, 3, 0, 3] _ rfl rfl rfl (fun y hy => rfl)), ?_⟩
  exact fun ρ S w' hi => ⟨rfl, hi.below⟩

theorem outR_drop (b : List Int) (a : Int) (h0 : 0 ≤ a) (h1 : a ≤ b.length) (p n : Int) (hp : 0 ≤ p) (hp' : p ≤ 6) : outR (b.drop a.toNat) (0 + p) n = outR b (a + p) n := by
  have hl : ((b.drop a.toNat).length : Int) = b.length - a := by rw [List.length_drop]; omega
  have e : ∀ x y : Bool, (x = false ↔ y = false) → x = y := fun x y h => by cases x <;> cases y <;> simp_all
  refine e _ _ ?_
  rw [outR_iff, outR_iff, hl]
  omega
theorem covX_at (b : List Int) (a g : Int) (h0 : 0 ≤ a) (h1 : a ≤ b.length) : covX (b.drop a.toNat) 0 g = covX b a g := by
  unfold covX
  have e0 := outR_drop b a h0 h1 0 4 (by decide) (by decide)
  have e4 := fun n => outR_drop b a h0 h1 4 n (by decide) (by decide)
  simp only [Int.add_zero] at e0
  rw [e0]
  simp only [Int.toNat_zero, List.drop_zero, e4]
theorem clsX_at (b : List Int) (a g : Int) (h0 : 0 ≤ a) (h1 : a ≤ b.length) : clsX (b.drop a.toNat) 0 g = clsX b a g := by
  unfold clsX
  have e0 := outR_drop b a h0 h1 0 4 (by decide) (by decide)
  have e6' := outR_drop b a h0 h1 0 6 (by decide) (by decide)
  have e4 := fun n => outR_drop b a h0 h1 4 n (by decide) (by decide)
  have e6 := fun n => outR_drop b a h0 h1 6 n (by decide) (by decide)
  simp only [Int.add_zero] at e0 e6'
  rw [e0, e6']
  simp only [Int.toNat_zero, List.drop_zero, e4, e6]
theorem mid_drop {α : Type} (b : List α) (a : Nat) : midL b a b.length = b.drop a := by
  unfold midL; exact List.take_of_length_le (by simp)

theorem finC_len {l r : List Int} (h : finC l = some r) : r.length ≤ 65535 := by
  unfold finC at h
  split at h
  · rename_i h1; cases h; exact h1.2
  · cases h
theorem covX_len (b : List Int) (a g : Int) : ((covX b a g).getD []).length ≤ 65535 := by
  have key : ∀ r, covX b a g = some r → r.length ≤ 65535 := fun r h => by
    unfold covX cov1 cov2 at h
    split at h
    · cases h
    split at h
    · split at h
      · cases h
      split at h
      · exact finC_len h
      · cases h
    split at h
    · split at h
      · cases h
      split at h
      · exact finC_len h
      · cases h
    · cases h
  cases hc : covX b a g with
  | none => exact Nat.zero_le _
  | some r => exact key r hc
theorem samew_t (xs : List Int) (v u : Value) (w : World) (hl : xs.length ≤ 65535) (hv : Rd w v 1 hE xs) (hu : Rd w u 1 hE xs) :
    Calls Try.prog 10 #[v, u] w fun e w' => e = .returned (.bool true) ∧ Below w.heap.size w w' :=
  (samew_c xs xs v u w (by omega) hv hu).mono fun e w' h => ⟨h.1.trans (by rw [decide_eq_true rfl]), h.2⟩

theorem at_c (b : List Int) (at' g : Int) (v : Value) (w : World) (ha : IntKind.i64.wrap at' = at') (hv : Rd w v 1 bE b) :
    Calls Try.prog 4 #[v, .int .i64 at', .int .i64 g] w fun e w' => e = .returned (.bool true) ∧ Below w.heap.size w w' := by
  refine calls_exec (cf := cf) cfok (fn := Try.f4) Try.func4 rfl [.sl 0, .v (.int .i64 at'), .v (.int .i64 g)] [.rd Int inferInstance 1 bE b] (ρ := fun _ => v) (· < w.heap.size) rfl rfl rfl (by simp [svOkL, svOk]) (memRd (fun _ h => h) ⟨hv, trivial⟩) ?_
  refine And.intro (fun h => ?_) (fun h => ?_)
  · refine Or.inl ⟨.bool true, fun ρ S w hm => works_c w, ?_⟩
    exact fun ρ S w' hi => ⟨rfl, hi.below⟩
  have h : ((decide ((b.length : Int) > 2000) || decide (at' < 0)) || decide (at' > (b.length : Int))) = false := h
  rw [Bool.or_eq_false_iff, Bool.or_eq_false_iff, decide_eq_false_iff_not, decide_eq_false_iff_not, decide_eq_false_iff_not] at h
  obtain ⟨⟨h1, h2⟩, h3⟩ := h
  have h0 : 0 ≤ at' := by omega
  have hle : at' ≤ b.length := by omega
  have hm0 : midL b at'.toNat (b.length : Int).toNat = b.drop at'.toNat := mid_drop b _
  have hml : (midL b at'.toNat (b.length : Int).toNat).length ≤ 1000000 := by rw [hm0, List.length_drop]; omega
  have c1 : covX (midL b at'.toNat (b.length : Int).toNat) 0 g = covX b at' g := by rw [hm0]; exact covX_at b at' g h0 hle
  have c2 : clsX (midL b at'.toNat (b.length : Int).toNat) 0 g = clsX b at' g := by rw [hm0]; exact clsX_at b at' g h0 hle
  have ob : (0 : Int) ≤ at' ∧ at' ≤ (b.length : Int) ∧ (b.length : Int) ≤ (b.length : Int) := ⟨h0, hle, Int.le_refl _⟩
  refine Or.inr (lcall_rep1 (.ptr (rdD b)) (fun ρ S w hm => open_c b _ w S hm.lt (by omega) (hm.rdS 0 rfl rfl)) ?_)
  refine Or.inr (lcall_fresh2 (t := 26) (sz := 1) (enc := hE) ((covX b at' g).getD []) (.int .i64 (errO (covX b at' g) 50)) (fun ρ S w hm => cov_o b at' g (by omega) ha _ rfl _ w (hm.rp 1 rfl rfl)) ?_)
  refine And.intro ob ?_
  refine Or.inr (lcall_rep1 (.ptr (rdD (midL b at'.toNat (b.length : Int).toNat))) (fun ρ S w hm => open_c _ _ w S hm.lt hml (hm.rdS 3 rfl rfl)) ?_)
  refine Or.inr (lcall_fresh2 (t := 26) (sz := 1) (enc := hE) ((covX b at' g).getD []) (.int .i64 (errO (covX b at' g) 50)) (fun ρ S w hm => cov_o _ 0 g hml (by decide) _ c1 _ w (hm.rp 4 rfl rfl)) ?_)
  refine Or.inr (lcall_rep1 (.ptr (rdD b)) (fun ρ S w hm => open_c b _ w S hm.lt (by omega) (hm.rdS 0 rfl rfl)) ?_)
  refine Or.inr (lcall_fresh2 (t := 5) (sz := 1) (enc := bE) ((clsX b at' g).getD []) (.int .i64 (errO (clsX b at' g) 50)) (fun ρ S w hm => cls_o b at' g (by omega) ha _ rfl _ w (hm.rp 6 rfl rfl)) ?_)
  refine And.intro ob ?_
  refine Or.inr (lcall_rep1 (.ptr (rdD (midL b at'.toNat (b.length : Int).toNat))) (fun ρ S w hm => open_c _ _ w S hm.lt hml (hm.rdS 8 rfl rfl)) ?_)
  refine Or.inr (lcall_fresh2 (t := 5) (sz := 1) (enc := bE) ((clsX b at' g).getD []) (.int .i64 (errO (clsX b at' g) 50)) (fun ρ S w hm => cls_o _ 0 g hml (by decide) _ c2 _ w (hm.rp 9 rfl rfl)) ?_)
  refine Or.inl ⟨.bool true, fun _ ρ S w hm => samew_t _ _ _ w (covX_len b at' g) (hm.own 2 rfl rfl) (hm.own 5 rfl rfl), ?_⟩
  refine Or.inl ⟨.bool true, fun _ ρ S w hm => sameb_c _ _ _ w (hm.own 7 rfl rfl) (hm.own 10 rfl rfl), ?_⟩
  refine Or.inl ⟨.bool true, fun _ ρ S w hm => works_c w, ?_⟩
  refine fun ρ S w' hi => ⟨?_, hi.below⟩
  rw [decide_eq_true (rfl : errO (covX b at' g) 50 = errO (covX b at' g) 50), decide_eq_true (rfl : errO (clsX b at' g) 50 = errO (clsX b at' g) 50)]
  rfl
end Go.Proofs.Ytblhmanmniglfaa
