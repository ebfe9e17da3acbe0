/- marks lie upon what they stand on, in plain Lean. -/
import Derived.Test.YtaiapnemlnmeiaaT21
namespace Go.Proofs.Ytaiapnemlnmeiaa
open Go Go.Eng Go.RowKit

theorem idxF_sat {α : Type} [Inhabited α] {p : α → Bool} : ∀ (xs : List α) (i : Nat), (i : Int) ≤ idxF p xs i → p (nth xs (idxF p xs i - i).toNat) = true
  | [], i, h => by
    have : (i : Int) ≤ -1 := h
    omega
  | x :: r, i, h => by
    unfold idxF at h ⊢
    split at h
    · rename_i hp
      rw [if_pos hp, Int.sub_self]
      exact hp
    · rename_i hp
      rw [if_neg hp]
      have hr := idxF_range p r (i + 1)
      have h1 : ((i + 1 : Nat) : Int) ≤ idxF p r (i + 1) := by omega
      have h2 := idxF_sat r (i + 1) h1
      rw [show (idxF p r (i + 1) - (i : Int)).toNat = (idxF p r (i + 1) - ((i + 1 : Nat) : Int)).toNat + 1 from by omega]
      exact h2
/-- a place stands on nothing, or on one ahead of it, where points lie upon one another -/
def Stands (f : Font) (l : List Int) (i : Nat) (p : Place) : Prop :=
  (p.on = -1 ∧ p.x = 0 ∧ p.y = 0) ∨ (0 ≤ p.on ∧ p.on < i ∧ ∃ n q u v, PtAt f (nth l i) (nth l p.on.toNat) p.x p.y n q u v)
theorem stand_pt {f : Font} {l : List Int} {n q at' j : Nat} {d : Int × Int} (hn : n < f.poss.length) (hq : q < (nth f.poss n).poss.length) (h : standD l (nth (nth f.poss n).poss q) at' j = some d) :
    ∃ u v, PtAt f (nth l at') (nth l j) d.1 d.2 n q u v := by
  unfold standD anN mIx bIx at h
  generalize hs : nth (nth f.poss n).poss q = s at h
  split at h
  · cases h
  rename_i h1
  split at h
  · cases h
  rename_i h2
  split at h
  · rename_i h3
    cases h
    have rm := idxF_range (markP l at') s.marks 0
    have rb := idxF_range (baseP l j) s.bases 0
    have sm := idxF_sat (p := markP l at') s.marks 0
    have sb := idxF_sat (p := baseP l j) s.bases 0
    simp only [Int.natCast_zero, Int.sub_zero] at sm sb
    generalize idxF (markP l at') s.marks 0 = m at *
    generalize idxF (baseP l j) s.bases 0 = b at *
    have sm := sm (by omega)
    have sb := sb (by omega)
    refine ⟨m.toNat, b.toNat, hn, hq, ?_, ?_, ?_, ?_, ?_, ?_, ?_, ?_⟩
    · rw [hs]; omega
    · rw [hs]; omega
    · rw [hs]; exact of_decide_eq_true sm
    · rw [hs]; exact of_decide_eq_true sb
    · rw [hs]; omega
    · rw [hs]; exact h3
    · rw [hs]
    · rw [hs]
  · cases h
/-- a step keeps it -/
def KeepI (f : Font) (l : List Int) (at' : Nat) (o o' : List Place) : Prop := o'.length = o.length ∧ (∀ i, i ≠ at' → nth o' i = nth o i) ∧ (at' < o.length → Stands f l at' (nth o at') → Stands f l at' (nth o' at'))
theorem KeepI.refl (f : Font) (l : List Int) (at' : Nat) (o : List Place) : KeepI f l at' o o := ⟨rfl, fun _ _ => rfl, fun _ h => h⟩
theorem stand_keep {f : Font} {l : List Int} {n q at' j : Nat} (o : List Place) (hn : n < f.poss.length) (hq : q < (nth f.poss n).poss.length) (hj : j < at') : KeepI f l at' o (standT l (nth (nth f.poss n).poss q) at' j o).2 := by
  unfold standT
  cases h : standD l (nth (nth f.poss n).poss q) at' j with
  | none => exact KeepI.refl _ _ _ _
  | some d =>
    refine ⟨putP_len _ _ _ _, fun i hi => nth_set_ne _ hi, fun hl _ => ?_⟩
    show Stands f l at' (nth (putP o at' j d) at')
    unfold putP
    rw [nth_set _ hl]
    obtain ⟨u, v, hp⟩ := stand_pt hn hq h
    exact .inr ⟨by show (0 : Int) ≤ (j : Int); omega, by show (j : Int) < (at' : Int); omega, n, q, u, v, hp⟩
theorem try_keep {f : Font} {l : List Int} {n q at' : Nat} (o : List Place) (hn : n < f.poss.length) (hq : q < (nth f.poss n).poss.length) : KeepI f l at' o (tryT f l (nth f.poss n) (nth (nth f.poss n).poss q) at' o).2 := by
  unfold tryT
  split
  · unfold kernT
    split
    · exact KeepI.refl _ _ _ _
    · rename_i d _
      refine ⟨addP_len _ _ _, fun i hi => nth_set_ne _ hi, fun hl hs => ?_⟩
      show Stands f l at' (nth (addP o at' d) at')
      unfold addP
      rw [nth_set _ hl]
      exact hs
  · split
    · unfold baseT
      split
      · exact KeepI.refl _ _ _ _
      · rename_i j hj
        exact stand_keep o hn hq (downN_lt hj).1
    · split
      · unfold markT
        split
        · exact KeepI.refl _ _ _ _
        · rename_i j hj
          split
          · exact stand_keep o hn hq (downN_lt hj).1
          · exact KeepI.refl _ _ _ _
      · exact KeepI.refl _ _ _ _
theorem inner_keep {f : Font} {l : List Int} {n at' : Nat} (o : List Place) (hn : n < f.poss.length) : ∀ k q, q + k = (nth f.poss n).poss.length → KeepI f l at' o (innerF f l (nth f.poss n) at' ((nth f.poss n).poss.drop q) o)
  | 0, q, hq => by rw [List.drop_of_length_le (by omega)]; exact KeepI.refl _ _ _ _
  | k + 1, q, hq => by
    rw [innerF_drop _ _ _ _ _ _ q (by omega)]
    split
    · exact try_keep o hn (by omega)
    · exact inner_keep o hn k (q + 1) (by omega)
def AllStand (f : Font) (l : List Int) (o : List Place) : Prop := o.length = l.length ∧ ∀ i, i < l.length → Stands f l i (nth o i)
theorem row_stand {f : Font} {l : List Int} {n : Nat} (o : List Place) (hn : n < f.poss.length) (h : AllStand f l o) : ∀ k, k ≤ l.length → AllStand f l (rowF f l (nth f.poss n) k o)
  | 0, _ => h
  | k + 1, hk => by
    have ih := row_stand o hn h k (by omega)
    unfold rowF
    split
    · exact ih
    · have kp := inner_keep (f := f) (l := l) (n := n) (at' := k) (rowF f l (nth f.poss n) k o) hn (nth f.poss n).poss.length 0 (by omega)
      rw [List.drop_zero] at kp
      refine ⟨by rw [kp.1, ih.1], fun i hi => ?_⟩
      by_cases e : i = k
      · subst e
        exact kp.2.2 (by rw [ih.1]; exact hi) (ih.2 i hi)
      · rw [kp.2.1 i e]
        exact ih.2 i hi
theorem look_stand {f : Font} {l : List Int} : ∀ n, n ≤ f.poss.length → AllStand f l (lookF f l n)
  | 0, _ => by
    refine ⟨by unfold lookF; rw [List.length_map], fun i hi => ?_⟩
    unfold lookF
    rw [nth_map _ _ _ hi]
    exact .inl ⟨rfl, rfl, rfl⟩
  | n + 1, hn => by
    unfold lookF
    split
    · exact row_stand _ (by omega) (look_stand n (by omega)) l.length (Nat.le_refl _)
    · exact look_stand n (by omega)
theorem apply_stand (f : Font) (l : List Int) : AllStand f l (applyF f l) := look_stand _ (Nat.le_refl _)

/-- the font's points are numbers of 16 bits -/
structure PtsOk (f : Font) : Prop where
  m : ∀ x ∈ f.poss, ∀ s ∈ x.poss, ∀ m ∈ s.marks, (-32768 ≤ m.x ∧ m.x ≤ 32767) ∧ (-32768 ≤ m.y ∧ m.y ≤ 32767)
  c : ∀ x ∈ f.poss, ∀ s ∈ x.poss, ∀ m ∈ s.marks, 0 ≤ m.c
  a : ∀ x ∈ f.poss, ∀ s ∈ x.poss, ∀ b ∈ s.bases, ∀ a ∈ b.an, (-32768 ≤ a.x ∧ a.x ≤ 32767) ∧ (-32768 ≤ a.y ∧ a.y ≤ 32767)
theorem pt_range {f : Font} (h : PtsOk f) {m b dx dy : Int} {i k u v : Nat} (p : PtAt f m b dx dy i k u v) : (-65535 ≤ dx ∧ dx ≤ 65535) ∧ (-65535 ≤ dy ∧ dy ≤ 65535) := by
  have hs := nth_mem p.pk
  have hx := nth_mem p.pi
  have hm := h.m _ hx _ hs _ (nth_mem p.pu)
  have hc := h.c _ hx _ hs _ (nth_mem p.pu)
  have hpc := p.pc
  have ha := h.a _ hx _ hs _ (nth_mem p.pv) (nth (nth (nth (nth f.poss i).poss k).bases v).an (nth (nth (nth f.poss i).poss k).marks u).c.toNat) (nth_mem (by omega))
  have e1 := p.px
  have e2 := p.py
  unfold sub32 at e1 e2
  simp only [IntKind.wrap_i32] at e1 e2
  omega

/-- all that is put on a row of few glyphs -/
structure RowOk (l : List Place) : Prop where
  len : l.length ≤ 100
  adv : ∀ i, i < l.length → -545535 ≤ (nth l i).adv ∧ (nth l i).adv ≤ 545535
  on : ∀ i, i < l.length → -1 ≤ (nth l i).on ∧ (nth l i).on < i
  xy : ∀ i, i < l.length → (-65535 ≤ (nth l i).x ∧ (nth l i).x ≤ 65535) ∧ (-65535 ≤ (nth l i).y ∧ (nth l i).y ≤ 65535)
theorem row_pen {l : List Place} (h : RowOk l) (back : Bool) : ∀ j, j ≤ l.length → -(545535 * (j : Int)) ≤ penF l back j ∧ penF l back j ≤ 545535 * (j : Int)
  | 0, _ => by simp [penF]
  | j + 1, hj => by
    have h1 := row_pen h back j (by omega)
    have h2 := h.adv _ (rowJ_lt (n := l.length) (back := back) (j := j) (by omega))
    unfold penF
    omega
theorem row_put {l : List Place} (h : RowOk l) (back : Bool) : ∀ j, j ≤ l.length → ∀ k, k < l.length → -54553500 ≤ nth (putF l back j) k ∧ nth (putF l back j) k ≤ 54553500
  | 0, _, k, hk => by unfold putF; rw [nth_rep _ _ _ hk]; exact ⟨by decide, by decide⟩
  | j + 1, hj, k, hk => by
    unfold putF
    by_cases e : k = rowJ l.length back j
    · rw [e, nth_set _ (by rw [putF_len]; exact rowJ_lt (by omega))]
      have := row_pen h back j (by omega)
      have := h.len
      omega
    · rw [nth_set_ne _ e]
      exact row_put h back j (by omega) k hk
theorem drF_nth (l : List Place) (put : List Int) : ∀ k, k ≤ l.length → ∀ i, i < k → nth (drF l put k) i = drE l put (drF l put i) i
  | 0, _, i, hi => by omega
  | k + 1, hk, i, hi => by
    show nth ((drF l put k).set k (drE l put (drF l put k) k)) i = _
    by_cases e : i = k
    · subst e
      rw [nth_set _ (by rw [drF_len]; omega)]
    · rw [nth_set_ne _ e]
      exact drF_nth l put k (by omega) i (by omega)
theorem row_dr {l : List Place} (h : RowOk l) (back : Bool) : ∀ n i, i < n → i < l.length →
    (-(54553500 + 65535 * (i : Int)) ≤ (drE l (putF l back l.length) (drF l (putF l back l.length) i) i).x ∧ (drE l (putF l back l.length) (drF l (putF l back l.length) i) i).x ≤ 54553500 + 65535 * (i : Int)) ∧
    (-(65535 * (i : Int)) ≤ (drE l (putF l back l.length) (drF l (putF l back l.length) i) i).y ∧ (drE l (putF l back l.length) (drF l (putF l back l.length) i) i).y ≤ 65535 * (i : Int))
  | 0, i, h0, _ => by omega
  | n + 1, i, hin, hi => by
    unfold drE
    split
    · rename_i hon
      have ho := h.on i hi
      have hxy := h.xy i hi
      have hlt : (nth l i).on.toNat < i := by omega
      have hd := row_dr h back n (nth l i).on.toNat (by omega) (by omega)
      rw [drF_nth l _ i (by omega) _ hlt]
      dsimp only
      generalize (drE l (putF l back l.length) (drF l (putF l back l.length) (nth l i).on.toNat) (nth l i).on.toNat) = d at *
      omega
    · have hp := row_put h back l.length (Nat.le_refl _) i hi
      dsimp only
      omega
theorem row_org {l : List Place} (h : RowOk l) (back : Bool) : OrgOk l back := by
  have hl := h.len
  refine ⟨h.on, fun i hi => ?_, fun j hj => ?_, fun i hi => ?_, fun i hi => ?_⟩
  · have h1 := h.adv i hi
    have h2 := h.xy i hi
    unfold I32
    omega
  · have := row_pen h back j hj
    unfold I32
    omega
  · have := row_dr h back (i + 1) i (by omega) hi
    unfold I32
    omega
  · have h1 := row_dr h back (i + 1) i (by omega) hi
    have h2 := row_put h back l.length (Nat.le_refl _) i hi
    unfold I32
    omega
theorem apply_row {f : Font} (hf : FontOk f) (hp : PtsOk f) (h12 : f.poss.length ≤ 12) {l : List Int} (hl : U16L l) (hll : l.length ≤ 100) : RowOk (applyF f l) := by
  obtain ⟨h1, h2⟩ := lookF_ok hf hl f.poss.length (Nat.le_refl _)
  obtain ⟨h3, h4⟩ := apply_stand f l
  refine ⟨by rw [h3]; exact hll, fun i hi => ?_, fun i hi => ?_, fun i hi => ?_⟩
  · have := h2 i hi
    rw [if_neg (by omega)] at this
    show _ ≤ (nth (lookF f l f.poss.length) i).adv ∧ (nth (lookF f l f.poss.length) i).adv ≤ _
    omega
  · rcases h4 i (by omega) with h | h
    · omega
    · omega
  · rcases h4 i (by omega) with ⟨_, h6, h7⟩ | ⟨_, _, n, q, u, v, hpt⟩
    · rw [h6, h7]; decide
    · exact pt_range hp hpt
end Go.Proofs.Ytaiapnemlnmeiaa
