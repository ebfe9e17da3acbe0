/- The law BreakWords: if words fit, no line is over. -/
import Derived.Test.YtiaaiihdamkeaaaK15
set_option maxRecDepth 100000
set_option linter.unusedVariables false
namespace Go.Proofs.Ytiaaiihdamkeaaa
open Go Go.Eng Go.RowKit Go.Ar

theorem dem_over {h w st sh : Int} {last : Bool} (i : In4 h w st sh) (ho : h > w + sh) : 1000000000000 ≤ (demF h w st sh last).1 := by
  have h3 := i.k0
  unfold demF
  rw [if_pos (okF_iff.2 i)]
  have : (badF h w st sh).2 = h - w - sh := by
    unfold badF
    rw [if_neg (by omega), if_neg (by omega), if_pos ho]
  rw [this, if_pos (by omega)]
  simp only
  omega
theorem dem_not {h w st sh : Int} {last : Bool} (i : In4 h w st sh) (ho : ¬ h > w + sh) : (demF h w st sh last).1 ≤ 100200100 := by
  obtain ⟨r1, r2, _, _⟩ := badF_range i
  obtain ⟨s0, s1⟩ := sq_range r1 r2
  unfold demF
  rw [if_pos (okF_iff.2 i)]
  have : (badF h w st sh).2 = 0 := by
    unfold badF
    split
    · rfl
    · split
      · rfl
      · first | rfl | rw [if_neg ho]
  rw [this, if_neg (by omega)]
  split
  · simp only; omega
  · exact s1
abbrev noM (ws : List Int) : List Bool := List.replicate (ws.length + 1) false
theorem noM_nth (ws : List Int) (q : Nat) : nth (noM ws) q = false := by
  unfold nth
  rw [List.getD_eq_getElem?_getD, List.getElem?_replicate]
  split <;> rfl
theorem badB_in {n : Int} (h : 0 ≤ n) (h2 : n ≤ 1099511627776) : badB n = false := by
  unfold badB
  rw [decide_eq_false (by omega), decide_eq_false (by omega)]; rfl
theorem mayW {ws : List Int} {width : Int} (h1 : 1 ≤ ws.length ∧ ws.length ≤ 30) (hW : Wd ws) (hw : 0 ≤ width ∧ width ≤ 100000) : May (noM ws) (tab ws) [width] := by
  refine ⟨by rw [List.length_replicate]; omega, by rw [tab_len, List.length_replicate], by simp, ?_, fun i j hij hj => ?_⟩
  · show (badB width || false) = false
    rw [badB_in hw.1 (by omega)]; rfl
  · rw [List.length_replicate] at hj ⊢
    rw [tab_nth ws hij (by omega)]
    have := lnW_range hW i (j - i) (by omega)
    unfold okLn
    rw [badB_in (by omega) (by omega), badB_in (by omega) (by omega), badB_in (by omega) (by omega)]; rfl
def overs (ws : List Int) (width : Int) : Nat → List Nat → Bool
  | _, [] => false
  | last, j :: r => decide ((lnW ws last (j - last)).h > width + (lnW ws last (j - last)).k) || overs ws width j r
theorem costW {ws : List Int} {width : Int} (h1 : 1 ≤ ws.length ∧ ws.length ≤ 30) (hW : Wd ws) (hw : 0 ≤ width ∧ width ≤ 100000) {i j : Nat} (k : Nat) (hij : i < j) (hj : j ≤ ws.length) :
    (decide ((lnW ws i (j - i)).h > width + (lnW ws i (j - i)).k) = true → 1000000000000 ≤ costF (mayW h1 hW hw).par i j k) ∧ (decide ((lnW ws i (j - i)).h > width + (lnW ws i (j - i)).k) = false → costF (mayW h1 hW hw).par i j k ≤ 100200100) := by
  have e : lnF (mayW h1 hW hw).par i j = lnW ws i (j - i) := by
    show nth (tab ws) (i * ((noM ws).length - 1 + 1) + j) = _
    rw [List.length_replicate]
    exact tab_nth ws hij hj
  have ew : nth (mayW h1 hW hw).par.ws (wk (mayW h1 hW hw).par k) = width := by
    have : wk (mayW h1 hW hw).par k = 0 := by show min k (1 - 1) = 0; omega
    rw [this]; rfl
  have hr := lnW_range hW i (j - i) (by omega)
  have i4 : In4 (lnW ws i (j - i)).h width (lnW ws i (j - i)).s (lnW ws i (j - i)).k := ⟨by omega, by omega, by omega, by omega, by omega, by omega, by omega, by omega⟩
  unfold costF
  rw [e, ew]
  exact ⟨fun h => dem_over i4 (of_decide_eq_true h), fun h => dem_not i4 (of_decide_eq_false h)⟩
theorem totW {ws : List Int} {width : Int} (h1 : 1 ≤ ws.length ∧ ws.length ≤ 30) (hW : Wd ws) (hw : 0 ≤ width ∧ width ≤ 100000) : ∀ (l : List Nat) (a k : Nat), WayOk (noM ws) ws.length a l →
    0 ≤ totF (mayW h1 hW hw).par a k l ∧ (overs ws width a l = true → 1000000000000 ≤ totF (mayW h1 hW hw).par a k l) ∧ (overs ws width a l = false → totF (mayW h1 hW hw).par a k l ≤ (l.length : Int) * 100200100)
  | [], a, k, _ => by
    unfold totF overs
    refine ⟨by omega, fun h => (by cases h), fun _ => (by simp)⟩
  | j :: r, a, k, ⟨w1, w2, _, w4⟩ => by
    obtain ⟨i1, i2, i3⟩ := totW h1 hW hw r j (k + 1) w4
    obtain ⟨c1, c2⟩ := costW h1 hW hw k w1 w2
    have c0 := (cost_range (mayW h1 hW hw).par a j k).1
    unfold totF overs
    refine ⟨by omega, fun h => ?_, fun h => ?_⟩
    · rw [Bool.or_eq_true] at h
      rcases h with h | h
      · have := c1 h; omega
      · have := i2 h; omega
    · rw [Bool.or_eq_false_iff] at h
      have := c2 h.1
      have := i3 h.2
      rw [List.length_cons]
      omega
theorem way_free (m : List Bool) (n : Nat) (hm : ∀ q, nth m q = false) : ∀ (d a : Nat), a + d = n → WayOk m n a (List.range' (a + 1) d)
  | 0, a, h => h
  | d + 1, a, h => ⟨by omega, by omega, fun q _ _ => hm q, way_free m n hm d (a + 1) (by omega)⟩
theorem overs_single {ws : List Int} {width : Int} (hf : ∀ i, i < ws.length → nth ws i ≤ width) : ∀ (d a : Nat), a + d = ws.length → overs ws width a (List.range' (a + 1) d) = false
  | 0, a, h => rfl
  | d + 1, a, h => by
    show (decide ((lnW ws a (a + 1 - a)).h > width + (lnW ws a (a + 1 - a)).k) || overs ws width (a + 1) (List.range' (a + 1 + 1) d)) = false
    rw [overs_single hf d (a + 1) (by omega), show a + 1 - a = 1 by omega, Bool.or_false]
    have := hf a (by omega)
    refine decide_eq_false ?_
    show ¬ (0 + nth ws (a + 0) > width + 0)
    rw [Nat.add_zero]; omega
theorem lnW_has {ws : List Int} (hW : Wd ws) {x : Nat} (a : Nat) : ∀ d, a + d ≤ ws.length → a ≤ x → x < a + d → nth ws x ≤ (lnW ws a d).h - (lnW ws a d).k
  | 0, _, h1, h2 => absurd h2 (by omega)
  | d + 1, hd, h1, h2 => by
    have hw := hW (a + d) (by omega)
    have h0 : 0 ≤ (lnW ws a d).h - (lnW ws a d).k := by
      cases d with
      | zero => simp [lnW]
      | succ d' => have := lnW_has hW a (d' + 1) (by omega) (Nat.le_refl a) (by omega); have := hW a (by omega); omega
    have ih : x < a + d → nth ws x ≤ (lnW ws a d).h - (lnW ws a d).k := fun h => lnW_has hW a d (by omega) h1 h
    unfold lnW
    by_cases e : x = a + d
    · rw [e]
      split
      · simp only; omega
      · simp only; omega
    · have := ih (by omega)
      split
      · simp only; omega
      · simp only; omega
theorem overs_big {ws : List Int} {width : Int} (hW : Wd ws) {x : Nat} (hx : nth ws x > width) : ∀ (l : List Nat) (a : Nat), WayOk (noM ws) ws.length a l → a ≤ x → x < ws.length → overs ws width a l = true
  | [], a, h, h1, h2 => by have : a = ws.length := h; omega
  | j :: r, a, ⟨w1, w2, _, w4⟩, h1, h2 => by
    unfold overs
    rw [Bool.or_eq_true]
    by_cases e : x < j
    · left
      have := lnW_has hW a (j - a) (by omega) h1 (by omega)
      exact decide_eq_true (by omega)
    · right
      exact overs_big hW hx r j w4 (by omega) h2
def fitsF (ws : List Int) (width : Int) : Bool := ws.all fun x => decide (x ≤ width)
theorem words_law {ws : List Int} {width : Int} (h1 : 1 ≤ ws.length ∧ ws.length ≤ 30) (hW : Wd ws) (hw : 0 ≤ width ∧ width ≤ 100000) :
    overs ws width 0 (wayL (mayW h1 hW hw).par 0 0) = !fitsF ws width ∧ decide ((best (mayW h1 hW hw).par 0 0).2 ≥ 1000000000000) = overs ws width 0 (wayL (mayW h1 hW hw).par 0 0) := by
  obtain ⟨w1, w2⟩ := may_way (mayW h1 hW hw)
  rw [show (noM ws).length - 1 = ws.length by rw [List.length_replicate]; omega] at w1
  obtain ⟨t0, t1, t2⟩ := totW h1 hW hw _ 0 0 w1
  rw [w2] at t0 t1 t2
  have hlen := way_len _ _ _ _ w1
  have hsum : decide ((best (mayW h1 hW hw).par 0 0).2 ≥ 1000000000000) = overs ws width 0 (wayL (mayW h1 hW hw).par 0 0) := by
    cases ho : overs ws width 0 (wayL (mayW h1 hW hw).par 0 0) with
    | true => exact decide_eq_true (t1 ho)
    | false => have := t2 ho; exact decide_eq_false (by omega)
  refine ⟨?_, hsum⟩
  cases hf : fitsF ws width with
  | true =>
    have hall : ∀ i, i < ws.length → nth ws i ≤ width := fun i hi => by
      unfold fitsF at hf
      rw [List.all_eq_true] at hf
      refine of_decide_eq_true (hf (nth ws i) ?_)
      unfold nth
      rw [List.getD_eq_getElem?_getD, List.getElem?_eq_getElem hi]
      exact List.getElem_mem hi
    have hfree := way_free (noM ws) ws.length (noM_nth ws) ws.length 0 (by omega)
    have hs := overs_single hall ws.length 0 (by omega)
    obtain ⟨_, _, u2⟩ := totW h1 hW hw _ 0 0 hfree
    have u3 := u2 hs
    rw [List.length_range', Nat.zero_add] at u3
    have u4 := (way_least (mayW h1 hW hw).par (List.range' 1 ws.length) 0 0 (by
      show WayOk (noM ws) ((noM ws).length - 1) 0 _
      rw [show (noM ws).length - 1 = ws.length by rw [List.length_replicate]; omega]; exact hfree) (Nat.zero_le _)).1
    rw [← hsum]
    exact decide_eq_false (by omega)
  | false =>
    unfold fitsF at hf
    rw [List.all_eq_false] at hf
    obtain ⟨x, hx, hxn⟩ := hf
    obtain ⟨i, hi, rfl⟩ := List.getElem_of_mem hx
    have hni : nth ws i = ws[i] := by
      unfold nth
      rw [List.getD_eq_getElem?_getD, List.getElem?_eq_getElem hi]; rfl
    have hxn : ¬ ws[i] ≤ width := fun h => hxn (decide_eq_true h)
    exact overs_big hW (x := i) (by rw [hni]; omega) _ 0 w1 (Nat.zero_le _) hi
end Go.Proofs.Ytiaaiihdamkeaaa
