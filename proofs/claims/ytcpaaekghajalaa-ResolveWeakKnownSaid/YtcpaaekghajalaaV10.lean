/- Weak's rules: a strong class parts a row; what is resolved stays. In plain Lean. -/
import Derived.Test.YtcpaaekghajalaaV9
namespace Go.Proofs.Ytcpaaekghajalaa
open Go Go.Eng Go.RowKit

theorem scan_cut (g t : Int → Int → Int) (c : Int) (hg : ∀ s, g s c = c) (ht : ∀ s, t s c = c) (B : List Int) : ∀ (s : Int) (A : List Int), scan g t s (A ++ c :: B) = scan g t s A ++ c :: scan g t c B
  | s, [] => by simp only [List.nil_append, scan, hg, ht]
  | s, a :: r => by simp only [List.cons_append, scan, scan_cut g t c hg ht B _ r]
theorem w4F_head {p : Int} (h4 : p ≠ 4) (h7 : p ≠ 7) : ∀ B, w4F p B = w4F 10 B
  | [] => rfl
  | c :: r => by
    have h1 : ∀ n, w4c p n c = c := fun n => by unfold w4c; rw [if_neg]; rintro ⟨_, h | h⟩ <;> omega
    simp only [w4F, h1, w4c_10]
theorem w4F_cut {c : Int} (hc : c = 1 ∨ c = 2) (B : List Int) : ∀ (p : Int) (A : List Int), w4F p (A ++ c :: B) = w4F p A ++ c :: w4F 10 B
  | p, [] => by
    have h1 : ∀ n, w4c p n c = c := fun n => by
      unfold w4c; split
      · rename_i h; omega
      · rfl
    simp only [List.nil_append, w4F, h1]
    rw [w4F_head (by omega) (by omega)]
  | p, a :: r => by
    have h1 : w4c p (hd10 (r ++ c :: B)) a = w4c p (hd10 r) a := by
      cases r with
      | nil =>
        show w4c p c a = w4c p 10 a
        unfold w4c; rw [if_neg (by omega), if_neg (by omega)]
      | cons x r => rfl
    simp only [List.cons_append, w4F, h1, w4F_cut hc B _ r]
theorem nxE_cut {c : Int} (hc : c = 1 ∨ c = 2) (B : List Int) : ∀ r, nxE (r ++ c :: B) = 4 ↔ nxE r = 4
  | [] => by simp only [List.nil_append, nxE]; split <;> omega
  | a :: r => by
    simp only [List.cons_append, nxE]
    split
    · exact nxE_cut hc B r
    · rfl
theorem w5F_cut {c : Int} (hc : c = 1 ∨ c = 2) (B : List Int) : ∀ (pe : Bool) (A : List Int), w5F pe (A ++ c :: B) = w5F pe A ++ c :: w5F false B
  | pe, [] => by simp only [List.nil_append, w5F]; rw [if_neg (by omega), decide_eq_false (by omega)]
  | pe, a :: r => by
    simp only [List.cons_append, w5F, nxE_cut hc B r, w5F_cut hc B _ r]
    split
    · split <;> rfl
    · rfl
theorem weakY_cut {c : Int} (hc : c = 1 ∨ c = 2) (s : Int) (A B : List Int) : weakY s (A ++ c :: B) = weakY s A ++ c :: weakY c B := by
  have h1 : w1F s (A ++ c :: B) = w1F s A ++ c :: w1F c B := by
    unfold w1F
    have hg : ∀ b, w1g b c = c := fun b => by unfold w1g; rw [if_neg (by omega)]
    exact scan_cut _ _ c hg (fun b => by
      unfold w1t; rw [hg, if_neg]
      intro h; have := iso_ne h; omega) B s A
  have h2 : ∀ A B, w2F s (A ++ c :: B) = w2F s A ++ c :: w2F c B := fun A B => by
    unfold w2F
    rw [scan_cut w2g w2t c (fun b => by unfold w2g; rw [if_neg (by omega)]) (fun b => by unfold w2t; rw [if_pos (by omega)]) B s A, List.map_append, List.map_cons, show w3f c = c from by unfold w3f; rw [if_neg (by omega)]]
  have h5 : ∀ A B, w56F (A ++ c :: B) = w56F A ++ c :: w56F B := fun A B => by
    unfold w56F
    rw [w5F_cut hc, List.map_append, List.map_cons, show w6f c = c from by unfold w6f; rw [if_neg (by omega)]]
  have h7 : ∀ A B, w7F s (A ++ c :: B) = w7F s A ++ c :: w7F c B := fun A B => by
    unfold w7F
    exact scan_cut w7g w7t c (fun b => by unfold w7g; rw [if_neg (by omega)]) (fun b => by unfold w7t; rw [if_pos (by omega)]) B s A
  unfold weakY
  rw [h1, h2, w4F_cut hc, h5, h7]
theorem noBN_app (A B : List Int) : noBN (A ++ B) = noBN A ++ noBN B := List.filter_append ..
theorem mg_app (Y : List Int) : ∀ (A B : List Int) (k : Nat), mg Y k (A ++ B) = mg Y k A ++ mg Y (k + (noBN A).length) B
  | [], B, k => rfl
  | a :: r, B, k => by
    simp only [List.cons_append, mg, noBN_cons]
    split
    · rw [mg_app Y r B k]
      first | done | rfl
    · rw [mg_app Y r B (k + 1), List.length_cons, show k + 1 + (noBN r).length = k + ((noBN r).length + 1) from by omega]
      first | done | rfl
theorem mg_left (Y Z : List Int) : ∀ (A : List Int) (k : Nat), k + (noBN A).length ≤ Y.length → mg (Y ++ Z) k A = mg Y k A
  | [], _, _ => rfl
  | a :: r, k, h => by
    rw [noBN_cons] at h
    simp only [mg]
    split
    · rename_i h1; rw [if_pos h1] at h; rw [mg_left Y Z r k h]
    · rename_i h1; rw [if_neg h1, List.length_cons] at h; rw [mg_left Y Z r (k + 1) (by omega), nth_append_left _ _ _ (by omega)]
theorem mg_right (Y Z : List Int) : ∀ (A : List Int) (k : Nat), k + (noBN A).length ≤ Z.length → mg (Y ++ Z) (Y.length + k) A = mg Z k A
  | [], _, _ => rfl
  | a :: r, k, h => by
    rw [noBN_cons] at h
    simp only [mg]
    split
    · rename_i h1; rw [if_pos h1] at h; rw [mg_right Y Z r k h]
    · rename_i h1; rw [if_neg h1, List.length_cons] at h
      rw [show Y.length + k + 1 = Y.length + (k + 1) from rfl, mg_right Y Z r (k + 1) (by omega), nth_append_right _ _ _ (by omega), show Y.length + k - Y.length = k from by omega]
theorem weakX_cut (a b : List Int) (sos c : Int) (hc : c = 1 ∨ c = 2) : weakX (a ++ [c] ++ b) sos = weakX a sos ++ [c] ++ weakX b c := by
  have hw : wS c = c := by unfold wS; split <;> omega
  have hn : noBN (a ++ [c] ++ b) = noBN a ++ c :: noBN b := by
    rw [noBN_app, noBN_app, show noBN [c] = [c] from by rcases hc with h | h <;> subst h <;> rfl, List.append_assoc]; rfl
  unfold weakX
  rw [hn, weakY_cut hc, hw, mg_app, mg_app]
  have l1 := weakY_len (wS sos) (noBN a)
  have l2 := weakY_len c (noBN b)
  have e1 : mg (weakY (wS sos) (noBN a) ++ c :: weakY c (noBN b)) 0 a = mg (weakY (wS sos) (noBN a)) 0 a := mg_left _ _ _ _ (by omega)
  have e2 : mg (weakY (wS sos) (noBN a) ++ c :: weakY c (noBN b)) (0 + (noBN a).length) [c] = [c] := by
    simp only [mg]
    rw [if_neg (by omega), Nat.zero_add, ← l1, nth_append_right _ _ _ (Nat.le_refl _), Nat.sub_self]; rfl
  have e3 : mg (weakY (wS sos) (noBN a) ++ c :: weakY c (noBN b)) (0 + (noBN (a ++ [c])).length) b = mg (weakY c (noBN b)) 0 b := by
    rw [noBN_app, show noBN [c] = [c] from by rcases hc with h | h <;> subst h <;> rfl]
    have := mg_right (weakY (wS sos) (noBN a) ++ [c]) (weakY c (noBN b)) b 0 (by omega)
    rw [List.append_assoc] at this
    rw [← this]
    congr 1
    simp [l1]
  rw [e1, e2, e3]

/-! what is resolved stays -/
theorem scan_id (g t : Int → Int → Int) (P : Int → Prop) (hP : ∀ s c, P c → g s c = c) : ∀ (s : Int) (xs : List Int), (∀ x ∈ xs, P x) → scan g t s xs = xs
  | _, [], _ => rfl
  | s, a :: r, h => by simp only [scan, hP s a (h a (by simp)), scan_id g t P hP _ r (fun x hx => h x (by simp [hx]))]
theorem w2_id : ∀ (s : Int) (xs : List Int), s ≠ 3 → (∀ x ∈ xs, x ≠ 3) → scan w2g w2t s xs = xs
  | _, [], _, _ => rfl
  | s, a :: r, hs, h => by
    have ha := h a (by simp)
    have e1 : w2g s a = a := by unfold w2g; rw [if_neg (by omega)]
    have e2 : w2t s a ≠ 3 := by unfold w2t; split <;> assumption
    simp only [scan, e1, w2_id _ r e2 (fun x hx => h x (by simp [hx]))]
theorem w4_id : ∀ (p : Int) (xs : List Int), (∀ x ∈ xs, x ≠ 5 ∧ x ≠ 8) → w4F p xs = xs
  | _, [], _ => rfl
  | p, a :: r, h => by
    have ha := h a (by simp)
    have e1 : w4c p (hd10 r) a = a := by unfold w4c; rw [if_neg (by omega)]
    simp only [w4F, e1, w4_id _ r (fun x hx => h x (by simp [hx]))]
theorem w5_id : ∀ (pe : Bool) (xs : List Int), (∀ x ∈ xs, x ≠ 6) → w5F pe xs = xs
  | _, [], _ => rfl
  | p, a :: r, h => by
    have ha := h a (by simp)
    simp only [w5F, if_neg ha, w5_id _ r (fun x hx => h x (by simp [hx]))]
theorem map_id' (f : Int → Int) : ∀ (xs : List Int), (∀ x ∈ xs, f x = x) → xs.map f = xs
  | [], _ => rfl
  | a :: r, h => by simp only [List.map_cons, h a (by simp), map_id' f r (fun x hx => h x (by simp [hx]))]
theorem weakY_w7 (s : Int) (ys : List Int) (hs : s = 1 ∨ s = 2) (h : ∀ x ∈ ys, x ≠ 3 ∧ x ≠ 5 ∧ x ≠ 6 ∧ x ≠ 8 ∧ x ≠ 9) : weakY s ys = w7F s ys := by
  unfold weakY
  have h1 : w1F s ys = ys := scan_id w1g w1t (fun x => x ≠ 9) (fun b c hc => by unfold w1g; rw [if_neg hc]) s ys (fun x hx => (h x hx).2.2.2.2)
  have h2 : w2F s ys = ys := by
    unfold w2F
    rw [w2_id s ys (by omega) (fun x hx => (h x hx).1)]
    exact map_id' _ _ (fun x hx => by unfold w3f; rw [if_neg (h x hx).1])
  have h4 : w4F 10 ys = ys := w4_id _ _ (fun x hx => ⟨(h x hx).2.1, (h x hx).2.2.2.1⟩)
  have h5 : w56F ys = ys := by
    unfold w56F
    rw [w5_id _ _ (fun x hx => (h x hx).2.2.1)]
    exact map_id' _ _ (fun x hx => by have := h x hx; unfold w6f; rw [if_neg (by omega)])
  rw [h1, h2, h4, h5]
theorem w7_idem : ∀ (s : Int) (xs : List Int), w7F s (w7F s xs) = w7F s xs
  | _, [] => rfl
  | s, a :: r => by
    have h1 : w7g s (w7g s a) = w7g s a := by
      by_cases h : a = 4 ∧ s = 1
      · simp [w7g, h]
      · simp [w7g, h]
    have h2 : w7t s (w7g s a) = w7t s a := by
      unfold w7g w7t
      split
      · rename_i h; rw [if_pos (.inl rfl), if_neg (by omega)]; omega
      · rfl
    have ih := w7_idem (w7t s a) r
    unfold w7F at ih ⊢
    simp only [scan, h1, h2, ih]
theorem mem_nth {xs : List Int} {x : Int} (h : x ∈ xs) : ∃ k, k < xs.length ∧ nth xs k = x := by
  obtain ⟨k, hk, he⟩ := List.getElem_of_mem h
  exact ⟨k, hk, by rw [nth_eq _ _ hk]; exact he⟩
theorem weakY_again (s : Int) (ys : List Int) (hs : s = 1 ∨ s = 2) : weakY s (weakY s ys) = weakY s ys := by
  rw [weakY_w7 s (weakY s ys) hs (fun x hx => by
    obtain ⟨k, hk, rfl⟩ := mem_nth hx
    rw [weakY_len] at hk
    exact (ends_k hs hk).1)]
  unfold weakY
  exact w7_idem _ _
theorem inv10 {s : Int} {ys : List Int} (hs : s = 1 ∨ s = 2) (hy : ∀ x ∈ ys, x ≠ 10) : ∀ k, k ≤ ys.length → bK s ys k ≠ 10
  | 0, _ => by rw [show bK s ys 0 = s from rfl]; omega
  | k + 1, h => by
    have ih := inv10 hs hy k (by omega)
    rw [bK_succ (by omega)]
    unfold w1t
    split
    · omega
    · unfold w1g
      split
      · exact ih
      · exact hy _ (by rw [nth_eq _ _ (by omega)]; exact List.getElem_mem _)
theorem weakY_10 {s : Int} {ys : List Int} (hs : s = 1 ∨ s = 2) (hy : ∀ x ∈ ys, x ≠ 10) : ∀ x ∈ weakY s ys, x ≠ 10 := fun x hx => by
  obtain ⟨k, hk, rfl⟩ := mem_nth hx
  rw [weakY_len] at hk
  rw [rE_at k hk]
  have hb := inv10 hs hy k (by omega)
  have hA : aK s ys k ≠ 10 := by
    unfold aK w1g
    split
    · exact hb
    · exact hy _ (by rw [nth_eq _ _ hk]; exact List.getElem_mem _)
  have hB : nth (rB s ys) k ≠ 10 := by rw [rB_at hk]; unfold w3f w2g; split <;> split <;> omega
  have hD : nth (rD s ys) k ≠ 10 := by rcases rD_or (s := s) hk with ⟨_, _, _, e⟩ | ⟨_, e⟩ <;> omega
  unfold w7g
  split <;> omega
theorem noBN_no {xs : List Int} (h : ∀ x ∈ xs, x ≠ 10) : noBN xs = xs := List.filter_eq_self.2 (fun x hx => by simp [h x hx])
theorem noBN_mg (Y : List Int) : ∀ (l : List Int) (k : Nat), k + (noBN l).length ≤ Y.length → (∀ x ∈ Y, x ≠ 10) → noBN (mg Y k l) = (Y.drop k).take (noBN l).length
  | [], _, _, _ => rfl
  | c :: r, k, h, hy => by
    by_cases hc : c = 10
    · have e : noBN (c :: r) = noBN r := by rw [noBN_cons, if_pos hc]
      have e2 : noBN (mg Y k (c :: r)) = noBN (mg Y k r) := by simp only [mg]; rw [if_pos hc, noBN_cons, if_pos rfl, if_pos hc]
      rw [e] at h ⊢
      rw [e2]
      exact noBN_mg Y r k h hy
    · have e : noBN (c :: r) = c :: noBN r := by rw [noBN_cons, if_neg hc]
      rw [e, List.length_cons] at h
      have hk : nth Y k ≠ 10 := hy _ (by rw [nth_eq _ _ (by omega)]; exact List.getElem_mem _)
      have e2 : noBN (mg Y k (c :: r)) = nth Y k :: noBN (mg Y (k + 1) r) := by simp only [mg]; rw [if_neg hc, noBN_cons, if_neg hk, if_neg hc]
      rw [e, e2, List.length_cons, drop_nth Y k (by omega), List.take_succ_cons, noBN_mg Y r (k + 1) (by omega) hy]
theorem mg_mg (Y Z : List Int) (l : List Int) (hY : ∀ x ∈ Y, x ≠ 10) (hl : (noBN l).length = Y.length) : mg Z 0 (mg Y 0 l) = mg Z 0 l := by
  refine nth_ext (by simp [mg_len]) fun j hj => ?_
  have hj : j < l.length := by simpa [mg_len] using hj
  rw [mg_nth _ _ _ _ (by rw [mg_len]; exact hj), mg_nth _ _ _ _ hj, mg_nth _ _ _ _ hj, Nat.zero_add, Nat.zero_add]
  by_cases h10 : nth l j = 10
  · rw [if_pos h10, if_pos rfl, if_pos h10]
  · obtain ⟨g1, _⟩ := noBN_at l j hj h10
    rw [if_neg h10, if_neg h10, if_neg (hY _ (by rw [nth_eq _ _ (by omega)]; exact List.getElem_mem _))]
    congr 1
    have : (mg Y 0 l).take j = mg Y 0 (l.take j) := by
      have := mg_app Y (l.take j) (l.drop j) 0
      rw [List.take_append_drop] at this
      rw [this, List.take_left' (by rw [mg_len]; simp; omega)]
    have hle : (noBN (l.take j)).length ≤ Y.length := by omega
    rw [this, noBN_mg Y _ 0 (by omega) hY]
    simp; omega
theorem weakX_again (l : List Int) (sos : Int) : weakX (weakX l sos) sos = weakX l sos := by
  have hs := wS_12 sos
  have hy : ∀ x ∈ noBN l, x ≠ 10 := fun x hx => by have := (List.mem_filter.1 hx).2; simpa using this
  have h10 := weakY_10 hs hy
  have hl := weakY_len (wS sos) (noBN l)
  have h1 : noBN (weakX l sos) = weakY (wS sos) (noBN l) := by
    unfold weakX
    rw [noBN_mg _ _ _ (by omega) h10, List.drop_zero, List.take_of_length_le (by omega)]
  have : weakX (weakX l sos) sos = mg (weakY (wS sos) (noBN (weakX l sos))) 0 (weakX l sos) := rfl
  rw [this, h1, weakY_again _ _ hs]
  exact mg_mg _ _ _ h10 (by omega)
theorem weakX_plain (c : List Int) (sos : Int) (h : ∀ x ∈ c, x = 1 ∨ x = 2 ∨ x = 7 ∨ (x ≥ 11 ∧ x ≤ 14)) : weakX c sos = c := by
  have hs := wS_12 sos
  have hn : noBN c = c := noBN_no (fun x hx => by have := h x hx; omega)
  unfold weakX
  rw [hn, weakY_w7 _ _ hs (fun x hx => by have := h x hx; omega)]
  have : w7F (wS sos) c = c := scan_id w7g w7t (fun x => x ≠ 4) (fun b x hx => by unfold w7g; rw [if_neg (by omega)]) _ _ (fun x hx => by have := h x hx; omega)
  rw [this]
  refine nth_ext (mg_len _ _ _) fun j hj => ?_
  rw [mg_len] at hj
  have hne : nth c j ≠ 10 := by have := h (nth c j) (by rw [nth_eq _ _ hj]; exact List.getElem_mem _); omega
  rw [mg_nth _ _ _ _ hj, if_neg hne, Nat.zero_add, noBN_no (fun x hx => by have := h x (List.mem_of_mem_take hx); omega)]
  congr 1; simp; omega
end Go.Proofs.Ytcpaaekghajalaa
