/- Read, the reference's Read and Right, in plain Lean. -/
import Derived.Test.YtfjkajlkehjnnaaGreatDoorB20
set_option maxRecDepth 100000
set_option linter.unusedVariables false
namespace Go.Proofs.YtfjkajlkehjnnaaGreatDoor
open Go Go.Eng Go.RowKit Go.Ar

abbrev digs (l : List UInt8) : List Nat := l.map fun b => b.toNat - 48
def totF (V p : Nat) : Nat := V * 65536 / 10 ^ p + (if 2 * (V * 65536 % 10 ^ p) < 10 ^ p then 0 else 1)
theorem totF_scale (V p k : Nat) : totF (V * 10 ^ k) (p + k) = totF V p := by
  unfold totF
  have hk : 0 < 10 ^ k := Nat.pow_pos (by decide)
  have e1 : V * 10 ^ k * 65536 = 10 ^ k * (V * 65536) := by rw [Nat.mul_right_comm, Nat.mul_comm]
  have e2 : 10 ^ (p + k) = 10 ^ k * 10 ^ p := by rw [Nat.pow_add, Nat.mul_comm]
  rw [e1, e2, Nat.mul_div_mul_left _ _ hk, Nat.mul_mod_mul_left]
  congr 1
  generalize V * 65536 % 10 ^ p = m
  generalize 10 ^ p = D
  generalize 10 ^ k = K at *
  have : 2 * (K * m) = K * (2 * m) := by rw [Nat.mul_left_comm]
  rw [this]
  have : (K * (2 * m) < K * D) ↔ (2 * m < D) := Nat.mul_lt_mul_left hk
  simp only [this]
theorem decA_apps (a : Nat) (l r : List UInt8) : decA a (l ++ r) = decA (decA a l) r := by unfold decA; rw [List.foldl_append]
theorem sgnF_alt (q : Nat) (neg : Bool) : (sgnF q neg).2 = 0 ∨ sgnF q neg = (0, 10) := by
  unfold sgnF
  split
  · exact .inl rfl
  · split
    · exact .inr rfl
    · exact .inl rfl
theorem sgnF_over {q : Nat} {neg : Bool} (h : 9223372036854775808 < q) : sgnF q neg = (0, 10) := by
  unfold sgnF
  rw [if_neg (by omega), if_pos (by omega)]
theorem good_of {l : List UInt8} (hb : badF l = false) : l.length ≤ 40 ∧ isDigs (wholeF (bodyF l)) = true ∧ ((46 : UInt8) ∈ bodyF l → isDigs (partF (bodyF l)) = true) ∧ (partF (bodyF l)).all isDig = true := by
  have hbad := hb
  simp only [badF, Bool.or_eq_false_iff, Bool.and_eq_false_imp, Bool.not_eq_false'] at hbad
  obtain ⟨⟨h40, hw⟩, hp⟩ := hbad
  refine ⟨by have := of_decide_eq_false h40; omega, hw, fun h => hp (decide_eq_true h), ?_⟩
  by_cases hin : (46 : UInt8) ∈ bodyF l
  · have := hp (decide_eq_true hin)
    unfold isDigs at this
    simp only [Bool.and_eq_true] at this
    exact this.2
  · rw [(tw_none _ hin).2]; rfl
theorem part_len (b : List UInt8) : (partF b).length ≤ b.length := by
  unfold partF
  rw [List.length_drop]
  have := (List.dropWhile_sublist (fun x : UInt8 => decide (x ≠ 46)) (l := b)).length_le
  omega
/-- what a good text is read as -/
theorem readF_good {l : List UInt8} (hb : badF l = false) : readF l = sgnF (totF (decA 0 (wholeF (bodyF l) ++ partF (bodyF l))) (partF (bodyF l)).length) (l.head? == some 45) := by
  obtain ⟨h40, hw, _, hp⟩ := good_of hb
  have h1 := part_len (bodyF l)
  have h2 := body_len l
  obtain ⟨W, hW⟩ : ∃ W, W = wholeF (bodyF l) := ⟨_, rfl⟩
  obtain ⟨P, hP⟩ : ∃ P, P = partF (bodyF l) := ⟨_, rfl⟩
  unfold readF
  rw [if_neg (by rw [hb]; decide), ← hW, ← hP]
  rw [← hP] at hp h1
  have hsum := sum_val P.length (decA 0 W) (padD P P.length) (by rw [padD_len P (Nat.le_refl _) (by omega)]; omega) (padD_dig P hp _)
  rw [valN_pad P hp] at hsum
  have htot : sumF P.length (decA 0 W) (padD P P.length) = totF (decA 0 (W ++ P)) P.length := by
    rw [hsum, decA_apps, decA_add P (decA 0 W)]
    unfold totF
    have hpp : 0 < 10 ^ P.length := Nat.pow_pos (by decide)
    have e : (decA 0 W * 10 ^ P.length + decA 0 P) * 65536 = 10 ^ P.length * (decA 0 W * 65536) + decA 0 P * 65536 := by
      rw [Nat.add_mul, Nat.mul_right_comm, Nat.mul_comm (decA 0 W * 65536)]
    rw [e, Nat.mul_add_div hpp, Nat.mul_add_mod]
    congr 1
    by_cases h : 10 ^ P.length ≤ 2 * (decA 0 P * 65536 % 10 ^ P.length)
    · rw [if_pos h, if_neg (by omega)]
    · rw [if_neg h, if_pos (by omega)]
  rw [htot]
  by_cases hbig : decA 0 W > 140737488355328
  · rw [if_pos hbig]
    refine (sgnF_over ?_).symm
    rw [← htot, hsum]
    generalize decA 0 P * 65536 / 10 ^ P.length = x
    omega
  · rw [if_neg hbig]
    rcases sgnF_alt (totF (decA 0 (W ++ P)) P.length) (l.head? == some 45) with h | h
    · exact if_pos h
    · rw [h]; rfl

/-! Right -/
theorem rGo_row : ∀ (X : List UInt8) (rest : List UInt8) (ds : List Nat) (b : Int), (46 : UInt8) ∉ X → -1 ≤ b →
    rGo (X ++ rest) ds b = if X.all isDig = true then rGo rest (ds ++ digs X) (if b ≥ 0 then b + X.length else b) else none
  | [], rest, ds, b, _, hb => by
    simp only [List.nil_append, List.all_nil, if_true, List.map_nil, List.append_nil, List.length_nil]
    congr 1
    split <;> simp
  | c :: r, rest, ds, b, hn, hb => by
    simp only [List.mem_cons, not_or] at hn
    rw [List.cons_append, rGo]
    by_cases hd : isDig c = true
    · rw [if_pos hd, rGo_row r rest _ _ hn.2 (by split <;> omega)]
      simp only [List.all_cons, hd, Bool.true_and]
      by_cases hr : r.all isDig = true
      · rw [if_pos hr, if_pos hr]
        congr 1
        · simp
        · simp only [List.length_cons]
          by_cases hb0 : b ≥ 0
          · rw [if_pos hb0, if_pos hb0, if_pos (by omega)]; omega
          · rw [if_neg hb0, if_neg hb0, if_neg (by omega)]
      · rw [if_neg hr, if_neg hr]
    · rw [if_neg hd, if_neg (fun h => hn.1 h.1.1.symm)]
      simp only [List.all_cons, hd, Bool.false_and]
      rfl
theorem rGo_part : ∀ (X : List UInt8) (ds : List Nat) (b : Int), 0 ≤ b →
    rGo X ds b = if X.all isDig = true then some (ds ++ digs X, b + X.length) else none
  | [], ds, b, hb => by simp [rGo]
  | c :: r, ds, b, hb => by
    rw [rGo]
    by_cases hd : isDig c = true
    · rw [if_pos hd, if_pos (by omega), rGo_part r _ _ (by omega)]
      simp only [List.all_cons, hd, Bool.true_and]
      by_cases hr : r.all isDig = true
      · rw [if_pos hr, if_pos hr]
        simp only [List.append_assoc, List.length_cons, Option.some.injEq, Prod.mk.injEq]
        exact ⟨by simp, by omega⟩
      · rw [if_neg hr, if_neg hr]
    · rw [if_neg hd, if_neg (fun h => by omega)]
      simp only [List.all_cons, hd, Bool.false_and]
      rfl
theorem split46 : ∀ l : List UInt8, (46 : UInt8) ∈ l → l = wholeF l ++ 46 :: partF l ∧ (46 : UInt8) ∉ wholeF l
  | [], h => by simp at h
  | c :: r, h => by
    by_cases hc : c = 46
    · subst hc
      simp [wholeF, partF]
    · have hr : (46 : UInt8) ∈ r := by
        rcases List.mem_cons.1 h with h | h
        · exact absurd h.symm hc
        · exact h
      obtain ⟨h1, h2⟩ := split46 r hr
      have e1 : wholeF (c :: r) = c :: wholeF r := by simp [wholeF, hc]
      have e2 : partF (c :: r) = partF r := by simp [partF, hc]
      rw [e1, e2]
      exact ⟨by rw [List.cons_append, ← h1], by simp [h2]; exact fun h => hc h.symm⟩
theorem isDigs_iff (l : List UInt8) : isDigs l = true ↔ l ≠ [] ∧ l.all isDig = true := by
  unfold isDigs
  cases l with
  | nil => simp
  | cons a r => simp
theorem digs_len (l : List UInt8) : (digs l).length = l.length := List.length_map _
theorem rGo_body (b : List UInt8) : rGo b [] (-1) =
    if (wholeF b).all isDig = true ∧ ((46 : UInt8) ∈ b → wholeF b ≠ [] ∧ (partF b).all isDig = true) then some (digs (wholeF b ++ partF b), if (46 : UInt8) ∈ b then ((partF b).length : Int) else -1) else none := by
  by_cases hin : (46 : UInt8) ∈ b
  · obtain ⟨h1, h2⟩ := split46 b hin
    obtain ⟨W, hW⟩ : ∃ W, W = wholeF b := ⟨_, rfl⟩
    obtain ⟨P, hP⟩ : ∃ P, P = partF b := ⟨_, rfl⟩
    rw [← hW, ← hP] at h1 ⊢
    rw [← hW] at h2
    simp only [hin, if_true, true_implies]
    rw [show rGo b [] (-1) = rGo (W ++ 46 :: P) [] (-1) by rw [← h1], rGo_row W _ _ _ h2 (by omega)]
    by_cases hw : W.all isDig = true
    · rw [if_pos hw, rGo, if_neg (show ¬ isDig 46 = true by decide)]
      by_cases hw0 : W = []
      · rw [if_neg (by rw [hw0]; simp), if_neg (fun h => h.2.1 hw0)]
      · have : 0 < W.length := List.length_pos_iff.2 hw0
        rw [if_pos ⟨⟨rfl, by rw [if_neg (by omega)]; omega⟩, by rw [List.nil_append, digs_len]; exact this⟩, rGo_part P _ _ (by omega)]
        by_cases hp : P.all isDig = true
        · rw [if_pos hp, if_pos ⟨hw, hw0, hp⟩]
          simp [digs]
        · rw [if_neg hp, if_neg (fun h => hp h.2.2)]
    · rw [if_neg hw, if_neg (fun h => hw h.1)]
  · obtain ⟨h1, h2⟩ := tw_none b hin
    have := rGo_row b [] [] (-1) hin (by omega)
    rw [List.append_nil] at this
    rw [this, h1, h2]
    simp only [hin, false_implies, and_true, if_false]
    by_cases hw : b.all isDig = true
    · rw [if_pos hw, if_pos hw, rGo]; simp [digs]
    · rw [if_neg hw, if_neg hw]
theorem right_good {l : List UInt8} (hb : badF l = false) : rightF l = (l.head? == some 45, digs (wholeF (bodyF l) ++ partF (bodyF l)), ((partF (bodyF l)).length : Int), true) := by
  obtain ⟨h40, hw, hp, hpa⟩ := good_of hb
  obtain ⟨hw0, hwa⟩ := (isDigs_iff _).1 hw
  have hg := rGo_body (bodyF l)
  rw [if_pos ⟨hwa, fun h => ⟨hw0, hpa⟩⟩] at hg
  rw [rightF_some (by omega) hg]
  have hl : 0 < (wholeF (bodyF l)).length := List.length_pos_iff.2 hw0
  have hl2 : 0 < (digs (wholeF (bodyF l) ++ partF (bodyF l))).length := by rw [digs_len, List.length_append]; omega
  by_cases hin : (46 : UInt8) ∈ bodyF l
  · have hp0 : 0 < (partF (bodyF l)).length := List.length_pos_iff.2 ((isDigs_iff _).1 (hp hin)).1
    rw [if_pos hin, decide_eq_true hl2, decide_eq_false (by omega), Int.max_eq_left (by omega)]
    rfl
  · rw [if_neg hin, decide_eq_true hl2, (tw_none _ hin).2]
    rfl
theorem right_bad {l : List UInt8} (hb : badF l = true) : (rightF l).2.2.2 = false := by
  by_cases h40 : l.length > 40
  · unfold rightF; rw [if_pos h40]
  · have hg := rGo_body (bodyF l)
    split at hg
    · rename_i hc
      rw [rightF_some h40 hg]
      show (decide (0 < (digs (wholeF (bodyF l) ++ partF (bodyF l))).length) && !decide ((if (46 : UInt8) ∈ bodyF l then ((partF (bodyF l)).length : Int) else -1) = 0)) = false
      obtain ⟨c1, c2⟩ := hc
      unfold badF at hb
      rw [decide_eq_false h40, Bool.false_or] at hb
      by_cases hin : (46 : UInt8) ∈ bodyF l
      · obtain ⟨c3, c4⟩ := c2 hin
        rw [if_pos hin]
        rw [(isDigs_iff _).2 ⟨c3, c1⟩, decide_eq_true hin] at hb
        have hp0 : partF (bodyF l) = [] := by
          by_cases h0 : partF (bodyF l) = []
          · exact h0
          · rw [(isDigs_iff _).2 ⟨h0, c4⟩] at hb
            exact absurd hb (by decide)
        rw [hp0]
        simp
      · rw [decide_eq_false hin, Bool.false_and, Bool.or_false] at hb
        have hw0 : wholeF (bodyF l) = [] := by
          by_cases h0 : wholeF (bodyF l) = []
          · exact h0
          · rw [(isDigs_iff _).2 ⟨h0, c1⟩] at hb
            exact absurd hb (by decide)
        rw [hw0, (tw_none _ hin).2]
        rfl
    · rw [rightF_none h40 hg]
theorem dsV_digs (l : List UInt8) : dsV (digs l) = decA 0 l := by
  unfold dsV decA digs
  rw [List.foldl_map]
theorem ref_eq (l : List UInt8) : refReadF l = readF l := by
  by_cases hb : badF l = true
  · unfold refReadF readF
    rw [if_pos (right_bad hb), if_pos hb]
  · have hb : badF l = false := by simpa using hb
    rw [readF_good hb]
    unfold refReadF
    rw [right_good hb]
    rw [if_neg (show ¬ true = false by decide)]
    show sgnF _ _ = _
    rw [dsV_digs]
    rfl
end Go.Proofs.YtfjkajlkehjnnaaGreatDoor
