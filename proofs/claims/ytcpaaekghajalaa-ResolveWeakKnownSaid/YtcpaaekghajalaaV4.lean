/- The state of Weak's third part: more of its steps, and what the code asks of it. -/
import Derived.Test.YtcpaaekghajalaaV3
namespace Go.Proofs.Ytcpaaekghajalaa
open Go Go.Eng Go.RowKit

noncomputable def rest25 : Code := (findLabel (match (Try.f25.body.getD .skip) with | .seq _ (.scope b) => b | _ => .skip) 0).getD .skip

def chW (l out : List Int) (ps : List Nat) (b n : Int) : List Chunk := [.rd Int inferInstance 1 cE l, ow out, op ps, .bx 51 [.sl 1, .sl 2, .v (.int .u8 b), .v (.int .u8 n)], .bx 48 [.bx 3 0]]

/-- at, by the row's classes -/
theorem atF_mg (Y l : List Int) (k : Int) : atF (mg Y 0 l) (posL l) k = if k < 0 ∨ k ≥ ((noBN l).length : Int) then 10 else nth Y k.toNat := by
  unfold atF
  rw [posL_len]
  split
  · rfl
  · rename_i h; exact mg_pos Y l k.toNat (by omega)
theorem posL_in (Y l : List Int) : ∀ j, j < (posL l).length → nth (posL l) j < (mg Y 0 l).length := fun j hj => by
  rw [mg_len]; exact posL_lt l j (by rw [← posL_len]; exact hj)
theorem setY_take_le (Y : List Int) (c : Int) (f m n : Nat) (h : f + m ≤ Y.length) (hn : n ≤ f) : (setY Y c f m).take n = Y.take n := by
  have := congrArg (List.take n) (setY_take Y c f m h)
  rw [List.take_take, List.take_take, Nat.min_eq_left hn] at this
  exact this
theorem set_same (Y : List Int) (k : Nat) (h : k < Y.length) : Y.set k (nth Y k) = Y := by
  refine nth_ext (by simp) fun j hj => ?_
  rw [nth_set _ _ _ _ h]
  split
  · rename_i e; rw [e]
  · rfl

/-- an EN under L, terminators behind it -/
def TS.stepL {Fin : List Int} (t : TS Fin) (m : Nat) (h : t.k + 1 + m ≤ t.Y.length) (hm : 0 < m) (h4 : nth t.Y t.k = 4) (hs : t.s = 1) (h6 : ∀ j, t.k + 1 ≤ j → j < t.k + 1 + m → nth t.Y j = 6) : TS Fin where
  Y := (setY t.Y 4 (t.k + 1) m).set t.k 1
  k := t.k + 1
  s := t.s
  pe := true
  hl := by simp [setY_len, t.hl]
  hk := by simp [setY_len]; omega
  eq := by
    have h1 := t.eq
    have hk : t.k < t.Y.length := by omega
    rw [drop_nth t.Y t.k hk, h4, restC_o _ _ _ _ (by decide), hs, show w6f 4 = 4 from by decide, show w7g 1 4 = 1 from by decide, show w7t 1 4 = 1 from by decide, show decide ((4 : Int) = 4) = true from rfl, run_drop _ _ _ h h6, restC_run4 _ _ _ _ (.inl rfl)] at h1
    rw [take_set_succ _ _ _ (by rw [setY_len]; exact hk), drop_set_succ, setY_take_le _ _ _ _ _ h (by omega), setY_drop _ _ _ _ h, List.append_assoc, hs]
    exact h1
  J h1 h2 := by
    simp only [List.length_set, setY_len] at h1
    rw [nth_set _ _ _ _ (by rw [setY_len]; omega), if_neg (by omega), setY_nth _ _ _ _ _ h, if_pos (by omega)] at h2
    omega

/-- a class that is not looked at -/
def TS.stepO {Fin : List Int} (t : TS Fin) (h : t.k < t.Y.length) (hne : nth t.Y t.k ≠ 1 ∧ nth t.Y t.k ≠ 2 ∧ nth t.Y t.k ≠ 4 ∧ nth t.Y t.k ≠ 5 ∧ nth t.Y t.k ≠ 6 ∧ nth t.Y t.k ≠ 8) : TS Fin where
  Y := t.Y
  k := t.k + 1
  s := t.s
  pe := false
  hl := t.hl
  hk := h
  eq := by
    have h1 := t.eq
    have e6 : w6f (nth t.Y t.k) = nth t.Y t.k := by simp [w6f, hne]
    have eg : w7g t.s (nth t.Y t.k) = nth t.Y t.k := by simp [w7g, hne]
    have et : w7t t.s (nth t.Y t.k) = t.s := by simp [w7t, hne]
    rw [drop_nth t.Y t.k h, restC_o _ _ _ _ hne.2.2.2.2.1, e6, eg, et, decide_eq_false hne.2.2.1] at h1
    rw [List.take_succ_eq_append_getElem h, List.append_assoc, ← nth_eq]
    exact h1
  J h1 h2 := by
    rw [Nat.add_sub_cancel]
    exact ⟨fun e => (by cases e), fun e => absurd e.2 hne.2.2.1⟩
/-- a separator -/
def TS.stepS {Fin : List Int} (t : TS Fin) (h : t.k < t.Y.length) (hc : nth t.Y t.k = 5 ∨ nth t.Y t.k = 8) : TS Fin where
  Y := t.Y.set t.k 14
  k := t.k + 1
  s := t.s
  pe := false
  hl := by simp [t.hl]
  hk := by simp; omega
  eq := by
    have h1 := t.eq
    have e6 : w6f (nth t.Y t.k) = 14 := by rcases hc with e | e <;> rw [e] <;> decide
    have eg : w7g t.s 14 = 14 := by simp [w7g]
    have et : w7t t.s 14 = t.s := by simp [w7t]
    rw [drop_nth t.Y t.k h, restC_o _ _ _ _ (by omega), e6, eg, et, decide_eq_false (by omega)] at h1
    rw [take_set_succ _ _ _ h, drop_set_succ, List.append_assoc]
    exact h1
  J h1 h2 := by
    simp only [List.length_set] at h1
    rw [Nat.add_sub_cancel, nth_set _ _ _ _ h, if_pos rfl]
    exact ⟨fun e => (by cases e), fun e => by omega⟩
/-- a strong class -/
def TS.stepLR {Fin : List Int} (t : TS Fin) (h : t.k < t.Y.length) (hc : nth t.Y t.k = 1 ∨ nth t.Y t.k = 2) : TS Fin where
  Y := t.Y
  k := t.k + 1
  s := nth t.Y t.k
  pe := false
  hl := t.hl
  hk := h
  eq := by
    have h1 := t.eq
    have e6 : w6f (nth t.Y t.k) = nth t.Y t.k := by rcases hc with e | e <;> rw [e] <;> decide
    have eg : w7g t.s (nth t.Y t.k) = nth t.Y t.k := by rcases hc with e | e <;> simp [w7g, e]
    have et : w7t t.s (nth t.Y t.k) = nth t.Y t.k := by simp [w7t, hc]
    rw [drop_nth t.Y t.k h, restC_o _ _ _ _ (by omega), e6, eg, et, decide_eq_false (by omega)] at h1
    rw [List.take_succ_eq_append_getElem h, List.append_assoc, ← nth_eq]
    exact h1
  J h1 h2 := by
    rw [Nat.add_sub_cancel]
    exact ⟨fun e => (by cases e), fun e => by omega⟩
/-- an EN under no L -/
def TS.stepR {Fin : List Int} (t : TS Fin) (h : t.k < t.Y.length) (hc : nth t.Y t.k = 4) (hs : t.s ≠ 1) : TS Fin where
  Y := t.Y
  k := t.k + 1
  s := t.s
  pe := true
  hl := t.hl
  hk := h
  eq := by
    have h1 := t.eq
    have e6 : w6f 4 = 4 := by decide
    have eg : w7g t.s 4 = 4 := by simp [w7g, hs]
    have et : w7t t.s 4 = t.s := by simp [w7t]
    rw [drop_nth t.Y t.k h, hc, restC_o _ _ _ _ (by omega), e6, eg, et, decide_eq_true rfl] at h1
    rw [List.take_succ_eq_append_getElem h, List.append_assoc, ← nth_eq, hc]
    exact h1
  J h1 h2 := by
    rw [Nat.add_sub_cancel]
    exact ⟨fun _ => ⟨by omega, hc⟩, fun _ => rfl⟩
/-- an EN under L, no terminator behind it -/
def TS.stepE {Fin : List Int} (t : TS Fin) (h : t.k < t.Y.length) (hc : nth t.Y t.k = 4) (hs : t.s = 1) (hn : t.k + 1 < t.Y.length → nth t.Y (t.k + 1) ≠ 6) : TS Fin where
  Y := t.Y.set t.k 1
  k := t.k + 1
  s := t.s
  pe := true
  hl := by simp [t.hl]
  hk := by simp; omega
  eq := by
    have h1 := t.eq
    rw [drop_nth t.Y t.k h, hc, restC_o _ _ _ _ (by omega), hs, show w6f 4 = 4 from by decide, show w7g 1 4 = 1 from by decide, show w7t 1 4 = 1 from by decide, decide_eq_true rfl] at h1
    rw [take_set_succ _ _ _ h, drop_set_succ, List.append_assoc, hs]
    exact h1
  J h1 h2 := by
    simp only [List.length_set] at h1
    rw [nth_set _ _ _ _ h, if_neg (by omega)] at h2
    exact absurd h2 (hn h1)

/-- how far it has come -/
def TS.mu {Fin : List Int} (t : TS Fin) : Nat := 2 * (t.Y.length - t.k) + (if t.k < t.Y.length ∧ nth t.Y t.k = 6 then 1 else 0)
theorem TS.mu_lt {Fin : List Int} (t t' : TS Fin) (h : t.k < t.Y.length) (h1 : t.k < t'.k) : t'.mu < t.mu := by
  have := t.hl
  have := t'.hl
  have := t'.hk
  unfold TS.mu
  split <;> split <;> omega
theorem TS.mu_lt4 {Fin : List Int} (t t' : TS Fin) (h : t.k < t.Y.length) (h6 : nth t.Y t.k = 6) (h1 : t'.k = t.k) (h2 : nth t'.Y t.k ≠ 6) : t'.mu < t.mu := by
  have := t.hl
  have := t'.hl
  unfold TS.mu
  rw [if_neg (by rw [h1]; exact fun e => h2 e.2), if_pos ⟨h, h6⟩, h1]
  omega
/-- terms' answer -/
theorem TS.term {Fin l : List Int} (t : TS Fin) (hF : Fin.length = (noBN l).length) (m : Nat) (hm : 0 < m) (h : t.k + m ≤ t.Y.length) (h6 : ∀ j, t.k ≤ j → j < t.k + m → nth t.Y j = 6) (hend : t.k + m < t.Y.length → nth t.Y (t.k + m) ≠ 6) :
    (termC (mg t.Y 0 l) (posL l) t.k (t.k + m) = 4 ∧ (t.pe = true ∨ nxE (t.Y.drop (t.k + m)) = 4)) ∨ (termC (mg t.Y 0 l) (posL l) t.k (t.k + m) = 14 ∧ ¬ (t.pe = true ∨ nxE (t.Y.drop (t.k + m)) = 4)) := by
  have hYl := t.hl
  have hJ := t.J (by omega) (h6 t.k (Nat.le_refl _) (by omega))
  have hx : nxE (t.Y.drop (t.k + m)) = 4 ↔ t.k + m < t.Y.length ∧ nth t.Y (t.k + m) = 4 := nxE_end t.Y (t.k + m) (by
    rcases Nat.lt_or_ge (t.k + m) t.Y.length with h' | h'
    · exact .inr (hend h')
    · exact .inl h')
  have e1 : atF (mg t.Y 0 l) (posL l) ((t.k : Int) - 1) = 4 ↔ 0 < t.k ∧ nth t.Y (t.k - 1) = 4 := by
    rw [atF_mg]
    rcases Nat.eq_zero_or_pos t.k with h0 | h0
    · rw [if_pos (by omega)]; omega
    · rw [if_neg (by omega), show ((t.k : Int) - 1).toNat = t.k - 1 from by omega]
      exact ⟨fun e => ⟨h0, e⟩, fun e => e.2⟩
  have e2 : atF (mg t.Y 0 l) (posL l) ((t.k + m : Nat) : Int) = 4 ↔ t.k + m < t.Y.length ∧ nth t.Y (t.k + m) = 4 := by
    rw [atF_mg]
    rcases Nat.lt_or_ge (t.k + m) t.Y.length with h' | h'
    · rw [if_neg (by omega), Int.toNat_natCast]
      exact ⟨fun e => ⟨h', e⟩, fun e => e.2⟩
    · rw [if_pos (by omega)]; omega
  unfold termC
  simp only [e1, e2, ← hJ, ← hx]
  by_cases hc : t.pe = true ∨ nxE (t.Y.drop (t.k + m)) = 4
  · exact .inl ⟨if_pos hc, hc⟩
  · exact .inr ⟨if_neg hc, hc⟩
/-- at, of the row -/
theorem atF_in {Y l : List Int} {j : Nat} (hF : Y.length = (noBN l).length) (h : j < Y.length) : atF (mg Y 0 l) (posL l) (j : Int) = nth Y j := by
  rw [atF_mg, if_neg (by omega), Int.toNat_natCast]
theorem atF_out {Y l : List Int} {j : Nat} (hF : Y.length = (noBN l).length) (h : Y.length ≤ j) : atF (mg Y 0 l) (posL l) (j : Int) = 10 := by
  rw [atF_mg, if_pos (by omega)]
theorem atF_6 {Y l : List Int} {j : Nat} (hF : Y.length = (noBN l).length) (h : atF (mg Y 0 l) (posL l) (j : Int) = 6) : j < Y.length ∧ nth Y j = 6 := by
  rcases Nat.lt_or_ge j Y.length with h' | h'
  · exact ⟨h', by rw [← h, atF_in hF h']⟩
  · rw [atF_out hF h'] at h; omega
theorem atF_n6 {Y l : List Int} {j : Nat} (hF : Y.length = (noBN l).length) (h : atF (mg Y 0 l) (posL l) (j : Int) ≠ 6) : j < Y.length → nth Y j ≠ 6 := fun h' e => h (by rw [atF_in hF h', e])
end Go.Proofs.Ytcpaaekghajalaa
