/- Noughts ahead and behind change nothing, in plain Lean. -/
import Derived.Test.YtfjkajlkehjnnaaGreatDoorB22
set_option maxRecDepth 100000
set_option linter.unusedVariables false
namespace Go.Proofs.YtfjkajlkehjnnaaGreatDoor
open Go Go.Eng Go.RowKit Go.Ar

def dch (d : Nat) : UInt8 := UInt8.ofNat (48 + d)
abbrev zs (k : Nat) : List UInt8 := List.replicate k 48
abbrev sg (neg : Bool) : List UInt8 := if neg = true then [45] else []
def midF (ds : List Nat) (m i : Nat) : List UInt8 := if i ≤ m then (ds.take i).map dch else (ds.take m).map dch ++ 46 :: ((ds.take i).drop m).map dch
def textF (neg : Bool) (ds : List Nat) (b k : Nat) : List UInt8 := sg neg ++ zs k ++ midF ds (ds.length - b) ds.length ++ (if b = 0 ∧ 0 < k then [46] else []) ++ zs k

theorem dch_digs : ∀ (X : List UInt8), X.all isDig = true → (digs X).map dch = X
  | [], _ => rfl
  | c :: r, h => by
    simp only [List.all_cons, Bool.and_eq_true] at h
    have hc : 48 ≤ c.toNat ∧ c.toNat ≤ 57 := by simpa [isDig] using h.1
    simp only [digs, List.map_cons]
    rw [show (r.map fun b => b.toNat - 48).map dch = r from dch_digs r h.2]
    congr 1
    unfold dch
    rw [show 48 + (c.toNat - 48) = c.toNat by omega]
    exact UInt8.ofNat_toNat
theorem zs_dig (k : Nat) : (zs k).all isDig = true := by
  rw [List.all_eq_true]
  intro x hx
  rw [List.eq_of_mem_replicate hx]
  decide
theorem decA_zs (a : Nat) : ∀ k, decA a (zs k) = a * 10 ^ k
  | 0 => by simp [decA]
  | k + 1 => by
    rw [show zs (k + 1) = zs k ++ [48] from List.replicate_succ', decA_app, decA_zs a k, Nat.pow_succ]
    show a * 10 ^ k * 10 + 0 = _
    rw [Nat.add_zero, Nat.mul_assoc]
theorem mid_all (W P : List UInt8) (h : (W ++ P).all isDig = true) : midF (digs (W ++ P)) W.length (digs (W ++ P)).length = if P = [] then W else W ++ 46 :: P := by
  have hW : W.all isDig = true := by rw [List.all_append, Bool.and_eq_true] at h; exact h.1
  have hP : P.all isDig = true := by rw [List.all_append, Bool.and_eq_true] at h; exact h.2
  unfold midF
  rw [List.take_length, digs_len, List.length_append]
  have e1 : (digs (W ++ P)).take W.length = digs W := by simp [digs]
  have e2 : (digs (W ++ P)).drop W.length = digs P := by simp [digs]
  by_cases hp : P = []
  · subst hp
    rw [if_pos (by simp), if_pos rfl, List.append_nil, dch_digs W hW]
  · have : 0 < P.length := List.length_pos_iff.2 hp
    rw [if_neg (by omega), if_neg hp, e1, e2, dch_digs W hW, dch_digs P hP]
/-- a good text written out -/
theorem good_text {t D P : List UInt8} (neg : Bool) (hD : D.all isDig = true) (hD0 : D ≠ []) (hP : P.all isDig = true) (hP0 : P ≠ []) (ht : t = sg neg ++ (D ++ 46 :: P)) (h40 : t.length ≤ 40) :
    readF t = sgnF (totF (decA 0 (D ++ P)) P.length) neg := by
  obtain ⟨b1, b2⟩ := read_body neg hD hD0 t ht
  obtain ⟨w1, w2⟩ := whole_app (F := P) hD
  have hb : badF t = false := by
    unfold badF
    rw [b1, w1, w2, (isDigs_iff D).2 ⟨hD0, hD⟩, (isDigs_iff P).2 ⟨hP0, hP⟩, decide_eq_false (show ¬ t.length > 40 by omega)]
    simp
  rw [readF_good hb, b1, b2, w1, w2]
theorem good_whole {t D : List UInt8} (neg : Bool) (hD : D.all isDig = true) (hD0 : D ≠ []) (ht : t = sg neg ++ D) (h40 : t.length ≤ 40) :
    readF t = sgnF (totF (decA 0 D) 0) neg := by
  obtain ⟨b1, b2⟩ := read_body (F := []) neg hD hD0 t (by rw [List.append_nil]; exact ht)
  rw [List.append_nil] at b1
  obtain ⟨w1, w2⟩ := tw_none D (no46 hD)
  have hb : badF t = false := by
    unfold badF
    rw [b1, w1, w2, (isDigs_iff D).2 ⟨hD0, hD⟩, decide_eq_false (show ¬ t.length > 40 by omega), decide_eq_false (no46 hD)]
    simp
  rw [readF_good hb, b1, b2, w1, w2, List.append_nil]
  rfl
theorem text_len (neg : Bool) (ds : List Nat) (b k : Nat) : (textF neg ds b k).length ≤ ds.length + 2 * k + 2 := by
  unfold textF midF
  simp only [List.length_append, List.length_replicate]
  have h1 : (sg neg).length ≤ 1 := by unfold sg; split <;> simp
  have h2 : (if ds.length ≤ ds.length - b then (ds.take ds.length).map dch else (ds.take (ds.length - b)).map dch ++ 46 :: ((ds.take ds.length).drop (ds.length - b)).map dch).length + (if b = 0 ∧ 0 < k then [(46 : UInt8)] else []).length ≤ ds.length + 1 := by
    by_cases hb : ds.length ≤ ds.length - b
    · rw [if_pos hb]
      split <;> simp
    · rw [if_neg hb, if_neg (by omega)]
      simp only [List.length_append, List.length_map, List.length_take, List.length_cons, List.length_drop, List.length_nil]
      omega
  omega
theorem text_read {l : List UInt8} (hb : badF l = false) (k : Nat) (hk : (rightF l).2.1.length + 2 * k ≤ 36) :
    readF (textF (rightF l).1 (rightF l).2.1 (rightF l).2.2.1.toNat k) = readF l := by
  obtain ⟨h40, hw, hp, hpa⟩ := good_of hb
  obtain ⟨hw0, hwa⟩ := (isDigs_iff _).1 hw
  have hlen := text_len (rightF l).1 (rightF l).2.1 (rightF l).2.2.1.toNat k
  rw [readF_good hb]
  rw [right_good hb] at hk hlen ⊢
  obtain ⟨W, hW⟩ : ∃ W, W = wholeF (bodyF l) := ⟨_, rfl⟩
  obtain ⟨P, hP⟩ : ∃ P, P = partF (bodyF l) := ⟨_, rfl⟩
  obtain ⟨neg, hneg⟩ : ∃ n, n = (l.head? == some 45) := ⟨_, rfl⟩
  rw [← hW] at hw0 hwa
  rw [← hP] at hpa
  rw [← hW, ← hP, ← hneg] at hk hlen ⊢
  replace hk : (digs (W ++ P)).length + 2 * k ≤ 36 := hk
  replace hlen : (textF neg (digs (W ++ P)) ((P.length : Nat) : Int).toNat k).length ≤ (digs (W ++ P)).length + 2 * k + 2 := hlen
  show readF (textF neg (digs (W ++ P)) ((P.length : Nat) : Int).toNat k) = _
  rw [Int.toNat_natCast] at hlen ⊢
  have hall : (W ++ P).all isDig = true := by rw [List.all_append, hwa, hpa]; rfl
  have hm := mid_all W P hall
  have hml : (digs (W ++ P)).length - P.length = W.length := by rw [digs_len, List.length_append]; omega
  obtain ⟨t, ht⟩ : ∃ t, t = textF neg (digs (W ++ P)) P.length k := ⟨_, rfl⟩
  rw [← ht] at hlen ⊢
  unfold textF at ht
  rw [hml, hm] at ht
  have h40t : t.length ≤ 40 := by omega
  have hD : (zs k ++ W).all isDig = true := by rw [List.all_append, zs_dig, hwa]; rfl
  have hD0 : zs k ++ W ≠ [] := by simp [hw0]
  have hQ : (P ++ zs k).all isDig = true := by rw [List.all_append, zs_dig, hpa]; rfl
  have hval : decA 0 (zs k ++ W ++ (P ++ zs k)) = decA 0 (W ++ P) * 10 ^ k := by
    rw [show zs k ++ W ++ (P ++ zs k) = zs k ++ (W ++ P) ++ zs k by simp, decA_apps, decA_zs, decA_apps, decA_zs, Nat.zero_mul]
  by_cases hq : P ++ zs k = []
  · have hp0 : P = [] := (List.append_eq_nil_iff.1 hq).1
    have hk0 : k = 0 := by
      have := (List.append_eq_nil_iff.1 hq).2
      simpa [zs] using this
    subst hp0
    subst hk0
    rw [if_pos rfl, if_neg (by omega)] at ht
    have ht2 : t = sg neg ++ W := by rw [ht]; simp [zs]
    rw [good_whole neg hwa hw0 ht2 h40t, List.append_nil]
    rfl
  · have ht2 : t = sg neg ++ (zs k ++ W ++ 46 :: (P ++ zs k)) := by
      rw [ht]
      by_cases hp0 : P = []
      · subst hp0
        have hk0 : 0 < k := by
          rcases Nat.eq_zero_or_pos k with h | h
          · subst h; exact absurd rfl hq
          · exact h
        rw [if_pos rfl, if_pos ⟨rfl, hk0⟩]
        simp
      · rw [if_neg hp0, if_neg (fun h => hp0 (List.length_eq_zero_iff.1 h.1))]
        simp
    rw [good_text neg hD hD0 hQ hq ht2 h40t, hval, List.length_append, List.length_replicate, totF_scale]
end Go.Proofs.YtfjkajlkehjnnaaGreatDoor
