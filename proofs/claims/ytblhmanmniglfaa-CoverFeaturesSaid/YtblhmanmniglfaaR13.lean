/- What is put of classes is read again: plain Lean. -/
import Derived.Test.YtblhmanmniglfaaR12
namespace Go.Proofs.Ytblhmanmniglfaa
open Go Go.Eng Go.RowKit

theorem fillC_nth (f : Nat) (t : Int) (l : List Int) (ht : IntKind.u8.wrap t = t) : ∀ (m : Nat), f + m ≤ l.length → ∀ j, j < l.length → nth (fillC f t l m) j = if f ≤ j ∧ j < f + m then t else nth l j
  | 0, _, j, _ => by rw [if_neg (by omega)]; rfl
  | m + 1, h, j, hj => by
    show nth ((fillC f t l m).set (f + m) (IntKind.u8.wrap t)) j = _
    rw [nth_set _ _ _ _ (by rw [fillC_len]; omega), ht]
    by_cases e : j = f + m
    · rw [if_pos e, if_pos (by omega)]
    · rw [if_neg e, fillC_nth f t l ht m (by omega) j hj]
      by_cases e2 : f ≤ j ∧ j < f + m
      · rw [if_pos e2, if_pos (by omega)]
      · rw [if_neg e2, if_neg (by omega)]

/-- what is known of the ranges ahead of a run -/
structure RI (c : List Int) (s : RS c) : Prop where
  ok : ∀ j, j < s.m → ok3 (rowsF c 0) c.length j = true
  e : sE (rowsF c 0) s.m < s.i
  v : ∀ j, j < c.length → nth (accC (rowsF c 0) (List.replicate c.length 0) s.m) j = if j < s.i then nth c j else 0
theorem rowsF_step (c : List Int) (i : Nat) (h : i < c.length) : rowsF c i = rowR c i ++ rowsF c (endR c i i) := by
  rw [rowsF, dif_pos h]
theorem nth_rep (n j : Nat) : nth (List.replicate n (0 : Int)) j = 0 := by
  unfold nth
  rw [List.getD_eq_getElem?_getD, List.getElem?_replicate]
  split <;> rfl
theorem RI.init (c : List Int) : RI c (RS.init c) where
  ok j hj := absurd hj (Nat.not_lt_zero _)
  e := by show (-1 : Int) < 0; decide
  v j hj := by
    show nth (List.replicate c.length 0) j = if j < 0 then _ else _
    rw [if_neg (by omega), nth_rep]
theorem RI.next {c : List Int} {s : RS c} (h : RI c s) (hlt : s.i < c.length) (hl : c.length ≤ 65535) (hc : ∀ x ∈ c, 0 ≤ x ∧ x ≤ 4) : RI c (s.next hlt) := by
  have hE := endR_self c s.i hlt
  have hE2 := endR_le c s.i s.i s.hi
  have hsame := fun j h1 h2 => endR_same c s.i s.i j h1 h2
  have hci := hc _ (nth_memI hlt)
  obtain ⟨hok, he, hv⟩ := h
  have hd0 := s.hacc.symm
  rw [rowsF_step c s.i hlt] at hd0
  generalize hdg : rowsF c 0 = d at *
  by_cases hz : nth c s.i = 0
  · have hm : (s.next hlt).m = s.m := if_pos hz
    refine ⟨by rw [hm, hdg]; exact hok, ?_, ?_⟩
    · rw [hm, hdg]; show sE d s.m < ((endR c s.i s.i : Nat) : Int); omega
    · intro j hj
      rw [hm, hdg, hv j hj]
      show _ = if j < endR c s.i s.i then _ else _
      by_cases e1 : j < s.i
      · rw [if_pos e1, if_pos (by omega)]
      · rw [if_neg e1]
        by_cases e2 : j < endR c s.i s.i
        · rw [if_pos e2, hsame j (by omega) e2, hz]
        · rw [if_neg e2]
  · have hm : (s.next hlt).m = s.m + 1 := if_neg hz
    have hx := i64_id (nth c s.i) (by omega) (by omega)
    have hrow : rowR c s.i = tw ((s.i : Nat) : Int) ++ (tw ((endR c s.i s.i - 1 : Nat) : Int) ++ tw (((nth c s.i).toNat : Nat) : Int)) := by
      unfold rowR
      rw [if_neg hz, hx, List.append_assoc, show ((endR c s.i s.i : Nat) : Int) - 1 = ((endR c s.i s.i - 1 : Nat) : Int) from by omega, show (((nth c s.i).toNat : Nat) : Int) = nth c s.i from by omega]
    have hni0 : (s.next hlt).i = endR c s.i s.i := rfl
    generalize hE' : endR c s.i s.i = E at *
    have hdd : d = s.acc ++ (tw ((s.i : Nat) : Int) ++ (tw ((E - 1 : Nat) : Int) ++ (tw (((nth c s.i).toNat : Nat) : Int) ++ rowsF c E))) := by
      rw [hd0, hrow]
      simp only [List.append_assoc]
    have hF : sF d s.m = ((s.i : Nat) : Int) := by
      unfold sF; rw [hdd]; exact wd_tw _ _ _ (by omega) _ s.hm.symm
    have hL : sL d s.m = ((E - 1 : Nat) : Int) := by
      unfold sL
      rw [hdd, ← List.append_assoc]
      exact wd_tw _ _ _ (by omega) _ (by rw [List.length_append, s.hm, tw_len])
    have hT : sT d s.m = nth c s.i := by
      unfold sT
      rw [hdd, ← List.append_assoc, ← List.append_assoc, wd_tw _ _ _ (by omega) _ (by rw [List.length_append, List.length_append, s.hm, tw_len, tw_len])]
      omega
    refine ⟨?_, ?_, ?_⟩
    · rw [hm, hdg]
      intro j hj
      by_cases e : j = s.m
      · subst e
        unfold ok3 sB
        rw [hF, hL, hT, decide_eq_false (by omega), decide_eq_false (by omega), decide_eq_false (by omega), decide_eq_false (by omega)]
        rfl
      · exact hok j (by omega)
    · rw [hm, hdg, hni0]
      show sL d s.m < ((E : Nat) : Int)
      rw [hL]; omega
    · intro j hj
      rw [hm, hdg, hni0]
      show nth (fillC (sF d s.m).toNat (sT d s.m) (accC d (List.replicate c.length 0) s.m) (sL d s.m + 1 - sF d s.m).toNat) j = if j < E then _ else _
      have hal : (accC d (List.replicate c.length 0) s.m).length = c.length := by rw [accC_len, List.length_replicate]
      have hn : (sL d s.m + 1 - sF d s.m).toNat = E - s.i := by rw [hL, hF]; omega
      rw [hn, hF, hT, Int.toNat_natCast, fillC_nth _ _ _ (by rw [IntKind.wrap_u8]; omega) _ (by omega) j (by omega), hv j hj]
      by_cases e1 : j < s.i
      · rw [if_neg (by omega), if_pos e1, if_pos (by omega)]
      · by_cases e2 : j < E
        · rw [if_pos (by omega), if_pos e2, hsame j (by omega) e2]
        · rw [if_neg (by omega), if_neg e1, if_neg e2]
theorem RI.fin {c : List Int} (hl : c.length ≤ 65535) (hc : ∀ x ∈ c, 0 ≤ x ∧ x ≤ 4) : ∀ (n : Nat) (s : RS c), c.length - s.i ≤ n → RI c s → ∃ s' : RS c, s'.i = c.length ∧ RI c s'
  | 0, s, hn, h => ⟨s, by have := s.hi; omega, h⟩
  | n + 1, s, hn, h => by
    by_cases hlt : s.i < c.length
    · refine RI.fin hl hc n (s.next hlt) ?_ (h.next hlt hl hc)
      have := endR_self c s.i hlt
      show c.length - endR c s.i s.i ≤ n
      omega
    · exact ⟨s, by have := s.hi; omega, h⟩

theorem cls_put (c : List Int) (hl : c.length ≤ 65535) (hc : ∀ x ∈ c, 0 ≤ x ∧ x ≤ 4) : clsX ([0, 2] ++ tw (((rowsF c 0).length / 6 : Nat) : Int) ++ rowsF c 0) 0 c.length = some c := by
  obtain ⟨s, hs, h⟩ := RI.fin hl hc c.length (RS.init c) (by show c.length - 0 ≤ _; omega) (RI.init c)
  obtain ⟨h1, h2⟩ := s.done hs
  have hmi := s.hmi
  have hsm := s.hm
  have hlen : ([0, 2] ++ tw (((rowsF c 0).length / 6 : Nat) : Int) ++ rowsF c 0).length = 4 + 6 * s.m := by
    rw [List.length_append, List.length_append, tw_len, ← h1, hsm]; show 2 + 2 + _ = _; omega
  rw [← h2] at hlen ⊢
  have w0 : wd ([0, 2] ++ tw (s.m : Int) ++ rowsF c 0) 0 = 2 := wd_val _ 0 0 2 rfl rfl (by decide) (by decide)
  have w2 : wd ([0, 2] ++ tw (s.m : Int) ++ rowsF c 0) 2 = (s.m : Int) := by
    rw [List.append_assoc]; exact wd_tw _ _ _ (by omega) _ rfl
  have hdr : ([0, 2] ++ tw (s.m : Int) ++ rowsF c 0).drop 4 = rowsF c 0 := rfl
  unfold clsX
  rw [if_neg (by rw [outR_iff.2 ⟨by omega, by omega, by omega⟩]; rintro (h | h | h) <;> first | omega | cases h)]
  simp only [Int.toNat_zero, List.drop_zero]
  rw [if_neg (by rw [w0]; decide), if_pos w0, w2, if_neg (by rw [outR_iff.2 ⟨by omega, by omega, by omega⟩]; decide), hdr, Int.toNat_natCast]
  unfold cls2
  rw [if_pos h.ok, Int.toNat_natCast]
  congr 1
  refine nth_extI (by rw [accC_len, List.length_replicate]) fun j hj => ?_
  rw [accC_len, List.length_replicate] at hj
  rw [h.v j hj, if_pos (by omega)]
end Go.Proofs.Ytblhmanmniglfaa
