/- gpos.pairs.read. -/
import Derived.Test.YtjflgkadagkllaaGreatN3
set_option maxRecDepth 100000
set_option linter.unusedVariables false
namespace Go.Proofs.YtjflgkadagkllaaGreat
open Go Go.Eng Go.RowKit
structure Kern where
 a : Int
 b : Int
 x : Int
 deriving Inhabited
abbrev keE : Kern -> List DV := fun k => [.v (.int .u16 k.a), .v (.int .u16 k.b), .v (.int .i16 k.x)]
abbrev owK (xs : List Kern) : Chunk := .own 37 Kern inferInstance 3 keE xs
theorem owKe {a b : List Kern} (h : a = b) : owK a = owK b := by rw [h]
def kLoop (b : List Int) (g t A : Int) : Nat -> Nat -> Int -> Int -> List Kern -> Option (List Kern × Int)
 | 0, _, _, s, acc => some (acc, s)
 | m + 1, j, last, s, acc =>
  if outR b (t + 2 + 4 * (j : Int)) 2 = true then none else if outR b (t + 4 + 4 * (j : Int)) 2 = true then none
  else if ¬ (wA b (t + 2 + 4 * (j : Int)) < g /\ wA b (t + 2 + 4 * (j : Int)) > last) then none else if 65536 < s + 1 then none
  else kLoop b g t A m (j + 1) (wA b (t + 2 + 4 * (j : Int))) (s + 1) (acc ++ [⟨A, IntKind.u16.wrap (wA b (t + 2 + 4 * (j : Int))), i16 (wA b (t + 4 + 4 * (j : Int)))⟩])
def pLoop (b : List Int) (g at' : Int) : List Int -> Nat -> Int -> List Kern -> Option (List Kern × Int)
 | [], _, s, acc => some (acc, s)
 | A :: r, i, s, acc =>
  if outR b (at' + 10 + 2 * (i : Int)) 2 = true then none else if outR b (at' + wA b (at' + 10 + 2 * (i : Int))) 2 = true then none
  else if ¬ wA b (at' + wA b (at' + 10 + 2 * (i : Int))) > 0 then none
  else match kLoop b g (at' + wA b (at' + 10 + 2 * (i : Int))) A (wA b (at' + wA b (at' + 10 + 2 * (i : Int)))).toNat 0 (-1) s acc with
   | none => none
   | some (acc', s') => pLoop b g at' r (i + 1) s' acc'
def pairsX (b : List Int) (g a s : Int) : Option (List Kern × Int) :=
 if outR b (a + 2) 2 = true then none
 else match setX b g (a + wA b (a + 2)) s with
 | none => none
 | some (l, s1) =>
  if outR b a 2 = true then none else if ¬ wA b a = 1 then none
  else if outR b (a + 4) 2 = true then none else if ¬ wA b (a + 4) = 4 then none
  else if outR b (a + 6) 2 = true then none else if ¬ wA b (a + 6) = 0 then none
  else if outR b (a + 8) 2 = true then none else if ¬ wA b (a + 8) = (l.length : Int) then none
  else pLoop b g a l 0 s1 []
theorem nthD {l : List Int} {i : Nat} (h : i < l.length) : l.drop i = nth l i :: l.drop (i + 1) := by
 rw [List.drop_eq_getElem_cons h, nthZ h]
structure Sp (b : List Int) (g a : Int) (l : List Int) (X : Option (List Kern × Int)) where
 i : Nat
 s : Int
 acc : List Kern
 hi : i <= l.length
 hs : 0 <= s /\ s <= 65536
 hl : (acc.length : Int) <= s
 e : pLoop b g a (l.drop i) i s acc = X
structure Sk (b : List Int) (g a t A : Int) (k i : Nat) (l : List Int) (X : Option (List Kern × Int)) where
 j : Nat
 last : Int
 s : Int
 acc : List Kern
 hj : j <= k
 hs : 0 <= s /\ s <= 65536
 hl : (acc.length : Int) <= s
 e : (match kLoop b g t A (k - j) j last s acc with | none => none | some (acc', s') => pLoop b g a (l.drop (i + 1)) (i + 1) s' acc') = X
abbrev posSV : SV := .agg [.sl 4, .v (.slice none 0 0), .v (.slice none 0 0)]
abbrev hdC (b : List Int) (g s : Int) (l : List Int) : List Chunk := paC b g s ++ [.bx 115 [], .bx 42 [.v (.slice none 0 0), .v (.slice none 0 0), .v (.slice none 0 0)], .bx 42 [.v (.slice none 0 0), .v (.slice none 0 0), .v (.slice none 0 0)], owW l]
theorem pairs_s (b : List Int) (g a s : Int) (hB : Byt b) (hb : b.length <= 100000) (ha : 0 <= a /\ a <= 1000000) (hs : 0 <= s /\ s <= 65536) (X : Option (List Kern × Int)) (hX : pairsX b g a s = X) : LCall Tryz.prog ⟨0, [], paC b g s, [], []⟩ 112 [.v (.agg #[]), .bx 3 0, .v (.int .i64 a)]
 (fun st' r => X ≠ none /\ st'.ch = paC b g (X.getD ([], 0)).2 ++ [owK (X.getD ([], 0)).1] /\ r = posSV) (fun pc' st' => X = none /\ st'.ch = deC b /\ pc' = wrongP) := by
 refine lcall_execP (cf := cf) cfok (fn := Tryz.f112) Tryz.func112 rfl _ _ _ (paC b g (X.getD ([], 0)).2 ++ [owK (X.getD ([], 0)).1]) posSV _ (deC b) wrongP rfl rfl (by simp [svOkL, svOk]) rfl (by exact ⟨trivial, ⟨Nat.le_refl _, rfl⟩, trivial, trivial, trivial⟩) (by exact ⟨trivial, ⟨Nat.le_refl _, rfl⟩, trivial, trivial, trivial⟩) rfl rfl rfl ?_
 have ec : ∀ c : Int, 0 <= c -> c <= 200000 -> IntKind.i64.wrap (a + c) = a + c := fun c h1 h2 => i64_id _ (by omega) (by omega)
 have ea : IntKind.i64.wrap a = a := i64_id _ (by omega) (by omega)
 have hw2 := wA_range hB (a + 2)
 have eo : IntKind.i64.wrap (a + wA b (a + 2)) = a + wA b (a + 2) := ec _ (by omega) (by omega)
 refine Or.inr (lcall_subP [0, 1, 2, 3] (word_s b g s (a + 2) hB hb (ec 2 (by omega) (by omega))) (congrArg (fun z : Int => [SV.bx 3 0, .v (.int .i64 z)]) (ec 2 (by omega) (by omega))) rfl rfl rfl rfl rfl rfl (aI (aI rfl rfl) (aI rfl (aI (aI rfl rfl) (aI (aI rfl rfl) trivial)))) (fun h1 => ?_) (fun h1 => ?_))
 rotate_left
 · exact ⟨by rw [<- hX]; unfold pairsX; rw [if_pos h1], rfl, [0, 1, 2, 3], rfl, rfl, rfl, aI trivial (aI rfl (aI trivial (aI trivial trivial)))⟩
 have hX1 : X = match setX b g (a + wA b (a + 2)) s with
  | none => none
  | some (l, s1) =>
   if outR b a 2 = true then none else if ¬ wA b a = 1 then none
   else if outR b (a + 4) 2 = true then none else if ¬ wA b (a + 4) = 4 then none
   else if outR b (a + 6) 2 = true then none else if ¬ wA b (a + 6) = 0 then none
   else if outR b (a + 8) 2 = true then none else if ¬ wA b (a + 8) = (l.length : Int) then none
   else pLoop b g a l 0 s1 [] := by rw [<- hX]; unfold pairsX; rw [if_neg (by rw [h1]; decide)]
 cases hset : setX b g (a + wA b (a + 2)) s with
 | none =>
  rw [hset] at hX1
  refine Or.inr (lcall_subP [0, 1, 2, 3] (set_s b g (a + wA b (a + 2)) s hb eo hs none hset) (congrArg (fun z : Int => [SV.bx 3 0, .v (.int .i64 z)]) eo) rfl rfl rfl rfl rfl rfl (aI (aI rfl rfl) (aI rfl (aI (aI rfl rfl) (aI (aI rfl rfl) trivial)))) (fun h => absurd rfl h) (fun _ => ?_))
  exact ⟨hX1, rfl, [0, 1, 2, 3], rfl, rfl, rfl, aI trivial (aI rfl (aI trivial (aI trivial trivial)))⟩
 | some r =>
  obtain ⟨l, s1⟩ := r
  rw [hset] at hX1
  simp only at hX1
  obtain ⟨hcov, hs1, hs1b, hl0, hl1⟩ := setX_len hset
  simp only at hs1 hs1b hl0 hl1
  refine Or.inr (lcall_subP [0, 1, 2, 3] (set_s b g (a + wA b (a + 2)) s hb eo hs (some (l, s1)) hset) (congrArg (fun z : Int => [SV.bx 3 0, .v (.int .i64 z)]) eo) rfl rfl rfl rfl rfl rfl (aI (aI rfl rfl) (aI rfl (aI (aI rfl rfl) (aI (aI rfl rfl) trivial)))) (fun _ => ?_) (fun h => by cases h))
  refine subSt_out (hdC b g s1 l) [0, 1, 2, 3, 7] rfl rfl ?_
  have pa : ∀ c : Int, c = 0 \/ c = 4 \/ c = 6 \/ c = 8 -> IntKind.i64.wrap (a + c) = a + c := fun c h => ec c (by omega) (by omega)
  -- the four numbers at the head
  refine Or.inr (lcall_subP [0, 1, 2, 3] (word_s b g s1 a hB hb ea) rfl rfl rfl rfl rfl rfl rfl (aI (aI rfl rfl) (aI rfl (aI (aI rfl rfl) (aI (aI rfl rfl) trivial)))) (fun h2 => ?_) (fun h2 => ?_))
  rotate_left
  · exact ⟨by rw [hX1, if_pos h2], rfl, [0, 1, 2, 3], rfl, rfl, rfl, aI trivial (aI rfl (aI trivial (aI trivial trivial)))⟩
  rw [if_neg (by rw [h2]; decide)] at hX1
  refine subSt_out (hdC b g s1 l) [0, 1, 2, 3] rfl rfl ?_
  by_cases c1 : wA b a = 1
  rotate_left
  · rw [if_pos c1] at hX1
    have f1 : ∀ x : Bool, ¬ (decide (wA b a = 1) && x) = true := fun x h => by rw [Bool.and_eq_true] at h; exact c1 (of_decide_eq_true h.1)
    refine Or.inr (Or.inr ⟨fun h => c1 (of_decide_eq_true h.1), .int .i64 0, ?_⟩)
    refine Or.inr (Or.inr ⟨fun h => f1 _ h.1, .int .i64 0, ?_⟩)
    refine Or.inr (Or.inr ⟨fun h => f1 _ (by have := h.1; rw [Bool.and_assoc] at this; exact this), .int .i64 0, ?_⟩)
    refine Or.inr (lcall_need _ (fun h => absurd h (fun h => f1 _ (by rw [Bool.and_assoc, Bool.and_assoc] at h; exact h))) (fun _ => ?_))
    exact ⟨hX1, rfl, [0, 1, 2, 3], rfl, rfl, rfl, aI trivial (aI rfl (aI trivial (aI trivial trivial)))⟩
  rw [if_neg (fun h => h c1)] at hX1
  have t1 : decide (wA b a = 1) = true := decide_eq_true c1
  refine Or.inr (Or.inl ⟨aI t1 trivial, ?_⟩)
  refine Or.inr (lcall_subP [0, 1, 2, 3] (word_s b g s1 (a + 4) hB hb (pa 4 (by omega))) (congrArg (fun z : Int => [SV.bx 3 0, .v (.int .i64 z)]) (pa 4 (by omega))) rfl rfl rfl rfl rfl rfl (aI (aI rfl rfl) (aI rfl (aI (aI rfl rfl) (aI (aI rfl rfl) trivial)))) (fun h3 => ?_) (fun h3 => ?_))
  rotate_left
  · exact ⟨by rw [hX1, if_pos h3], rfl, [0, 1, 2, 3], rfl, rfl, rfl, aI trivial (aI rfl (aI trivial (aI trivial trivial)))⟩
  rw [if_neg (by rw [h3]; decide)] at hX1
  refine subSt_out (hdC b g s1 l) [0, 1, 2, 3] rfl rfl ?_
  by_cases c2 : wA b (a + 4) = 4
  rotate_left
  · rw [if_pos c2] at hX1
    have f2 : ∀ x : Bool, ¬ ((decide (wA b a = 1) && decide (wA b (a + 4) = 4)) && x) = true := fun x h => by rw [Bool.and_eq_true, Bool.and_eq_true] at h; exact c2 (of_decide_eq_true h.1.2)
    refine Or.inr (Or.inr ⟨fun h => f2 true (by rw [Bool.and_true]; exact h.1), .int .i64 0, ?_⟩)
    refine Or.inr (Or.inr ⟨fun h => f2 _ h.1, .int .i64 0, ?_⟩)
    refine Or.inr (lcall_need _ (fun h => absurd h (fun h => f2 _ (by rw [Bool.and_assoc] at h; exact h))) (fun _ => ?_))
    exact ⟨hX1, rfl, [0, 1, 2, 3], rfl, rfl, rfl, aI trivial (aI rfl (aI trivial (aI trivial trivial)))⟩
  rw [if_neg (fun h => h c2)] at hX1
  have t2 : (decide (wA b a = 1) && decide (wA b (a + 4) = 4)) = true := by rw [t1, decide_eq_true c2]; rfl
  refine Or.inr (Or.inl ⟨aI t2 trivial, ?_⟩)
  refine Or.inr (lcall_subP [0, 1, 2, 3] (word_s b g s1 (a + 6) hB hb (pa 6 (by omega))) (congrArg (fun z : Int => [SV.bx 3 0, .v (.int .i64 z)]) (pa 6 (by omega))) rfl rfl rfl rfl rfl rfl (aI (aI rfl rfl) (aI rfl (aI (aI rfl rfl) (aI (aI rfl rfl) trivial)))) (fun h4 => ?_) (fun h4 => ?_))
  rotate_left
  · exact ⟨by rw [hX1, if_pos h4], rfl, [0, 1, 2, 3], rfl, rfl, rfl, aI trivial (aI rfl (aI trivial (aI trivial trivial)))⟩
  rw [if_neg (by rw [h4]; decide)] at hX1
  refine subSt_out (hdC b g s1 l) [0, 1, 2, 3] rfl rfl ?_
  by_cases c3 : wA b (a + 6) = 0
  rotate_left
  · rw [if_pos c3] at hX1
    have f3 : ∀ x : Bool, ¬ (((decide (wA b a = 1) && decide (wA b (a + 4) = 4)) && decide (wA b (a + 6) = 0)) && x) = true := fun x h => by rw [Bool.and_eq_true, Bool.and_eq_true] at h; exact c3 (of_decide_eq_true h.1.2)
    refine Or.inr (Or.inr ⟨fun h => f3 true (by rw [Bool.and_true]; exact h.1), .int .i64 0, ?_⟩)
    refine Or.inr (lcall_need _ (fun h => absurd h (f3 _)) (fun _ => ?_))
    exact ⟨hX1, rfl, [0, 1, 2, 3], rfl, rfl, rfl, aI trivial (aI rfl (aI trivial (aI trivial trivial)))⟩
  rw [if_neg (fun h => h c3)] at hX1
  have t3 : ((decide (wA b a = 1) && decide (wA b (a + 4) = 4)) && decide (wA b (a + 6) = 0)) = true := by rw [t2, decide_eq_true c3]; rfl
  refine Or.inr (Or.inl ⟨aI t3 trivial, ?_⟩)
  refine Or.inr (lcall_subP [0, 1, 2, 3] (word_s b g s1 (a + 8) hB hb (pa 8 (by omega))) (congrArg (fun z : Int => [SV.bx 3 0, .v (.int .i64 z)]) (pa 8 (by omega))) rfl rfl rfl rfl rfl rfl (aI (aI rfl rfl) (aI rfl (aI (aI rfl rfl) (aI (aI rfl rfl) trivial)))) (fun h5 => ?_) (fun h5 => ?_))
  rotate_left
  · exact ⟨by rw [hX1, if_pos h5], rfl, [0, 1, 2, 3], rfl, rfl, rfl, aI trivial (aI rfl (aI trivial (aI trivial trivial)))⟩
  rw [if_neg (by rw [h5]; decide)] at hX1
  refine subSt_out (hdC b g s1 l) [0, 1, 2, 3] rfl rfl ?_
  refine Or.inr (lcall_need _ (fun hc4 => ?_) (fun hc4 => ?_))
  rotate_left
  · have hc4 : (((decide (wA b a = 1) && decide (wA b (a + 4) = 4)) && decide (wA b (a + 6) = 0)) && decide (wA b (a + 8) = (l.length : Int))) = false := hc4
    rw [t3, Bool.true_and] at hc4
    exact ⟨by rw [hX1, if_pos (of_decide_eq_false hc4)], rfl, [0, 1, 2, 3], rfl, rfl, rfl, aI trivial (aI rfl (aI trivial (aI trivial trivial)))⟩
  have hc4 : (((decide (wA b a = 1) && decide (wA b (a + 4) = 4)) && decide (wA b (a + 6) = 0)) && decide (wA b (a + 8) = (l.length : Int))) = true := hc4
  rw [t3, Bool.true_and] at hc4
  rw [if_neg (fun h => h (of_decide_eq_true hc4))] at hX1
  refine ⟨Sp b g a l X, fun q => ⟨123, [⟨1, [], .bx 3 0⟩, ⟨2, [], .v (.int .i64 a)⟩, ⟨6, [], .bx 4 0⟩, ⟨7, [], .bx 5 0⟩, ⟨53, [], .sl 6⟩, ⟨54, [], .v (.int .i64 (l.length : Nat))⟩, ⟨55, [], .v (.int .i64 (q.i : Nat))⟩], paC b g q.s ++ [.bx 42 [.v (.slice none 0 0), .v (.slice none 0 0), .v (.slice none 0 0)], .bx 42 [.sl 7, .v (.slice none 0 0), .v (.slice none 0 0)], owW l, owK q.acc], [], dropL nats 8⟩, fun q => l.length - q.i, ⟨[0, 1, 2, 3, 5, 6, 7, 1000], ⟨0, s1, [], by omega, ⟨by omega, hs1b⟩, by show (0 : Int) <= s1; omega, hX1.symm⟩, ?_⟩, fun q => ?_⟩
  · exact aI (aI rfl (aI rfl (aI rfl (aI rfl (aI rfl (aI rfl (aI rfl trivial))))))) (aI (aI rfl rfl) (aI rfl (aI (aI rfl rfl) (aI (aI rfl rfl) (aI (aI rfl rfl) (aI (aI rfl rfl) (aI rfl (aI rfl trivial))))))))
  obtain ⟨i, s, acc, hi, hs, hl, he⟩ := q
  refine aI (fun hlt => ?_) (fun hge => ?_)
  rotate_left
  · have hge : i = l.length := by
     have : ¬ ((i : Nat) : Int) < ((l.length : Nat) : Int) := of_decide_eq_false hge
     omega
    subst hge
    rw [List.drop_length] at he
    have he : some (acc, s) = X := he
    subst he
    exact ⟨by simp, [0, 1, 2, 3, 7], rfl, rfl, rfl, aI (aI rfl rfl) (aI rfl (aI (aI rfl rfl) (aI (aI rfl rfl) (aI rfl trivial)))), rfl⟩
  have hlt : i < l.length := by
   have : ((i : Nat) : Int) < ((l.length : Nat) : Int) := of_decide_eq_true hlt
   omega
  rw [nthD hlt] at he
  refine aI (show (0 : Int) <= (i : Int) /\ (i : Int) < (l.length : Int) from ⟨by omega, by omega⟩) ?_
  have e7 : IntKind.i64.wrap (IntKind.i64.wrap (a + 10) + IntKind.i64.wrap (2 * (i : Int))) = a + 10 + 2 * (i : Int) := by
   rw [i64_id (a + 10) (by omega) (by omega), i64_id (2 * (i : Int)) (by omega) (by omega), i64_id _ (by omega) (by omega)]
  have hw7 := wA_range hB (a + 10 + 2 * (i : Int))
  refine Or.inr (lcall_subP [0, 1, 2, 3] (word_s b g s (a + 10 + 2 * (i : Int)) hB hb (i64_id _ (by omega) (by omega))) (congrArg (fun z : Int => [SV.bx 3 0, .v (.int .i64 z)]) e7) rfl rfl rfl rfl rfl rfl (aI (aI rfl rfl) (aI rfl (aI (aI rfl rfl) (aI (aI rfl rfl) trivial)))) (fun h6 => ?_) (fun h6 => ?_))
  rotate_left
  · exact ⟨by rw [<- he]; unfold pLoop; rw [if_pos h6], rfl, [0, 1, 2, 3], rfl, rfl, rfl, aI trivial (aI rfl (aI trivial (aI trivial trivial)))⟩
  refine subSt_out (paC b g s ++ [.bx 42 [.v (.slice none 0 0), .v (.slice none 0 0), .v (.slice none 0 0)], .bx 42 [.sl 7, .v (.slice none 0 0), .v (.slice none 0 0)], owW l, owK acc]) [0, 1, 2, 3] rfl rfl ?_
  have hX2 : X = if outR b (a + wA b (a + 10 + 2 * (i : Int))) 2 = true then none
   else if ¬ wA b (a + wA b (a + 10 + 2 * (i : Int))) > 0 then none
   else match kLoop b g (a + wA b (a + 10 + 2 * (i : Int))) (nth l i) (wA b (a + wA b (a + 10 + 2 * (i : Int)))).toNat 0 (-1) s acc with
    | none => none
    | some (acc', s') => pLoop b g a (l.drop (i + 1)) (i + 1) s' acc' := by rw [<- he, pLoop, if_neg (by rw [h6]; decide)]
  obtain ⟨t, ht⟩ : ∃ t, t = a + wA b (a + 10 + 2 * (i : Int)) := ⟨_, rfl⟩
  have et : IntKind.i64.wrap (a + wA b (a + 10 + 2 * (i : Int))) = t := by rw [ht]; exact i64_id _ (by omega) (by omega)
  rw [<- ht] at hX2
  have htr : 0 <= t /\ t <= 1100000 := by omega
  have hwk := wA_range hB t
  refine Or.inr (lcall_subP [0, 1, 2, 3] (word_s b g s t hB hb (i64_id _ (by omega) (by omega))) (congrArg (fun z : Int => [SV.bx 3 0, .v (.int .i64 z)]) et) rfl rfl rfl rfl rfl rfl (aI (aI rfl rfl) (aI rfl (aI (aI rfl rfl) (aI (aI rfl rfl) trivial)))) (fun h7 => ?_) (fun h7 => ?_))
  rotate_left
  · exact ⟨by rw [hX2, if_pos h7], rfl, [0, 1, 2, 3], rfl, rfl, rfl, aI trivial (aI rfl (aI trivial (aI trivial trivial)))⟩
  refine subSt_out (paC b g s ++ [.bx 42 [.v (.slice none 0 0), .v (.slice none 0 0), .v (.slice none 0 0)], .bx 42 [.sl 7, .v (.slice none 0 0), .v (.slice none 0 0)], owW l, owK acc]) [0, 1, 2, 3] rfl rfl ?_
  rw [if_neg (by rw [h7]; decide)] at hX2
  refine Or.inr (lcall_need _ (fun h8 => ?_) (fun h8 => ?_))
  rotate_left
  · have h8 : ¬ wA b t > 0 := of_decide_eq_false h8
    exact ⟨by rw [hX2, if_pos h8], rfl, [0, 1, 2, 3], rfl, rfl, rfl, aI trivial (aI rfl (aI trivial (aI trivial trivial)))⟩
  have h8 : wA b t > 0 := of_decide_eq_true h8
  rw [if_neg (fun h => h h8)] at hX2
  obtain ⟨k, hk⟩ : ∃ k : Nat, k = (wA b t).toNat := ⟨_, rfl⟩
  have hkk : wA b t = (k : Int) := by omega
  rw [<- hk] at hX2
  refine ⟨Sk b g a t (nth l i) k i l X, fun q => ⟨123, [⟨1, [], .bx 3 0⟩, ⟨2, [], .v (.int .i64 a)⟩, ⟨6, [], .bx 4 0⟩, ⟨7, [], .bx 5 0⟩, ⟨9, [], .v (.int .i64 (i : Nat))⟩, ⟨10, [], .v (.int .u16 (nth l i))⟩, ⟨11, [], .v (.int .i64 t)⟩, ⟨13, [], .v (.int .i64 q.last)⟩, ⟨53, [], .sl 6⟩, ⟨54, [], .v (.int .i64 (l.length : Nat))⟩, ⟨55, [], .v (.int .i64 (i : Nat))⟩, ⟨75, [], .v (.int .i64 (k : Nat))⟩, ⟨76, [], .v (.int .i64 (q.j : Nat))⟩], paC b g q.s ++ [.bx 42 [.v (.slice none 0 0), .v (.slice none 0 0), .v (.slice none 0 0)], .bx 42 [.sl 7, .v (.slice none 0 0), .v (.slice none 0 0)], owW l, owK q.acc], [], dropL nats 8⟩, fun q => k - q.j, ⟨[0, 1, 2, 3, 4, 5, 6, 7], ⟨0, -1, s, acc, by omega, hs, hl, by rw [Nat.sub_zero]; exact hX2.symm⟩, ?_⟩, fun q => ?_⟩
  · exact aI (aI rfl (aI rfl (aI rfl (aI rfl (aI rfl (aI rfl (aI (svI et) (aI rfl (aI rfl (aI rfl (aI rfl (aI (svI hkk) (aI rfl trivial))))))))))))) (aI (aI rfl rfl) (aI rfl (aI (aI rfl rfl) (aI (aI rfl rfl) (aI (aI rfl rfl) (aI (aI rfl rfl) (aI rfl (aI rfl trivial))))))))
  obtain ⟨j, last, s, acc, hj, hs, hl, he2⟩ := q
  refine aI (fun hjl => ?_) (fun hjg => ?_)
  rotate_left
  · have hjg : j = k := by
     have : ¬ ((j : Nat) : Int) < ((k : Nat) : Int) := of_decide_eq_false hjg
     omega
    subst hjg
    rw [Nat.sub_self] at he2
    exact ⟨[0, 1, 2, 3, 4, 5, 6, 7], ⟨i + 1, s, acc, hlt, hs, hl, he2⟩, aI (aI rfl (aI rfl (aI rfl (aI rfl (aI rfl (aI rfl (aI (svI (i64_succ i (by omega))) trivial))))))) (aI (aI rfl rfl) (aI rfl (aI (aI rfl rfl) (aI (aI rfl rfl) (aI (aI rfl rfl) (aI (aI rfl rfl) (aI rfl (aI rfl trivial)))))))), by show l.length - (i + 1) < l.length - i; omega⟩
  have hjl : j < k := by
   have : ((j : Nat) : Int) < ((k : Nat) : Int) := of_decide_eq_true hjl
   omega
  rw [show k - j = (k - (j + 1)) + 1 by omega] at he2
  have ej : ∀ c : Int, 0 <= c -> c <= 10 -> IntKind.i64.wrap (IntKind.i64.wrap (t + c) + IntKind.i64.wrap (4 * (j : Int))) = t + c + 4 * (j : Int) := fun c h1 h2 => by
   rw [i64_id (t + c) (by omega) (by omega), i64_id (4 * (j : Int)) (by omega) (by omega), i64_id _ (by omega) (by omega)]
  refine Or.inr (lcall_subP [0, 1, 2, 3] (word_s b g s (t + 2 + 4 * (j : Int)) hB hb (i64_id _ (by omega) (by omega))) (congrArg (fun z : Int => [SV.bx 3 0, .v (.int .i64 z)]) (ej 2 (by omega) (by omega))) rfl rfl rfl rfl rfl rfl (aI (aI rfl rfl) (aI rfl (aI (aI rfl rfl) (aI (aI rfl rfl) trivial)))) (fun h9 => ?_) (fun h9 => ?_))
  rotate_left
  · exact ⟨by rw [<- he2]; unfold kLoop; rw [if_pos h9], rfl, [0, 1, 2, 3], rfl, rfl, rfl, aI trivial (aI rfl (aI trivial (aI trivial trivial)))⟩
  refine subSt_out (paC b g s ++ [.bx 42 [.v (.slice none 0 0), .v (.slice none 0 0), .v (.slice none 0 0)], .bx 42 [.sl 7, .v (.slice none 0 0), .v (.slice none 0 0)], owW l, owK acc]) [0, 1, 2, 3] rfl rfl ?_
  refine Or.inr (lcall_subP [0, 1, 2, 3] (word_s b g s (t + 4 + 4 * (j : Int)) hB hb (i64_id _ (by omega) (by omega))) (congrArg (fun z : Int => [SV.bx 3 0, .v (.int .i64 z)]) (ej 4 (by omega) (by omega))) rfl rfl rfl rfl rfl rfl (aI (aI rfl rfl) (aI rfl (aI (aI rfl rfl) (aI (aI rfl rfl) trivial)))) (fun h10 => ?_) (fun h10 => ?_))
  rotate_left
  · exact ⟨by rw [<- he2]; unfold kLoop; rw [if_neg (by rw [h9]; decide), if_pos h10], rfl, [0, 1, 2, 3], rfl, rfl, rfl, aI trivial (aI rfl (aI trivial (aI trivial trivial)))⟩
  refine subSt_out (paC b g s ++ [.bx 42 [.v (.slice none 0 0), .v (.slice none 0 0), .v (.slice none 0 0)], .bx 42 [.sl 7, .v (.slice none 0 0), .v (.slice none 0 0)], owW l, owK acc]) [0, 1, 2, 3] rfl rfl ?_
  refine Or.inr (lcall_need _ (fun h11 => ?_) (fun h11 => ?_))
  rotate_left
  · have h11 : (decide (wA b (t + 2 + 4 * (j : Int)) < g) && decide (wA b (t + 2 + 4 * (j : Int)) > last)) = false := h11
    rw [Bool.and_eq_false_iff, decide_eq_false_iff_not, decide_eq_false_iff_not] at h11
    exact ⟨by rw [<- he2]; unfold kLoop; rw [if_neg (by rw [h9]; decide), if_neg (by rw [h10]; decide), if_pos (by omega)], rfl, [0, 1, 2, 3], rfl, rfl, rfl, aI trivial (aI rfl (aI trivial (aI trivial trivial)))⟩
  have h11 : (decide (wA b (t + 2 + 4 * (j : Int)) < g) && decide (wA b (t + 2 + 4 * (j : Int)) > last)) = true := h11
  rw [Bool.and_eq_true, decide_eq_true_iff, decide_eq_true_iff] at h11
  refine Or.inr (lcall_subP [0, 1, 2, 3] (count_s b g s 1 hs ⟨by omega, by omega⟩) rfl rfl rfl rfl rfl rfl rfl (aI (aI rfl rfl) (aI rfl (aI (aI rfl rfl) (aI (aI rfl rfl) trivial)))) (fun h12 => ?_) (fun h12 => ?_))
  rotate_left
  · exact ⟨by rw [<- he2]; unfold kLoop; rw [if_neg (by rw [h9]; decide), if_neg (by rw [h10]; decide), if_neg (fun h => h h11), if_pos h12], rfl, [0, 1, 2, 3], rfl, rfl, rfl, aI trivial (aI rfl (aI trivial (aI trivial trivial)))⟩
  refine subSt_out (paC b g (s + 1) ++ [.bx 42 [.v (.slice none 0 0), .v (.slice none 0 0), .v (.slice none 0 0)], .bx 42 [.sl 7, .v (.slice none 0 0), .v (.slice none 0 0)], owW l, owK acc]) [0, 1, 2, 3] rfl rfl ?_
  refine ⟨[⟨nth l i, IntKind.u16.wrap (wA b (t + 2 + 4 * (j : Int))), i16 (wA b (t + 4 + 4 * (j : Int)))⟩], ⟨rfl, rfl, by simp⟩, by show (acc.length + 1) * 6 <= _; omega, ?_⟩
  refine ⟨[0, 1, 2, 3, 4, 5, 6, 9], ⟨j + 1, wA b (t + 2 + 4 * (j : Int)), s + 1, acc ++ [⟨nth l i, IntKind.u16.wrap (wA b (t + 2 + 4 * (j : Int))), i16 (wA b (t + 4 + 4 * (j : Int)))⟩], hjl, ⟨by omega, h12⟩, by rw [List.length_append]; show ((acc.length + 1 : Nat) : Int) <= _; omega, ?_⟩, aI (aI rfl (aI rfl (aI rfl (aI rfl (aI rfl (aI rfl (aI rfl (aI rfl (aI rfl (aI rfl (aI rfl (aI rfl (aI (svI (i64_succ j (by omega))) trivial))))))))))))) (aI (aI rfl rfl) (aI rfl (aI (aI rfl rfl) (aI (aI rfl rfl) (aI (aI rfl rfl) (aI (aI rfl rfl) (aI rfl (aI (owKe rfl) trivial)))))))), by show k - (j + 1) < k - j; omega⟩
  rw [<- he2]
  conv => rhs; unfold kLoop
  rw [if_neg (by rw [h9]; decide), if_neg (by rw [h10]; decide), if_neg (fun h => h h11), if_neg (by omega)]
end Go.Proofs.YtjflgkadagkllaaGreat
