/- gpos.marks.read. -/
import Derived.Test.YtjflgkadagkllaaGreatN4
set_option maxRecDepth 100000
set_option linter.unusedVariables false
namespace Go.Proofs.YtjflgkadagkllaaGreat
open Go Go.Eng Go.RowKit
structure Mark where
 g : Int
 c : Int
 x : Int
 y : Int
 deriving Inhabited
structure Anchor where
 has : Bool
 x : Int
 y : Int
 deriving Inhabited
structure Base where
 g : Int
 an : List Anchor
 deriving Inhabited
abbrev maE : Mark -> List DV := fun m => [.v (.int .u16 m.g), .v (.int .u16 m.c), .v (.int .i16 m.x), .v (.int .i16 m.y)]
abbrev anE : Anchor -> List DV := fun a => [.v (.bool a.has), .v (.int .i16 a.x), .v (.int .i16 a.y)]
abbrev baE : Base -> List DV := fun b => [.v (.int .u16 b.g), .sl Anchor inferInstance 3 anE b.an]
abbrev owM (xs : List Mark) : Chunk := .own 44 Mark inferInstance 4 maE xs
abbrev owA (xs : List Anchor) : Chunk := .own 46 Anchor inferInstance 3 anE xs
abbrev owB (xs : List Base) : Chunk := .own 49 Base inferInstance 2 baE xs
theorem owMe {a b : List Mark} (h : a = b) : owM a = owM b := by rw [h]
theorem owAe {a b : List Anchor} (h : a = b) : owA a = owA b := by rw [h]
theorem owBe {a b : List Base} (h : a = b) : owB a = owB b := by rw [h]
def mLoop (b : List Int) (n f : Int) : List Int -> Nat -> Int -> List Mark -> Option (List Mark × Int)
 | [], _, s, acc => some (acc, s)
 | G :: r, i, s, acc =>
  if outR b (f + 2 + 4 * (i : Int)) 2 = true then none else if ¬ wA b (f + 2 + 4 * (i : Int)) < n then none
  else if outR b (f + 4 + 4 * (i : Int)) 2 = true then none
  else match pointX b (f + wA b (f + 4 + 4 * (i : Int))) s with
   | none => none
   | some (x, y, s') => mLoop b n f r (i + 1) s' (acc ++ [⟨G, IntKind.u16.wrap (wA b (f + 2 + 4 * (i : Int))), x, y⟩])
def aAt (e : Int) (n i k : Nat) : Int := e + 2 + 2 * ((i * n + k : Nat) : Int)
def aLoop (b : List Int) (e : Int) (n i : Nat) : Nat -> Nat -> Int -> List Anchor -> Option (List Anchor × Int)
 | 0, _, s, acc => some (acc, s)
 | m + 1, k, s, acc =>
  if outR b (aAt e n i k) 2 = true then none
  else if wA b (aAt e n i k) = 0 then (if 65536 < s + 1 then none else aLoop b e n i m (k + 1) (s + 1) (acc ++ [⟨false, 0, 0⟩]))
  else match pointX b (e + wA b (aAt e n i k)) s with
   | none => none
   | some (x, y, s') => aLoop b e n i m (k + 1) s' (acc ++ [⟨true, x, y⟩])
def bLoop (b : List Int) (e : Int) (n : Nat) : List Int -> Nat -> Int -> List Base -> Option (List Base × Int)
 | [], _, s, acc => some (acc, s)
 | G :: r, i, s, acc => match aLoop b e n i n 0 s [] with
  | none => none
  | some (an, s') => bLoop b e n r (i + 1) s' (acc ++ [⟨G, an⟩])
def endX (b : List Int) (e : Int) (n : Nat) (bb : List Int) (r : Option (List Mark × Int)) : Option (List Mark × List Base × Int) :=
 match r with
 | none => none
 | some (ms, s3) => match bLoop b e n bb 0 s3 [] with
  | none => none
  | some (bs, s4) => some (ms, bs, s4)
def headX (b : List Int) (a s2 : Int) (m bb : List Int) : Option (List Mark × List Base × Int) :=
 if outR b (a + 6) 2 = true then none else if outR b (a + 8) 2 = true then none else if outR b (a + 10) 2 = true then none
 else if outR b a 2 = true then none else if ¬ (wA b a = 1 /\ wA b (a + 6) > 0) then none
 else if outR b (a + wA b (a + 8)) 2 = true then none else if ¬ wA b (a + wA b (a + 8)) = (m.length : Int) then none
 else if outR b (a + wA b (a + 10)) 2 = true then none else if ¬ wA b (a + wA b (a + 10)) = (bb.length : Int) then none
 else endX b (a + wA b (a + 10)) (wA b (a + 6)).toNat bb (mLoop b (wA b (a + 6)) (a + wA b (a + 8)) m 0 s2 [])
def marksX (b : List Int) (g a s : Int) : Option (List Mark × List Base × Int) :=
 if outR b (a + 2) 2 = true then none
 else match setX b g (a + wA b (a + 2)) s with
 | none => none
 | some (m, s1) =>
  if outR b (a + 4) 2 = true then none
  else match setX b g (a + wA b (a + 4)) s1 with
  | none => none
  | some (bb, s2) => headX b a s2 m bb
structure Sm (b : List Int) (n f e : Int) (bb : List Int) (m : List Int) (X : Option (List Mark × List Base × Int)) where
 i : Nat
 s : Int
 acc : List Mark
 hi : i <= m.length
 hs : 0 <= s /\ s <= 65536
 hl : acc.length = i
 e' : endX b e n.toNat bb (mLoop b n f (m.drop i) i s acc) = X
structure Sbb (b : List Int) (e : Int) (n : Nat) (bb : List Int) (ms : List Mark) (X : Option (List Mark × List Base × Int)) where
 i : Nat
 s : Int
 acc : List Base
 hi : i <= bb.length
 hs : 0 <= s /\ s <= 65536
 hl : acc.length = i
 e' : (match bLoop b e n (bb.drop i) i s acc with | none => none | some (bs, s4) => some (ms, bs, s4)) = X
structure Sa (b : List Int) (e : Int) (n i : Nat) (bb : List Int) (G : Int) (ms : List Mark) (acc0 : List Base) (X : Option (List Mark × List Base × Int)) where
 k : Nat
 s : Int
 acc : List Anchor
 hk : k <= n
 hs : 0 <= s /\ s <= 65536
 hl : acc.length = k
 e' : (match (match aLoop b e n i (n - k) k s acc with | none => none | some (an, s') => bLoop b e n (bb.drop (i + 1)) (i + 1) s' (acc0 ++ [⟨G, an⟩])) with | none => none | some (bs, s4) => some (ms, bs, s4)) = X
abbrev posSM : SV := .agg [.v (.slice none 0 0), .sl 4, .sl 5]
abbrev nil3 : Chunk := .bx 42 [.v (.slice none 0 0), .v (.slice none 0 0), .v (.slice none 0 0)]
theorem pointX_s {b : List Int} {a s : Int} {r : Int × Int × Int} (h : pointX b a s = some r) : r.2.2 = s + 1 /\ s + 1 <= 65536 := by
 unfold pointX at h
 split at h
 · cases h
 · split at h
   · cases h
   · split at h
     · cases h
     · split at h
       · cases h
       · split at h
         · cases h
         · cases h; exact ⟨rfl, by omega⟩
set_option maxHeartbeats 1000000 in
theorem marks_s (on : Bool) (b : List Int) (g a s : Int) (hB : Byt b) (hb : b.length <= 100000) (ha : 0 <= a /\ a <= 1000000) (hs : 0 <= s /\ s <= 65536) (X : Option (List Mark × List Base × Int)) (hX : marksX b g a s = X) : LCall Tryz.prog ⟨0, [], paC b g s, [], []⟩ 118 [.v (.agg #[.bool on]), .bx 3 0, .v (.int .i64 a)]
 (fun st' r => X ≠ none /\ st'.ch = paC b g (X.getD ([], [], 0)).2.2 ++ [owM (X.getD ([], [], 0)).1, owB (X.getD ([], [], 0)).2.1] /\ r = posSM) (fun pc' st' => X = none /\ st'.ch = deC b /\ pc' = wrongP) := by
 refine lcall_execP (cf := cf) cfok (fn := Tryz.f118) Tryz.func118 rfl _ _ _ (paC b g (X.getD ([], [], 0)).2.2 ++ [owM (X.getD ([], [], 0)).1, owB (X.getD ([], [], 0)).2.1]) posSM _ (deC b) wrongP rfl rfl (by simp [svOkL, svOk]) rfl (by exact ⟨trivial, ⟨Nat.le_refl _, rfl⟩, trivial, trivial, trivial⟩) (by exact ⟨trivial, ⟨Nat.le_refl _, rfl⟩, trivial, trivial, trivial⟩) rfl rfl rfl ?_
 have ec : ∀ c : Int, 0 <= c -> c <= 200000 -> IntKind.i64.wrap (a + c) = a + c := fun c h1 h2 => i64_id _ (by omega) (by omega)
 have ea : IntKind.i64.wrap a = a := i64_id _ (by omega) (by omega)
 have w2r := wA_range hB (a + 2)
 have w4r := wA_range hB (a + 4)
 have w6r := wA_range hB (a + 6)
 have w8r := wA_range hB (a + 8)
 have w10r := wA_range hB (a + 10)
 have eo2 : IntKind.i64.wrap (a + wA b (a + 2)) = a + wA b (a + 2) := ec _ (by omega) (by omega)
 have eo4 : IntKind.i64.wrap (a + wA b (a + 4)) = a + wA b (a + 4) := ec _ (by omega) (by omega)
 have eo8 : IntKind.i64.wrap (a + wA b (a + 8)) = a + wA b (a + 8) := ec _ (by omega) (by omega)
 have eo10 : IntKind.i64.wrap (a + wA b (a + 10)) = a + wA b (a + 10) := ec _ (by omega) (by omega)
 have k2 := ec 2 (by omega) (by omega)
 have k4 := ec 4 (by omega) (by omega)
 have k6 := ec 6 (by omega) (by omega)
 have k8 := ec 8 (by omega) (by omega)
 have k10 := ec 10 (by omega) (by omega)
 refine Or.inr (lcall_subP [0, 1, 2, 3] (word_s b g s (a + 2) hB hb k2) (congrArg (fun z : Int => [SV.bx 3 0, .v (.int .i64 z)]) k2) rfl rfl rfl rfl rfl rfl (aI (aI rfl rfl) (aI rfl (aI (aI rfl rfl) (aI (aI rfl rfl) trivial)))) (fun h1 => ?_) (fun h1 => ?_))
 rotate_left
 · exact ⟨by rw [<- hX]; unfold marksX; rw [if_pos h1], rfl, [0, 1, 2, 3], rfl, rfl, rfl, aI trivial (aI rfl (aI trivial (aI trivial trivial)))⟩
 refine subSt_out (paC b g s ++ [.bx 117 [.v (.bool on)], nil3, nil3]) [0, 1, 2, 3] rfl rfl ?_
 have hX1 : X = match setX b g (a + wA b (a + 2)) s with
  | none => none
  | some (m, s1) =>
   if outR b (a + 4) 2 = true then none
   else match setX b g (a + wA b (a + 4)) s1 with
   | none => none
   | some (bb, s2) => headX b a s2 m bb := by rw [<- hX]; unfold marksX; rw [if_neg (by rw [h1]; decide)]
 cases hset : setX b g (a + wA b (a + 2)) s with
 | none =>
  rw [hset] at hX1
  refine Or.inr (lcall_subP [0, 1, 2, 3] (set_s b g (a + wA b (a + 2)) s hb eo2 hs none hset) (congrArg (fun z : Int => [SV.bx 3 0, .v (.int .i64 z)]) eo2) rfl rfl rfl rfl rfl rfl (aI (aI rfl rfl) (aI rfl (aI (aI rfl rfl) (aI (aI rfl rfl) trivial)))) (fun h => absurd rfl h) (fun _ => ?_))
  exact ⟨hX1, rfl, [0, 1, 2, 3], rfl, rfl, rfl, aI trivial (aI rfl (aI trivial (aI trivial trivial)))⟩
 | some r =>
 obtain ⟨m, s1⟩ := r
 rw [hset] at hX1
 simp only at hX1
 obtain ⟨hcov, hs1, hs1b, hl0, hl1⟩ := setX_len hset
 simp only at hs1 hs1b hl0 hl1
 have hs1r : 0 <= s1 /\ s1 <= 65536 := ⟨by omega, hs1b⟩
 refine Or.inr (lcall_subP [0, 1, 2, 3] (set_s b g (a + wA b (a + 2)) s hb eo2 hs (some (m, s1)) hset) (congrArg (fun z : Int => [SV.bx 3 0, .v (.int .i64 z)]) eo2) rfl rfl rfl rfl rfl rfl (aI (aI rfl rfl) (aI rfl (aI (aI rfl rfl) (aI (aI rfl rfl) trivial)))) (fun _ => ?_) (fun h => by cases h))
 refine subSt_out (paC b g s1 ++ [.bx 117 [.v (.bool on)], nil3, nil3, owW m]) [0, 1, 2, 3, 7] rfl rfl ?_
 refine Or.inr (lcall_subP [0, 1, 2, 3] (word_s b g s1 (a + 4) hB hb k4) (congrArg (fun z : Int => [SV.bx 3 0, .v (.int .i64 z)]) k4) rfl rfl rfl rfl rfl rfl (aI (aI rfl rfl) (aI rfl (aI (aI rfl rfl) (aI (aI rfl rfl) trivial)))) (fun h2 => ?_) (fun h2 => ?_))
 rotate_left
 · exact ⟨by rw [hX1, if_pos h2], rfl, [0, 1, 2, 3], rfl, rfl, rfl, aI trivial (aI rfl (aI trivial (aI trivial trivial)))⟩
 refine subSt_out (paC b g s1 ++ [.bx 117 [.v (.bool on)], nil3, nil3, owW m]) [0, 1, 2, 3] rfl rfl ?_
 rw [if_neg (by rw [h2]; decide)] at hX1
 cases hset2 : setX b g (a + wA b (a + 4)) s1 with
 | none =>
  rw [hset2] at hX1
  refine Or.inr (lcall_subP [0, 1, 2, 3] (set_s b g (a + wA b (a + 4)) s1 hb eo4 hs1r none hset2) (congrArg (fun z : Int => [SV.bx 3 0, .v (.int .i64 z)]) eo4) rfl rfl rfl rfl rfl rfl (aI (aI rfl rfl) (aI rfl (aI (aI rfl rfl) (aI (aI rfl rfl) trivial)))) (fun h => absurd rfl h) (fun _ => ?_))
  exact ⟨hX1, rfl, [0, 1, 2, 3], rfl, rfl, rfl, aI trivial (aI rfl (aI trivial (aI trivial trivial)))⟩
 | some r2 =>
 obtain ⟨bb, s2⟩ := r2
 rw [hset2] at hX1
 simp only at hX1
 obtain ⟨hcov2, hs2, hs2b, hbl0, hbl1⟩ := setX_len hset2
 simp only at hs2 hs2b hbl0 hbl1
 have hs2r : 0 <= s2 /\ s2 <= 65536 := ⟨by omega, hs2b⟩
 refine Or.inr (lcall_subP [0, 1, 2, 3] (set_s b g (a + wA b (a + 4)) s1 hb eo4 hs1r (some (bb, s2)) hset2) (congrArg (fun z : Int => [SV.bx 3 0, .v (.int .i64 z)]) eo4) rfl rfl rfl rfl rfl rfl (aI (aI rfl rfl) (aI rfl (aI (aI rfl rfl) (aI (aI rfl rfl) trivial)))) (fun _ => ?_) (fun h => by cases h))
 refine subSt_out (paC b g s2 ++ [.bx 117 [.v (.bool on)], nil3, nil3, owW m, owW bb]) [0, 1, 2, 3, 8] rfl rfl ?_
 unfold headX at hX1
 refine Or.inr (lcall_subP [0, 1, 2, 3] (word_s b g s2 (a + 6) hB hb k6) (congrArg (fun z : Int => [SV.bx 3 0, .v (.int .i64 z)]) k6) rfl rfl rfl rfl rfl rfl (aI (aI rfl rfl) (aI rfl (aI (aI rfl rfl) (aI (aI rfl rfl) trivial)))) (fun h3 => ?_) (fun h3 => ?_))
 rotate_left
 · exact ⟨by rw [hX1, if_pos h3], rfl, [0, 1, 2, 3], rfl, rfl, rfl, aI trivial (aI rfl (aI trivial (aI trivial trivial)))⟩
 refine subSt_out (paC b g s2 ++ [.bx 117 [.v (.bool on)], nil3, nil3, owW m, owW bb]) [0, 1, 2, 3] rfl rfl ?_
 rw [if_neg (by rw [h3]; decide)] at hX1
 refine Or.inr (lcall_subP [0, 1, 2, 3] (word_s b g s2 (a + 8) hB hb k8) (congrArg (fun z : Int => [SV.bx 3 0, .v (.int .i64 z)]) k8) rfl rfl rfl rfl rfl rfl (aI (aI rfl rfl) (aI rfl (aI (aI rfl rfl) (aI (aI rfl rfl) trivial)))) (fun h4 => ?_) (fun h4 => ?_))
 rotate_left
 · exact ⟨by rw [hX1, if_pos h4], rfl, [0, 1, 2, 3], rfl, rfl, rfl, aI trivial (aI rfl (aI trivial (aI trivial trivial)))⟩
 refine subSt_out (paC b g s2 ++ [.bx 117 [.v (.bool on)], nil3, nil3, owW m, owW bb]) [0, 1, 2, 3] rfl rfl ?_
 rw [if_neg (by rw [h4]; decide)] at hX1
 refine Or.inr (lcall_subP [0, 1, 2, 3] (word_s b g s2 (a + 10) hB hb k10) (congrArg (fun z : Int => [SV.bx 3 0, .v (.int .i64 z)]) k10) rfl rfl rfl rfl rfl rfl (aI (aI rfl rfl) (aI rfl (aI (aI rfl rfl) (aI (aI rfl rfl) trivial)))) (fun h5 => ?_) (fun h5 => ?_))
 rotate_left
 · exact ⟨by rw [hX1, if_pos h5], rfl, [0, 1, 2, 3], rfl, rfl, rfl, aI trivial (aI rfl (aI trivial (aI trivial trivial)))⟩
 refine subSt_out (paC b g s2 ++ [.bx 117 [.v (.bool on)], nil3, nil3, owW m, owW bb]) [0, 1, 2, 3] rfl rfl ?_
 rw [if_neg (by rw [h5]; decide)] at hX1
 refine Or.inr (lcall_subP [0, 1, 2, 3] (word_s b g s2 (a) hB hb ea) rfl rfl rfl rfl rfl rfl rfl (aI (aI rfl rfl) (aI rfl (aI (aI rfl rfl) (aI (aI rfl rfl) trivial)))) (fun h6 => ?_) (fun h6 => ?_))
 rotate_left
 · exact ⟨by rw [hX1, if_pos h6], rfl, [0, 1, 2, 3], rfl, rfl, rfl, aI trivial (aI rfl (aI trivial (aI trivial trivial)))⟩
 refine subSt_out (paC b g s2 ++ [.bx 117 [.v (.bool on)], nil3, nil3, owW m, owW bb]) [0, 1, 2, 3] rfl rfl ?_
 rw [if_neg (by rw [h6]; decide)] at hX1
 by_cases c1 : wA b a = 1 /\ wA b (a + 6) > 0
 rotate_left
 · rw [if_pos c1] at hX1
   have f1 : ∀ x : Bool, ¬ ((decide (wA b a = 1) && decide (wA b (a + 6) > 0)) && x) = true := fun x h => by
    rw [Bool.and_eq_true, Bool.and_eq_true] at h
    exact c1 ⟨of_decide_eq_true h.1.1, of_decide_eq_true h.1.2⟩
   refine Or.inr (Or.inr ⟨fun h => f1 true (by rw [Bool.and_true]; exact h.1), .int .i64 0, ?_⟩)
   refine Or.inr (Or.inr ⟨fun h => f1 _ h.1, .int .i64 0, ?_⟩)
   refine Or.inr (lcall_need _ (fun h => absurd h (fun h => f1 _ (by rw [Bool.and_assoc] at h; exact h))) (fun _ => ?_))
   exact ⟨hX1, rfl, [0, 1, 2, 3], rfl, rfl, rfl, aI trivial (aI rfl (aI trivial (aI trivial trivial)))⟩
 rw [if_neg (fun h => h c1)] at hX1
 have t1 : (decide (wA b a = 1) && decide (wA b (a + 6) > 0)) = true := by rw [decide_eq_true c1.1, decide_eq_true c1.2]; rfl
 obtain ⟨f, hf⟩ : ∃ f, f = a + wA b (a + 8) := ⟨_, rfl⟩
 obtain ⟨e, he⟩ : ∃ e, e = a + wA b (a + 10) := ⟨_, rfl⟩
 obtain ⟨n, hn⟩ : ∃ n : Nat, n = (wA b (a + 6)).toNat := ⟨_, rfl⟩
 have hnn : wA b (a + 6) = (n : Int) := by omega
 rw [<- hf, <- he, <- hn] at hX1
 have ef : IntKind.i64.wrap (a + wA b (a + 8)) = f := by rw [hf]; exact eo8
 have ee : IntKind.i64.wrap (a + wA b (a + 10)) = e := by rw [he]; exact eo10
 have hfr : 0 <= f /\ f <= 1100000 := by omega
 have her : 0 <= e /\ e <= 1100000 := by omega
 refine Or.inr (Or.inl ⟨aI t1 trivial, ?_⟩)
 refine Or.inr (lcall_subP [0, 1, 2, 3] (word_s b g s2 (f) hB hb (i64_id _ (by omega) (by omega))) (congrArg (fun z : Int => [SV.bx 3 0, .v (.int .i64 z)]) ef) rfl rfl rfl rfl rfl rfl (aI (aI rfl rfl) (aI rfl (aI (aI rfl rfl) (aI (aI rfl rfl) trivial)))) (fun h7 => ?_) (fun h7 => ?_))
 rotate_left
 · exact ⟨by rw [hX1, if_pos h7], rfl, [0, 1, 2, 3], rfl, rfl, rfl, aI trivial (aI rfl (aI trivial (aI trivial trivial)))⟩
 refine subSt_out (paC b g s2 ++ [.bx 117 [.v (.bool on)], nil3, nil3, owW m, owW bb]) [0, 1, 2, 3] rfl rfl ?_
 rw [if_neg (by rw [h7]; decide)] at hX1
 by_cases c2 : wA b f = (m.length : Int)
 rotate_left
 · rw [if_pos c2] at hX1
   have f2 : ∀ x : Bool, ¬ (((decide (wA b a = 1) && decide (wA b (a + 6) > 0)) && decide (wA b f = (m.length : Int))) && x) = true := fun x h => by
    rw [Bool.and_eq_true, Bool.and_eq_true] at h
    exact c2 (of_decide_eq_true h.1.2)
   refine Or.inr (Or.inr ⟨fun h => f2 true (by rw [Bool.and_true]; exact h.1), .int .i64 0, ?_⟩)
   refine Or.inr (lcall_need _ (fun h => absurd h (f2 _)) (fun _ => ?_))
   exact ⟨hX1, rfl, [0, 1, 2, 3], rfl, rfl, rfl, aI trivial (aI rfl (aI trivial (aI trivial trivial)))⟩
 rw [if_neg (fun h => h c2)] at hX1
 have t2 : ((decide (wA b a = 1) && decide (wA b (a + 6) > 0)) && decide (wA b f = (m.length : Int))) = true := by rw [t1, decide_eq_true c2]; rfl
 refine Or.inr (Or.inl ⟨aI t2 trivial, ?_⟩)
 refine Or.inr (lcall_subP [0, 1, 2, 3] (word_s b g s2 (e) hB hb (i64_id _ (by omega) (by omega))) (congrArg (fun z : Int => [SV.bx 3 0, .v (.int .i64 z)]) ee) rfl rfl rfl rfl rfl rfl (aI (aI rfl rfl) (aI rfl (aI (aI rfl rfl) (aI (aI rfl rfl) trivial)))) (fun h8 => ?_) (fun h8 => ?_))
 rotate_left
 · exact ⟨by rw [hX1, if_pos h8], rfl, [0, 1, 2, 3], rfl, rfl, rfl, aI trivial (aI rfl (aI trivial (aI trivial trivial)))⟩
 refine subSt_out (paC b g s2 ++ [.bx 117 [.v (.bool on)], nil3, nil3, owW m, owW bb]) [0, 1, 2, 3] rfl rfl ?_
 rw [if_neg (by rw [h8]; decide)] at hX1
 refine Or.inr (lcall_need _ (fun hc4 => ?_) (fun hc4 => ?_))
 rotate_left
 · have hc4 : (((decide (wA b a = 1) && decide (wA b (a + 6) > 0)) && decide (wA b f = (m.length : Int))) && decide (wA b e = (bb.length : Int))) = false := hc4
   rw [t2, Bool.true_and] at hc4
   exact ⟨by rw [hX1, if_pos (of_decide_eq_false hc4)], rfl, [0, 1, 2, 3], rfl, rfl, rfl, aI trivial (aI rfl (aI trivial (aI trivial trivial)))⟩
 have hc4 : (((decide (wA b a = 1) && decide (wA b (a + 6) > 0)) && decide (wA b f = (m.length : Int))) && decide (wA b e = (bb.length : Int))) = true := hc4
 rw [t2, Bool.true_and] at hc4
 rw [if_neg (fun h => h (of_decide_eq_true hc4)), hnn] at hX1
 rw [show ((n : Nat) : Int) = (n : Int) from rfl] at hX1
 refine ⟨Sm b (n : Int) f e bb m X, fun q => ⟨185, [⟨1, [], .bx 3 0⟩, ⟨6, [], .bx 4 0⟩, ⟨7, [], .bx 5 0⟩, ⟨9, [], .sl 7⟩, ⟨10, [], .v (.int .i64 (n : Nat))⟩, ⟨11, [], .v (.int .i64 f)⟩, ⟨12, [], .v (.int .i64 e)⟩, ⟨82, [], .sl 6⟩, ⟨83, [], .v (.int .i64 (m.length : Nat))⟩, ⟨84, [], .v (.int .i64 (q.i : Nat))⟩], paC b g q.s ++ [nil3, .bx 42 [.v (.slice none 0 0), .sl 8, .v (.slice none 0 0)], owW m, owW bb, owM q.acc], [], dropL nats 9⟩, fun q => m.length - q.i, ⟨[0, 1, 2, 3, 5, 6, 7, 8, 1000], ⟨0, s2, [], by omega, hs2r, rfl, by rw [Int.toNat_natCast]; exact hX1.symm⟩, ?_⟩, fun q => ?_⟩
 · exact aI (aI rfl (aI rfl (aI rfl (aI rfl (aI (svI hnn) (aI (svI ef) (aI (svI ee) (aI rfl (aI rfl (aI rfl trivial)))))))))) (aI (aI rfl rfl) (aI rfl (aI (aI rfl rfl) (aI (aI rfl rfl) (aI (aI rfl rfl) (aI (aI rfl rfl) (aI rfl (aI rfl (aI rfl trivial)))))))))
 obtain ⟨i, s, acc, hi, hs, hl, he1⟩ := q
 rw [Int.toNat_natCast] at he1
 refine aI (fun hlt => ?_) (fun hge => ?_)
 · have hlt : i < m.length := by
    have : ((i : Nat) : Int) < ((m.length : Nat) : Int) := of_decide_eq_true hlt
    omega
   rw [nthD hlt] at he1
   refine aI (show (0 : Int) <= (i : Int) /\ (i : Int) < (m.length : Int) from ⟨by omega, by omega⟩) ?_
   have e9 : ∀ c : Int, 0 <= c -> c <= 10 -> IntKind.i64.wrap (IntKind.i64.wrap (f + c) + IntKind.i64.wrap (4 * (i : Int))) = f + c + 4 * (i : Int) := fun c h1 h2 => by
    rw [i64_id (f + c) (by omega) (by omega), i64_id (4 * (i : Int)) (by omega) (by omega), i64_id _ (by omega) (by omega)]
   refine Or.inr (lcall_subP [0, 1, 2, 3] (word_s b g s (f + 2 + 4 * (i : Int)) hB hb (i64_id _ (by omega) (by omega))) (congrArg (fun z : Int => [SV.bx 3 0, .v (.int .i64 z)]) (e9 2 (by omega) (by omega))) rfl rfl rfl rfl rfl rfl (aI (aI rfl rfl) (aI rfl (aI (aI rfl rfl) (aI (aI rfl rfl) trivial)))) (fun h9 => ?_) (fun h9 => ?_))
   rotate_left
   · exact ⟨by rw [<- he1, mLoop, if_pos h9]; rfl, rfl, [0, 1, 2, 3], rfl, rfl, rfl, aI trivial (aI rfl (aI trivial (aI trivial trivial)))⟩
   refine subSt_out (paC b g s ++ [nil3, .bx 42 [.v (.slice none 0 0), .sl 8, .v (.slice none 0 0)], owW m, owW bb, owM acc]) [0, 1, 2, 3] rfl rfl ?_
   refine Or.inr (lcall_need _ (fun h10 => ?_) (fun h10 => ?_))
   rotate_left
   · have h10 : ¬ wA b (f + 2 + 4 * (i : Int)) < (n : Int) := of_decide_eq_false h10
     exact ⟨by rw [<- he1, mLoop, if_neg (by rw [h9]; decide), if_pos h10]; rfl, rfl, [0, 1, 2, 3], rfl, rfl, rfl, aI trivial (aI rfl (aI trivial (aI trivial trivial)))⟩
   have h10 : wA b (f + 2 + 4 * (i : Int)) < (n : Int) := of_decide_eq_true h10
   refine Or.inr (lcall_subP [0, 1, 2, 3] (word_s b g s (f + 4 + 4 * (i : Int)) hB hb (i64_id _ (by omega) (by omega))) (congrArg (fun z : Int => [SV.bx 3 0, .v (.int .i64 z)]) (e9 4 (by omega) (by omega))) rfl rfl rfl rfl rfl rfl (aI (aI rfl rfl) (aI rfl (aI (aI rfl rfl) (aI (aI rfl rfl) trivial)))) (fun h11 => ?_) (fun h11 => ?_))
   rotate_left
   · exact ⟨by rw [<- he1, mLoop, if_neg (by rw [h9]; decide), if_neg (fun h => h h10), if_pos h11]; rfl, rfl, [0, 1, 2, 3], rfl, rfl, rfl, aI trivial (aI rfl (aI trivial (aI trivial trivial)))⟩
   refine subSt_out (paC b g s ++ [nil3, .bx 42 [.v (.slice none 0 0), .sl 8, .v (.slice none 0 0)], owW m, owW bb, owM acc]) [0, 1, 2, 3] rfl rfl ?_
   rw [mLoop, if_neg (by rw [h9]; decide), if_neg (fun h => h h10), if_neg (by rw [h11]; decide)] at he1
   have hwp := wA_range hB (f + 4 + 4 * (i : Int))
   have ep : IntKind.i64.wrap (f + wA b (f + 4 + 4 * (i : Int))) = f + wA b (f + 4 + 4 * (i : Int)) := i64_id _ (by omega) (by omega)
   cases hpt : pointX b (f + wA b (f + 4 + 4 * (i : Int))) s with
   | none =>
    rw [hpt] at he1
    refine Or.inr (lcall_subP [0, 1, 2, 3] (point_s b g (f + wA b (f + 4 + 4 * (i : Int))) s hB hb ⟨by omega, by omega⟩ hs none hpt) (congrArg (fun z : Int => [SV.bx 3 0, .v (.int .i64 z)]) ep) rfl rfl rfl rfl rfl rfl (aI (aI rfl rfl) (aI rfl (aI (aI rfl rfl) (aI (aI rfl rfl) trivial)))) (fun h => absurd rfl h) (fun _ => ?_))
    exact ⟨by rw [<- he1]; rfl, rfl, [0, 1, 2, 3], rfl, rfl, rfl, aI trivial (aI rfl (aI trivial (aI trivial trivial)))⟩
   | some r =>
    obtain ⟨x, y, s'⟩ := r
    rw [hpt] at he1
    have hps := pointX_s hpt
    simp only at hps he1
    refine Or.inr (lcall_subP [0, 1, 2, 3] (point_s b g (f + wA b (f + 4 + 4 * (i : Int))) s hB hb ⟨by omega, by omega⟩ hs (some (x, y, s')) hpt) (congrArg (fun z : Int => [SV.bx 3 0, .v (.int .i64 z)]) ep) rfl rfl rfl rfl rfl rfl (aI (aI rfl rfl) (aI rfl (aI (aI rfl rfl) (aI (aI rfl rfl) trivial)))) (fun _ => ?_) (fun h => by cases h))
    refine subSt_out (paC b g s' ++ [nil3, .bx 42 [.v (.slice none 0 0), .sl 8, .v (.slice none 0 0)], owW m, owW bb, owM acc]) [0, 1, 2, 3] rfl rfl ?_
    refine ⟨[⟨nth m i, IntKind.u16.wrap (wA b (f + 2 + 4 * (i : Int))), x, y⟩], ⟨rfl, rfl, by simp⟩, by show (acc.length + 1) * 8 <= _; omega, ?_⟩
    exact ⟨[0, 1, 2, 3, 4, 5, 6, 7, 10], ⟨i + 1, s', acc ++ [⟨nth m i, IntKind.u16.wrap (wA b (f + 2 + 4 * (i : Int))), x, y⟩], hlt, ⟨by omega, by omega⟩, by rw [List.length_append]; show acc.length + 1 = _; omega, by rw [Int.toNat_natCast]; exact he1⟩, aI (aI rfl (aI rfl (aI rfl (aI rfl (aI rfl (aI rfl (aI rfl (aI rfl (aI rfl (aI (svI (i64_succ i (by omega))) trivial)))))))))) (aI (aI rfl rfl) (aI rfl (aI (aI rfl rfl) (aI (aI rfl rfl) (aI (aI rfl rfl) (aI (aI rfl rfl) (aI rfl (aI rfl (aI (owMe rfl) trivial))))))))), by show m.length - (i + 1) < m.length - i; omega⟩
 have hge : i = m.length := by
  have : ¬ ((i : Nat) : Int) < ((m.length : Nat) : Int) := of_decide_eq_false hge
  omega
 subst hge
 rw [List.drop_length] at he1
 obtain ⟨ms, hms⟩ : ∃ ms, ms = acc := ⟨_, rfl⟩
 rw [<- hms] at he1
 have he1 : (match bLoop b e n bb 0 s [] with | none => none | some (bs, s4) => some (ms, bs, s4)) = X := he1
 refine ⟨Sbb b e n bb ms X, fun q => ⟨185, [⟨1, [], .bx 3 0⟩, ⟨6, [], .bx 4 0⟩, ⟨7, [], .bx 5 0⟩, ⟨10, [], .v (.int .i64 (n : Nat))⟩, ⟨12, [], .v (.int .i64 e)⟩, ⟨126, [], .sl 6⟩, ⟨127, [], .v (.int .i64 (bb.length : Nat))⟩, ⟨128, [], .v (.int .i64 (q.i : Nat))⟩], paC b g q.s ++ [nil3, .bx 42 [.v (.slice none 0 0), .sl 7, .sl 8], owW bb, owM ms, owB q.acc], [], dropL nats 9⟩, fun q => bb.length - q.i, ⟨[0, 1, 2, 3, 4, 5, 7, 8, 1000], ⟨0, s, [], by omega, hs, rfl, he1⟩, ?_⟩, fun q => ?_⟩
 · exact aI (aI rfl (aI rfl (aI rfl (aI rfl (aI rfl (aI rfl (aI rfl (aI rfl trivial)))))))) (aI (aI rfl rfl) (aI rfl (aI (aI rfl rfl) (aI (aI rfl rfl) (aI (aI rfl rfl) (aI (aI rfl rfl) (aI rfl (aI (owMe hms.symm) (aI rfl trivial)))))))))
 obtain ⟨i, s, acc, hi, hs, hl, he2⟩ := q
 refine aI (fun hlt => ?_) (fun hge => ?_)
 rotate_left
 · have hge : i = bb.length := by
    have : ¬ ((i : Nat) : Int) < ((bb.length : Nat) : Int) := of_decide_eq_false hge
    omega
   subst hge
   rw [List.drop_length] at he2
   have he2 : some (ms, acc, s) = X := he2
   subst he2
   exact ⟨by simp, [0, 1, 2, 3, 7, 8], rfl, rfl, rfl, (aI (aI rfl rfl) (aI rfl (aI (aI rfl rfl) (aI (aI rfl rfl) (aI rfl (aI rfl trivial)))))), rfl⟩
 have hltb : i < bb.length := by
  have : ((i : Nat) : Int) < ((bb.length : Nat) : Int) := of_decide_eq_true hlt
  omega
 rw [nthD hltb, bLoop] at he2
 refine aI (show (0 : Int) <= (i : Int) /\ (i : Int) < (bb.length : Int) from ⟨by omega, by omega⟩) ?_
 obtain ⟨acc0, hacc0⟩ : ∃ acc0, acc0 = acc := ⟨_, rfl⟩
 rw [<- hacc0] at he2
 refine ⟨Sa b e n i bb (nth bb i) ms acc0 X, fun q => ⟨185, [⟨1, [], .bx 3 0⟩, ⟨6, [], .bx 4 0⟩, ⟨7, [], .bx 5 0⟩, ⟨10, [], .v (.int .i64 (n : Nat))⟩, ⟨12, [], .v (.int .i64 e)⟩, ⟨18, [], .v (.int .i64 (i : Nat))⟩, ⟨20, [], .bx 9 0⟩, ⟨126, [], .sl 6⟩, ⟨127, [], .v (.int .i64 (bb.length : Nat))⟩, ⟨128, [], .v (.int .i64 (i : Nat))⟩, ⟨135, [], .v (.int .i64 (n : Nat))⟩, ⟨136, [], .v (.int .i64 (q.k : Nat))⟩], paC b g q.s ++ [nil3, .bx 42 [.v (.slice none 0 0), .sl 7, .sl 8], owW bb, owM ms, owB acc0, .bx 49 [.v (.int .u16 (nth bb i)), .sl 10], owA q.acc], [], dropL nats 11⟩, fun q => n - q.k, ⟨[0, 1, 2, 3, 4, 5, 6, 7, 8, 9, 1000], ⟨0, s, [], by omega, hs, rfl, by rw [Nat.sub_zero]; exact he2⟩, ?_⟩, fun q => ?_⟩
 · exact aI (aI rfl (aI rfl (aI rfl (aI rfl (aI rfl (aI rfl (aI rfl (aI rfl (aI rfl (aI rfl (aI rfl (aI rfl trivial)))))))))))) (aI (aI rfl rfl) (aI rfl (aI (aI rfl rfl) (aI (aI rfl rfl) (aI (aI rfl rfl) (aI (aI rfl rfl) (aI rfl (aI rfl (aI (owBe hacc0.symm) (aI (aI rfl rfl) (aI rfl trivial)))))))))))
 obtain ⟨k, s, acc, hk, hs, hl, he3⟩ := q
 refine aI (fun hkl => ?_) (fun hkg => ?_)
 rotate_left
 · have hkg : k = n := by
    have : ¬ ((k : Nat) : Int) < ((n : Nat) : Int) := of_decide_eq_false hkg
    omega
   rw [hkg, Nat.sub_self, aLoop] at he3
   simp only at he3
   refine ⟨[⟨nth bb i, acc⟩], ⟨rfl, rfl, by simp⟩, by show (acc0.length + 1) * 32 <= _; rw [hacc0]; omega, ?_⟩
   exact ⟨[0, 1, 2, 3, 4, 5, 6, 7, 12], ⟨i + 1, s, acc0 ++ [⟨nth bb i, acc⟩], hltb, hs, by rw [List.length_append, hacc0]; show _ + 1 = _; omega, he3⟩, aI (aI rfl (aI rfl (aI rfl (aI rfl (aI rfl (aI rfl (aI rfl (aI (svI (i64_succ i (by omega))) trivial)))))))) (aI (aI rfl rfl) (aI rfl (aI (aI rfl rfl) (aI (aI rfl rfl) (aI (aI rfl rfl) (aI (aI rfl rfl) (aI rfl (aI rfl (aI (owBe rfl) trivial))))))))), by show bb.length - (i + 1) < bb.length - i; omega⟩
 have hkl : k < n := by
  have : ((k : Nat) : Int) < ((n : Nat) : Int) := of_decide_eq_true hkl
  omega
 rw [show n - k = (n - (k + 1)) + 1 by omega, aLoop] at he3
 have hin : (i : Int) * (n : Int) <= 65535 * 65535 := Int.mul_le_mul (by omega) (by omega) (by omega) (by omega)
 have hin0 : 0 <= (i : Int) * (n : Int) := Int.mul_nonneg (by omega) (by omega)
 have eat : aAt e n i k = e + 2 + 2 * ((i : Int) * (n : Int) + (k : Int)) := by
  unfold aAt
  rw [Int.natCast_add, Int.natCast_mul]
 have e12 : IntKind.i64.wrap (IntKind.i64.wrap (e + 2) + IntKind.i64.wrap (2 * IntKind.i64.wrap (IntKind.i64.wrap ((i : Int) * (n : Int)) + (k : Int)))) = aAt e n i k := by
  rw [eat, i64_id (e + 2) (by omega) (by omega), i64_id ((i : Int) * (n : Int)) (by omega) (by omega), i64_id ((i : Int) * (n : Int) + (k : Int)) (by omega) (by omega), i64_id (2 * ((i : Int) * (n : Int) + (k : Int))) (by omega) (by omega), i64_id _ (by omega) (by omega)]
 have hatr : 0 <= aAt e n i k /\ aAt e n i k <= 10000000000 := by omega
 obtain ⟨A, hA⟩ : ∃ A, A = aAt e n i k := ⟨_, rfl⟩
 rw [<- hA] at he3 e12 hatr
 have hwA := wA_range hB A
 refine Or.inr (lcall_subP [0, 1, 2, 3] (word_s b g s (A) hB hb (i64_id _ (by omega) (by omega))) (congrArg (fun z : Int => [SV.bx 3 0, .v (.int .i64 z)]) e12) rfl rfl rfl rfl rfl rfl (aI (aI rfl rfl) (aI rfl (aI (aI rfl rfl) (aI (aI rfl rfl) trivial)))) (fun h12 => ?_) (fun h12 => ?_))
 rotate_left
 · exact ⟨by rw [<- he3, if_pos h12], rfl, [0, 1, 2, 3], rfl, rfl, rfl, aI trivial (aI rfl (aI trivial (aI trivial trivial)))⟩
 refine subSt_out (paC b g s ++ [nil3, .bx 42 [.v (.slice none 0 0), .sl 7, .sl 8], owW bb, owM ms, owB acc0, .bx 49 [.v (.int .u16 (nth bb i)), .sl 10], owA acc]) [0, 1, 2, 3] rfl rfl ?_
 rw [if_neg (by rw [h12]; decide)] at he3
 refine aI (fun h13 => ?_) (fun h13 => ?_)
 · have h13 : wA b A = 0 := of_decide_eq_true h13
   rw [if_pos h13] at he3
   refine Or.inr (lcall_subP [0, 1, 2, 3] (count_s b g s 1 hs ⟨by omega, by omega⟩) rfl rfl rfl rfl rfl rfl rfl (aI (aI rfl rfl) (aI rfl (aI (aI rfl rfl) (aI (aI rfl rfl) trivial)))) (fun h14 => ?_) (fun h14 => ?_))
   rotate_left
   · exact ⟨by rw [<- he3, if_pos h14], rfl, [0, 1, 2, 3], rfl, rfl, rfl, aI trivial (aI rfl (aI trivial (aI trivial trivial)))⟩
   refine subSt_out (paC b g (s + 1) ++ [nil3, .bx 42 [.v (.slice none 0 0), .sl 7, .sl 8], owW bb, owM ms, owB acc0, .bx 49 [.v (.int .u16 (nth bb i)), .sl 10], owA acc]) [0, 1, 2, 3] rfl rfl ?_
   rw [if_neg (by omega)] at he3
   refine ⟨[⟨false, 0, 0⟩], ⟨rfl, rfl, by simp⟩, by show (acc.length + 1) * 6 <= _; omega, ?_⟩
   exact ⟨[0, 1, 2, 3, 4, 5, 6, 7, 8, 9, 12], ⟨k + 1, s + 1, acc ++ [⟨false, 0, 0⟩], hkl, ⟨by omega, by omega⟩, by rw [List.length_append]; show acc.length + 1 = _; omega, he3⟩, aI (aI rfl (aI rfl (aI rfl (aI rfl (aI rfl (aI rfl (aI rfl (aI rfl (aI rfl (aI rfl (aI rfl (aI (svI (i64_succ k (by omega))) trivial)))))))))))) (aI (aI rfl rfl) (aI rfl (aI (aI rfl rfl) (aI (aI rfl rfl) (aI (aI rfl rfl) (aI (aI rfl rfl) (aI rfl (aI rfl (aI rfl (aI (aI rfl rfl) (aI (owAe rfl) trivial))))))))))), by show n - (k + 1) < n - k; omega⟩
 · have h13 : ¬ wA b A = 0 := of_decide_eq_false h13
   rw [if_neg h13] at he3
   have ep : IntKind.i64.wrap (e + wA b A) = e + wA b A := i64_id _ (by omega) (by omega)
   cases hpt : pointX b (e + wA b A) s with
   | none =>
    rw [hpt] at he3
    refine Or.inr (lcall_subP [0, 1, 2, 3] (point_s b g (e + wA b A) s hB hb ⟨by omega, by omega⟩ hs none hpt) (congrArg (fun z : Int => [SV.bx 3 0, .v (.int .i64 z)]) ep) rfl rfl rfl rfl rfl rfl (aI (aI rfl rfl) (aI rfl (aI (aI rfl rfl) (aI (aI rfl rfl) trivial)))) (fun h => absurd rfl h) (fun _ => ?_))
    exact ⟨by rw [<- he3], rfl, [0, 1, 2, 3], rfl, rfl, rfl, aI trivial (aI rfl (aI trivial (aI trivial trivial)))⟩
   | some r =>
    obtain ⟨x, y, s'⟩ := r
    rw [hpt] at he3
    have hps := pointX_s hpt
    simp only at hps he3
    refine Or.inr (lcall_subP [0, 1, 2, 3] (point_s b g (e + wA b A) s hB hb ⟨by omega, by omega⟩ hs (some (x, y, s')) hpt) (congrArg (fun z : Int => [SV.bx 3 0, .v (.int .i64 z)]) ep) rfl rfl rfl rfl rfl rfl (aI (aI rfl rfl) (aI rfl (aI (aI rfl rfl) (aI (aI rfl rfl) trivial)))) (fun _ => ?_) (fun h => by cases h))
    refine subSt_out (paC b g s' ++ [nil3, .bx 42 [.v (.slice none 0 0), .sl 7, .sl 8], owW bb, owM ms, owB acc0, .bx 49 [.v (.int .u16 (nth bb i)), .sl 10], owA acc]) [0, 1, 2, 3] rfl rfl ?_
    refine ⟨[⟨true, x, y⟩], ⟨rfl, rfl, by simp⟩, by show (acc.length + 1) * 6 <= _; omega, ?_⟩
    exact ⟨[0, 1, 2, 3, 4, 5, 6, 7, 8, 9, 12], ⟨k + 1, s', acc ++ [⟨true, x, y⟩], hkl, ⟨by omega, by omega⟩, by rw [List.length_append]; show acc.length + 1 = _; omega, he3⟩, aI (aI rfl (aI rfl (aI rfl (aI rfl (aI rfl (aI rfl (aI rfl (aI rfl (aI rfl (aI rfl (aI rfl (aI (svI (i64_succ k (by omega))) trivial)))))))))))) (aI (aI rfl rfl) (aI rfl (aI (aI rfl rfl) (aI (aI rfl rfl) (aI (aI rfl rfl) (aI (aI rfl rfl) (aI rfl (aI rfl (aI rfl (aI (aI rfl rfl) (aI (owAe rfl) trivial))))))))))), by show n - (k + 1) < n - k; omega⟩
end Go.Proofs.YtjflgkadagkllaaGreat
