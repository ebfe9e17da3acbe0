/- gsub.parser.single. -/
import Derived.Test.YtalploampmdemaaM3
set_option maxRecDepth 100000
set_option linter.unusedVariables false
namespace Go.Proofs.Ytalploampmdemaa
open Go Go.Eng Go.RowKit

structure Pair where
  f : Int
  t : Int
  deriving Inhabited
structure Many where
  f : Int
  t : List Int
  deriving Inhabited
structure Lig where
  p : List Int
  t : Int
  deriving Inhabited
structure Rec where
  a : Int
  l : Int
  deriving Inhabited
abbrev paiE : Pair → List DV := fun x => [.v (.int .u16 x.f), .v (.int .u16 x.t)]
abbrev manE : Many → List DV := fun x => [.v (.int .u16 x.f), .sl Int inferInstance 1 hE x.t]
abbrev ligE : Lig → List DV := fun x => [.sl Int inferInstance 1 hE x.p, .v (.int .u16 x.t)]
abbrev recE : Rec → List DV := fun x => [.v (.int .i64 x.a), .v (.int .i64 x.l)]
abbrev setE : List Int → List DV := fun x => [.sl Int inferInstance 1 hE x]
abbrev owPa (xs : List Pair) : Chunk := .own 87 Pair inferInstance 2 paiE xs
abbrev owMa (xs : List Many) : Chunk := .own 89 Many inferInstance 2 manE xs
abbrev owLi (xs : List Lig) : Chunk := .own 60 Lig inferInstance 2 ligE xs
abbrev owRe (xs : List Rec) : Chunk := .own 92 Rec inferInstance 2 recE xs
abbrev owSe (xs : List (List Int)) : Chunk := .own 58 (List Int) inferInstance 1 setE xs
theorem owPae {a b : List Pair} (h : a = b) : owPa a = owPa b := by rw [h]
theorem owMae {a b : List Many} (h : a = b) : owMa a = owMa b := by rw [h]
theorem owLie {a b : List Lig} (h : a = b) : owLi a = owLi b := by rw [h]
theorem owRee {a b : List Rec} (h : a = b) : owRe a = owRe b := by rw [h]
theorem owSee {a b : List (List Int)} (h : a = b) : owSe a = owSe b := by rw [h]
theorem nthD {α : Type} [Inhabited α] {l : List α} {i : Nat} (h : i < l.length) : l.drop i = nth l i :: l.drop (i + 1) := by
  rw [List.drop_eq_getElem_cons h]
  congr 1
  unfold nth; rw [List.getD_eq_getElem?_getD, List.getElem?_eq_getElem h]; rfl
abbrev nilS : SV := .v (.slice none 0 0)
abbrev nil7 : Chunk := .bx 43 [nilS, nilS, nilS, nilS, nilS, nilS, nilS]

def toX (b : List Int) (a f n G : Int) (i : Nat) : Option Int :=
  if f = 2 then (if outR b (a + 6 + 2 * (i : Int)) 2 = true then none else some (wA b (a + 6 + 2 * (i : Int)))) else some (IntKind.u16.wrap (G + n))
def siLoop (b : List Int) (g a f n : Int) : List Int → Nat → Int → List Pair → Option (List Pair × Int)
  | [], _, s, acc => some (acc, s)
  | G :: r, i, s, acc => match toX b a f n G i with
    | none => none
    | some t => if ¬ (s + 1 ≤ 65536 ∧ t < g) then none else siLoop b g a f n r (i + 1) (s + 1) (acc ++ [⟨G, t⟩])
def singleT (b : List Int) (g a : Int) (l : List Int) (s1 : Int) : Option (List Pair × Int) :=
  if outR b a 2 = true then none else if outR b (a + 4) 2 = true then none
  else if ¬ (wA b a = 1 ∨ wA b a = 2 ∧ wA b (a + 4) = (l.length : Int)) then none
  else siLoop b g a (wA b a) (wA b (a + 4)) l 0 s1 []
def singleX (b : List Int) (g a s : Int) : Option (List Pair × Int) :=
  match set2 b g a (a + 2) s with
  | none => none
  | some (l, s1) => singleT b g a l s1
structure Ssi (b : List Int) (g a : Int) (l : List Int) (X : Option (List Pair × Int)) where
  i : Nat
  s : Int
  acc : List Pair
  hi : i ≤ l.length
  hs : 0 ≤ s ∧ s ≤ 65536
  hl : acc.length = i
  e : siLoop b g a (wA b a) (wA b (a + 4)) (l.drop i) i s acc = X
theorem u16_rng (n : Int) : 0 ≤ IntKind.u16.wrap n ∧ IntKind.u16.wrap n ≤ 65535 := by rw [IntKind.wrap_u16]; omega
theorem to_wrap (x n : Int) : IntKind.i64.wrap (IntKind.u16.wrap (IntKind.i64.wrap (IntKind.i64.wrap x + n))) = IntKind.u16.wrap (x + n) := by
  have := u16_rng (x + n)
  have e : IntKind.u16.wrap (IntKind.i64.wrap (IntKind.i64.wrap x + n)) = IntKind.u16.wrap (x + n) := by
    rw [IntKind.wrap_u16, IntKind.wrap_u16, IntKind.wrap_i64, IntKind.wrap_i64]; omega
  rw [e, i64_id _ (by omega) (by omega)]
abbrev subS0 : SV := .agg [.sl 4, nilS, nilS, nilS, nilS, nilS, nilS]
set_option maxHeartbeats 2000000 in
theorem single_s (b : List Int) (g L a s : Int) (hB : Byt b) (hb : b.length ≤ 100000) (ha : 0 ≤ a ∧ a ≤ 1000000) (hs : 0 ≤ s ∧ s ≤ 65536) (X : Option (List Pair × Int)) (hX : singleX b g a s = X) : LCall Try.prog ⟨0, [], paC b g L s, [], []⟩ 41 [.bx 3 0, .v (.int .i64 a)]
    (fun st' r => X ≠ none ∧ st'.ch = paC b g L (X.getD ([], 0)).2 ++ [owPa (X.getD ([], 0)).1] ∧ r = subS0) (fun pc' st' => X = none ∧ st'.ch = deC b ∧ pc' = wrongP) := by
  refine lcall_execP (cf := cf) cfok (fn := Try.f41) Try.func41 rfl _ _ _ (paC b g L (X.getD ([], 0)).2 ++ [owPa (X.getD ([], 0)).1]) subS0 _ (deC b) wrongP rfl rfl (by simp [svOkL, svOk]) rfl (by exact ⟨trivial, ⟨Nat.le_refl _, rfl⟩, trivial, trivial, trivial⟩) (by exact ⟨trivial, ⟨Nat.le_refl _, rfl⟩, trivial, trivial, trivial⟩) rfl rfl rfl ?_
  unfold singleX at hX
  have e2 : IntKind.i64.wrap (a + 2) = a + 2 := i64_id _ (by omega) (by omega)
  have e4 : IntKind.i64.wrap (a + 4) = a + 4 := i64_id _ (by omega) (by omega)
  have hargs : [SV.bx 3 0, .v (.int .i64 a), .v (.int .i64 (IntKind.i64.wrap (a + 2)))] = [SV.bx 3 0, .v (.int .i64 a), .v (.int .i64 (a + 2))] := by rw [e2]
  cases hset : set2 b g a (a + 2) s with
  | none =>
    rw [hset] at hX
    refine Or.inr (lcall_subP [0, 1, 2, 3] (set_s b g L a (a + 2) s hB hb ⟨by omega, by omega⟩ ⟨by omega, by omega⟩ hs none hset) hargs rfl rfl rfl rfl rfl rfl (And.intro (And.intro rfl rfl) (And.intro rfl (And.intro (And.intro rfl rfl) (And.intro (And.intro rfl rfl) trivial)))) (fun h => absurd rfl h) (fun _ => ?_))
    exact ⟨hX.symm, rfl, [0, 1, 2, 3], rfl, rfl, rfl, And.intro trivial (And.intro rfl (And.intro trivial (And.intro trivial trivial)))⟩
  | some r =>
  obtain ⟨l, s1⟩ := r
  obtain ⟨_, hs1, hs1b, hl0, hl1⟩ := set2_len hset
  simp only at hs1 hs1b hl0 hl1
  have hs1r : 0 ≤ s1 ∧ s1 ≤ 65536 := ⟨by omega, hs1b⟩
  rw [hset] at hX
  simp only at hX
  unfold singleT at hX
  refine Or.inr (lcall_subP [0, 1, 2, 3] (set_s b g L a (a + 2) s hB hb ⟨by omega, by omega⟩ ⟨by omega, by omega⟩ hs (some (l, s1)) hset) hargs rfl rfl rfl rfl rfl rfl (And.intro (And.intro rfl rfl) (And.intro rfl (And.intro (And.intro rfl rfl) (And.intro (And.intro rfl rfl) trivial)))) (fun _ => ?_) (fun h => by cases h))
  refine subSt_out (paC b g L s1 ++ [nil7, nil7, owW l]) [0, 1, 2, 3, 6] rfl rfl ?_
  refine Or.inr (lcall_subP [0, 1, 2, 3] (word_s b g L s1 a hB hb (i64_id _ (by omega) (by omega))) rfl rfl rfl rfl rfl rfl rfl (And.intro (And.intro rfl rfl) (And.intro rfl (And.intro (And.intro rfl rfl) (And.intro (And.intro rfl rfl) trivial)))) (fun h1 => ?_) (fun h1 => ?_))
  rotate_left
  · exact ⟨by rw [← hX, if_pos h1], rfl, [0, 1, 2, 3], rfl, rfl, rfl, And.intro trivial (And.intro rfl (And.intro trivial (And.intro trivial trivial)))⟩
  refine subSt_out (paC b g L s1 ++ [nil7, nil7, owW l]) [0, 1, 2, 3] rfl rfl ?_
  rw [if_neg (by rw [h1]; decide)] at hX
  refine Or.inr (lcall_subP [0, 1, 2, 3] (word_s b g L s1 (a + 4) hB hb e4) (congrArg (fun z : Int => [SV.bx 3 0, .v (.int .i64 z)]) e4) rfl rfl rfl rfl rfl rfl (And.intro (And.intro rfl rfl) (And.intro rfl (And.intro (And.intro rfl rfl) (And.intro (And.intro rfl rfl) trivial)))) (fun h2 => ?_) (fun h2 => ?_))
  rotate_left
  · exact ⟨by rw [← hX, if_pos h2], rfl, [0, 1, 2, 3], rfl, rfl, rfl, And.intro trivial (And.intro rfl (And.intro trivial (And.intro trivial trivial)))⟩
  refine subSt_out (paC b g L s1 ++ [nil7, nil7, owW l]) [0, 1, 2, 3] rfl rfl ?_
  rw [if_neg (by rw [h2]; decide)] at hX
  refine Or.inr (lcall_need _ (fun c2 => ?_) (fun c2 => ?_))
  rotate_left
  · have c2 : (decide (wA b a = 1) || (decide (wA b a = 2) && decide (wA b (a + 4) = (l.length : Int)))) = false := c2
    exact ⟨by
      rw [← hX, if_pos (fun h => ?_)]
      rw [Bool.or_eq_false_iff, Bool.and_eq_false_iff] at c2
      rcases h with h | h
      · exact absurd h (of_decide_eq_false c2.1)
      · rcases c2.2 with c | c
        · exact absurd h.1 (of_decide_eq_false c)
        · exact absurd h.2 (of_decide_eq_false c), rfl, [0, 1, 2, 3], rfl, rfl, rfl, And.intro trivial (And.intro rfl (And.intro trivial (And.intro trivial trivial)))⟩
  have c2 : (decide (wA b a = 1) || (decide (wA b a = 2) && decide (wA b (a + 4) = (l.length : Int)))) = true := c2
  rw [if_neg (fun h => h (by
    rw [Bool.or_eq_true, Bool.and_eq_true] at c2
    rcases c2 with c | c
    · exact .inl (of_decide_eq_true c)
    · exact .inr ⟨of_decide_eq_true c.1, of_decide_eq_true c.2⟩))] at hX
  refine ⟨Ssi b g a l X, fun q => ⟨71, [⟨0, [], .bx 3 0⟩, ⟨1, [], .v (.int .i64 a)⟩, ⟨4, [], .bx 4 0⟩, ⟨5, [], .bx 5 0⟩, ⟨7, [], .v (.int .i64 (wA b a))⟩, ⟨8, [], .v (.int .i64 (wA b (a + 4)))⟩, ⟨37, [], .sl 6⟩, ⟨38, [], .v (.int .i64 (l.length : Nat))⟩, ⟨39, [], .v (.int .i64 (q.i : Nat))⟩], paC b g L q.s ++ [nil7, .bx 43 [.sl 7, nilS, nilS, nilS, nilS, nilS, nilS], owW l, owPa q.acc], [], dropL nats 8⟩, fun q => l.length - q.i, ⟨[0, 1, 2, 3, 4, 5, 6, 1000], ⟨0, s1, [], by omega, hs1r, rfl, hX⟩, ?_⟩, fun q => ?_⟩
  · exact And.intro (And.intro rfl (And.intro rfl (And.intro rfl (And.intro rfl (And.intro rfl (And.intro rfl (And.intro rfl (And.intro rfl (And.intro rfl trivial))))))))) (And.intro (And.intro rfl rfl) (And.intro rfl (And.intro (And.intro rfl rfl) (And.intro (And.intro rfl rfl) (And.intro (And.intro rfl rfl) (And.intro (And.intro rfl rfl) (And.intro rfl (And.intro rfl trivial))))))))
  obtain ⟨i, s, acc, hi, hs, hl, he⟩ := q
  refine And.intro (fun hlt => ?_) (fun hge => ?_)
  rotate_left
  · have hge : i = l.length := by
      have : ¬ ((i : Nat) : Int) < ((l.length : Nat) : Int) := of_decide_eq_false hge
      omega
    rw [hge, List.drop_length, siLoop] at he
    subst he
    exact ⟨by simp, [0, 1, 2, 3, 7], rfl, rfl, rfl, (And.intro (And.intro rfl rfl) (And.intro rfl (And.intro (And.intro rfl rfl) (And.intro (And.intro rfl rfl) (And.intro rfl trivial))))), rfl⟩
  have hlt : i < l.length := by
    have : ((i : Nat) : Int) < ((l.length : Nat) : Int) := of_decide_eq_true hlt
    omega
  have ei : IntKind.i64.wrap (IntKind.i64.wrap (a + 6) + IntKind.i64.wrap (2 * (i : Int))) = a + 6 + 2 * (i : Int) := by rw [i64_id (2 * (i : Int)) (by omega) (by omega), i64_id (a + 6) (by omega) (by omega), i64_id _ (by omega) (by omega)]
  have hw := wA_range hB (a + 6 + 2 * (i : Int))
  rw [nthD hlt, siLoop] at he
  refine And.intro (show (0 : Int) ≤ (i : Int) ∧ (i : Int) < (l.length : Int) from ⟨by omega, by omega⟩) ?_
  refine And.intro (fun hf => ?_) (fun hf => ?_)
  · have hf : wA b a = 2 := of_decide_eq_true hf
    refine Or.inr (lcall_subP [0, 1, 2, 3] (word_s b g L s (a + 6 + 2 * (i : Int)) hB hb (i64_id _ (by omega) (by omega))) (congrArg (fun z : Int => [SV.bx 3 0, .v (.int .i64 z)]) ei) rfl rfl rfl rfl rfl rfl (And.intro (And.intro rfl rfl) (And.intro rfl (And.intro (And.intro rfl rfl) (And.intro (And.intro rfl rfl) trivial)))) (fun h3 => ?_) (fun h3 => ?_))
    rotate_left
    · exact ⟨by rw [← he, toX, if_pos hf, if_pos h3], rfl, [0, 1, 2, 3], rfl, rfl, rfl, And.intro trivial (And.intro rfl (And.intro trivial (And.intro trivial trivial)))⟩
    refine subSt_out (paC b g L s ++ [nil7, .bx 43 [.sl 7, nilS, nilS, nilS, nilS, nilS, nilS], owW l, owPa acc]) [0, 1, 2, 3] rfl rfl ?_
    refine Or.inr (Or.inr (Or.inr ⟨[0, 1, 2, 3, 4], [5, 6, 7], [8, 9, 10], [(3, some [3])], by kernel_rfl, ?_⟩))
    refine ⟨_, ⟨rfl, rfl⟩, fun xs => ⟨rfl, rfl⟩, ?_⟩
    refine ⟨_, ⟨rfl, rfl⟩, fun xs => ⟨rfl, rfl⟩, ?_⟩
    refine ⟨_, ⟨rfl, rfl⟩, fun xs => ⟨rfl, rfl⟩, ?_⟩
    refine ⟨_, ⟨rfl, rfl⟩, fun xs => ⟨rfl, rfl⟩, ?_⟩
    refine ⟨_, ⟨rfl, rfl⟩, fun xs => ⟨rfl, rfl⟩, ?_⟩
    refine Or.inr (lcall_subP [0, 1, 2, 3] (glyph_s b g L (wA b (a + 6 + 2 * (i : Int))) s hw hs) rfl rfl rfl rfl rfl rfl rfl (And.intro (And.intro rfl rfl) (And.intro rfl (And.intro (And.intro rfl rfl) (And.intro (And.intro rfl rfl) trivial)))) (fun h5 => ?_) (fun h5 => ?_))
    rotate_left
    · exact ⟨by rw [← he, toX, if_pos hf, if_neg (by rw [h3]; decide)]; simp only; rw [if_pos h5], rfl, [0, 1, 2, 3], rfl, rfl, rfl, And.intro trivial (And.intro rfl (And.intro trivial (And.intro trivial trivial)))⟩
    refine subSt_out (paC b g L (s + 1) ++ [nil7, .bx 43 [.sl 7, nilS, nilS, nilS, nilS, nilS, nilS], owW l, owPa acc]) [0, 1, 2, 3] rfl rfl ?_
    rw [toX, if_pos hf, if_neg (by rw [h3]; decide)] at he
    simp only at he
    rw [if_neg (fun h => h h5)] at he
    refine ⟨rfl, fun xs => rfl, ?_⟩
    refine ⟨rfl, fun xs => rfl, ?_⟩
    refine ⟨rfl, fun xs => rfl, ?_⟩
    refine ⟨[⟨nth l i, (wA b (a + 6 + 2 * (i : Int)))⟩], ⟨rfl, rfl, by simp⟩, by show (acc.length + 1) * 4 ≤ _; omega, ?_⟩
    exact ⟨[0, 1, 2, 3, 4, 5, 6, 9], ⟨i + 1, s + 1, acc ++ [⟨nth l i, (wA b (a + 6 + 2 * (i : Int)))⟩], hlt, ⟨by omega, by omega⟩, by rw [List.length_append]; show acc.length + 1 = _; omega, he⟩, And.intro (And.intro rfl (And.intro rfl (And.intro rfl (And.intro rfl (And.intro rfl (And.intro rfl (And.intro rfl (And.intro rfl (And.intro (svI (i64_succ i (by omega))) trivial))))))))) (And.intro (And.intro rfl rfl) (And.intro rfl (And.intro (And.intro rfl rfl) (And.intro (And.intro rfl rfl) (And.intro (And.intro rfl rfl) (And.intro (And.intro rfl rfl) (And.intro rfl (And.intro (owPae rfl) trivial)))))))), by show l.length - (i + 1) < l.length - i; omega⟩
  · have hf : ¬ wA b a = 2 := of_decide_eq_false hf
    have hargT : [SV.bx 3 0, .v (.int .i64 (IntKind.i64.wrap (IntKind.u16.wrap (IntKind.i64.wrap (IntKind.i64.wrap (nth l i) + wA b (a + 4))))))] = [SV.bx 3 0, .v (.int .i64 (IntKind.u16.wrap (nth l i + wA b (a + 4))))] := by rw [to_wrap]
    refine Or.inr (Or.inr (Or.inr ⟨[0, 1, 2, 3, 4], [5, 6, 7], [8, 9, 10], [(3, some [3])], by kernel_rfl, ?_⟩))
    refine ⟨_, ⟨rfl, rfl⟩, fun xs => ⟨rfl, rfl⟩, ?_⟩
    refine ⟨_, ⟨rfl, rfl⟩, fun xs => ⟨rfl, rfl⟩, ?_⟩
    refine ⟨_, ⟨rfl, rfl⟩, fun xs => ⟨rfl, rfl⟩, ?_⟩
    refine ⟨_, ⟨rfl, rfl⟩, fun xs => ⟨rfl, rfl⟩, ?_⟩
    refine ⟨_, ⟨rfl, rfl⟩, fun xs => ⟨rfl, rfl⟩, ?_⟩
    refine Or.inr (lcall_subP [0, 1, 2, 3] (glyph_s b g L (IntKind.u16.wrap (nth l i + wA b (a + 4))) s (u16_rng _) hs) hargT rfl rfl rfl rfl rfl rfl (And.intro (And.intro rfl rfl) (And.intro rfl (And.intro (And.intro rfl rfl) (And.intro (And.intro rfl rfl) trivial)))) (fun h5 => ?_) (fun h5 => ?_))
    rotate_left
    · exact ⟨by rw [← he, toX, if_neg hf]; simp only; rw [if_pos h5], rfl, [0, 1, 2, 3], rfl, rfl, rfl, And.intro trivial (And.intro rfl (And.intro trivial (And.intro trivial trivial)))⟩
    refine subSt_out (paC b g L (s + 1) ++ [nil7, .bx 43 [.sl 7, nilS, nilS, nilS, nilS, nilS, nilS], owW l, owPa acc]) [0, 1, 2, 3] rfl rfl ?_
    rw [toX, if_neg hf] at he
    simp only at he
    rw [if_neg (fun h => h h5)] at he
    refine ⟨rfl, fun xs => rfl, ?_⟩
    refine ⟨rfl, fun xs => rfl, ?_⟩
    refine ⟨rfl, fun xs => rfl, ?_⟩
    refine ⟨[⟨nth l i, (IntKind.u16.wrap (nth l i + wA b (a + 4)))⟩], ⟨rfl, rfl, by simp⟩, by show (acc.length + 1) * 4 ≤ _; omega, ?_⟩
    exact ⟨[0, 1, 2, 3, 4, 5, 6, 9], ⟨i + 1, s + 1, acc ++ [⟨nth l i, (IntKind.u16.wrap (nth l i + wA b (a + 4)))⟩], hlt, ⟨by omega, by omega⟩, by rw [List.length_append]; show acc.length + 1 = _; omega, he⟩, And.intro (And.intro rfl (And.intro rfl (And.intro rfl (And.intro rfl (And.intro rfl (And.intro rfl (And.intro rfl (And.intro rfl (And.intro (svI (i64_succ i (by omega))) trivial))))))))) (And.intro (And.intro rfl rfl) (And.intro rfl (And.intro (And.intro rfl rfl) (And.intro (And.intro rfl rfl) (And.intro (And.intro rfl rfl) (And.intro (And.intro rfl rfl) (And.intro rfl (And.intro (owPae rfl) trivial)))))))), by show l.length - (i + 1) < l.length - i; omega⟩
end Go.Proofs.Ytalploampmdemaa
