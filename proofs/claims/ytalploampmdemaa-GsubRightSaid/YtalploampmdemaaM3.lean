/- gsub.parser.rows. -/
import Derived.Test.YtalploampmdemaaM2
set_option maxRecDepth 100000
set_option linter.unusedVariables false
namespace Go.Proofs.Ytalploampmdemaa
open Go Go.Eng Go.RowKit

def plLoop (b : List Int) (a : Int) : Nat → Nat → List Int → Option (List Int)
  | 0, _, acc => some acc
  | m + 1, i, acc => if outR b (a + 6 + 2 * (i : Int)) 2 = true then none else plLoop b a m (i + 1) (acc ++ [a + wA b (a + 6 + 2 * (i : Int))])
def rowsT (b : List Int) (a : Int) (l : List Int) (s1 : Int) : Option (List Int × List Int × Int) :=
  if outR b a 2 = true then none else if ¬ wA b a = 1 then none else if outR b (a + 4) 2 = true then none else if ¬ wA b (a + 4) = (l.length : Int) then none
  else match plLoop b a l.length 0 [] with
    | none => none
    | some ps => some (l, ps, s1)
def rowsX (b : List Int) (g a s : Int) : Option (List Int × List Int × Int) :=
  match set2 b g a (a + 2) s with
  | none => none
  | some (l, s1) => rowsT b a l s1
theorem plLoop_len {b : List Int} {a : Int} (hB : Byt b) (ha : 0 ≤ a) : ∀ (m i : Nat) (acc r : List Int), plLoop b a m i acc = some r → (∀ x ∈ acc, 0 ≤ x ∧ x ≤ a + 65535) → r.length = acc.length + m ∧ ∀ x ∈ r, 0 ≤ x ∧ x ≤ a + 65535
  | 0, _, acc, r, h, hx => by cases h; exact ⟨rfl, hx⟩
  | m + 1, i, acc, r, h, hx => by
    rw [plLoop] at h
    split at h
    · cases h
    · have hw := wA_range hB (a + 6 + 2 * (i : Int))
      obtain ⟨h1, h2⟩ := plLoop_len hB ha m (i + 1) _ r h (fun x hm => by
        rcases List.mem_append.1 hm with hm | hm
        · exact hx x hm
        · rw [List.mem_singleton] at hm; subst hm; omega)
      rw [List.length_append] at h1
      exact ⟨by rw [h1]; simp only [List.length_cons, List.length_nil]; omega, h2⟩
theorem set2_len {b : List Int} {g a wd s : Int} {r : List Int × Int} (h : set2 b g a wd s = some r) : covX b (a + wA b wd) g = some r.1 ∧ r.2 = s + (r.1.length : Int) ∧ r.2 ≤ 65536 ∧ 0 < r.1.length ∧ r.1.length ≤ 65535 := by
  unfold set2 at h
  split at h
  · cases h
  · exact setX_len h
theorem rows_len {b : List Int} {g a s : Int} (hB : Byt b) (ha : 0 ≤ a) {l ps : List Int} {s1 : Int} (h : rowsX b g a s = some (l, ps, s1)) : ps.length = l.length ∧ (∀ x ∈ ps, 0 ≤ x ∧ x ≤ a + 65535) ∧ s1 = s + l.length ∧ s1 ≤ 65536 ∧ 0 < l.length ∧ l.length ≤ 65535 := by
  unfold rowsX at h
  split at h
  · cases h
  · rename_i l0 s0 hs
    obtain ⟨_, h2, h3, h4, h5⟩ := set2_len hs
    unfold rowsT at h
    repeat (split at h; · cases h)
    rename_i ps0 hp
    cases h
    obtain ⟨h6, h7⟩ := plLoop_len hB ha _ _ _ _ hp (fun x hx => by cases hx)
    exact ⟨by rw [h6]; simp, h7, h2, h3, h4, h5⟩
structure Sl (b : List Int) (a : Int) (l : List Int) (s1 : Int) (X : Option (List Int × List Int × Int)) where
  i : Nat
  acc : List Int
  hi : i ≤ l.length
  hl : acc.length = i
  e : (match plLoop b a (l.length - i) i acc with | none => none | some ps => some (l, ps, s1)) = X
set_option maxHeartbeats 1000000 in
theorem prows_s (b : List Int) (g L a s : Int) (hB : Byt b) (hb : b.length ≤ 100000) (ha : 0 ≤ a ∧ a ≤ 1000000) (hs : 0 ≤ s ∧ s ≤ 65536) (X : Option (List Int × List Int × Int)) (hX : rowsX b g a s = X) : LCall Try.prog ⟨0, [], paC b g L s, [], []⟩ 62 [.bx 3 0, .v (.int .i64 a)]
    (fun st' r => X ≠ none ∧ st'.ch = paC b g L (X.getD ([], [], 0)).2.2 ++ [owW (X.getD ([], [], 0)).1, owZ (X.getD ([], [], 0)).2.1] ∧ r = .tup [.sl 4, .sl 5]) (fun pc' st' => X = none ∧ st'.ch = deC b ∧ pc' = wrongP) := by
  refine lcall_execP (cf := cf) cfok (fn := Try.f62) Try.func62 rfl _ _ _ (paC b g L (X.getD ([], [], 0)).2.2 ++ [owW (X.getD ([], [], 0)).1, owZ (X.getD ([], [], 0)).2.1]) (.tup [.sl 4, .sl 5]) _ (deC b) wrongP rfl rfl (by simp [svOkL, svOk]) rfl (by exact ⟨trivial, ⟨Nat.le_refl _, rfl⟩, trivial, trivial, trivial⟩) (by exact ⟨trivial, ⟨Nat.le_refl _, rfl⟩, trivial, trivial, trivial⟩) rfl rfl rfl ?_
  unfold rowsX at hX
  have e2 : IntKind.i64.wrap (a + 2) = a + 2 := i64_id _ (by omega) (by omega)
  have e4 : IntKind.i64.wrap (a + 4) = a + 4 := i64_id _ (by omega) (by omega)
  have hargs : [SV.bx 3 0, .v (.int .i64 a), .v (.int .i64 (IntKind.i64.wrap (a + 2)))] = [SV.bx 3 0, .v (.int .i64 a), .v (.int .i64 (a + 2))] := by rw [e2]
  cases hset : set2 b g a (a + 2) s with
  | none =>
    rw [hset] at hX
    refine Or.inr (lcall_subP [0, 1, 2, 3] (set_s b g L a (a + 2) s hB hb ⟨by omega, by omega⟩ ⟨by omega, by omega⟩ hs none hset) hargs rfl rfl rfl rfl rfl rfl (And.intro (And.intro rfl rfl) (And.intro rfl (And.intro (And.intro rfl rfl) (And.intro (And.intro rfl rfl) trivial)))) (fun h => absurd rfl h) (fun _ => ?_))
    exact ⟨hX.symm, rfl, [0, 1, 2, 3], rfl, rfl, rfl, And.intro trivial (And.intro rfl (And.intro trivial (And.intro trivial trivial)))⟩
  | some r =>
  obtain ⟨l, s1⟩ := r
  obtain ⟨_, hs1, hs1b, hl0, hl1⟩ := set2_len hset
  simp only at hs1 hs1b hl0 hl1
  have hs1r : 0 ≤ s1 ∧ s1 ≤ 65536 := ⟨by omega, hs1b⟩
  rw [hset] at hX
  simp only at hX
  unfold rowsT at hX
  refine Or.inr (lcall_subP [0, 1, 2, 3] (set_s b g L a (a + 2) s hB hb ⟨by omega, by omega⟩ ⟨by omega, by omega⟩ hs (some (l, s1)) hset) hargs rfl rfl rfl rfl rfl rfl (And.intro (And.intro rfl rfl) (And.intro rfl (And.intro (And.intro rfl rfl) (And.intro (And.intro rfl rfl) trivial)))) (fun _ => ?_) (fun h => by cases h))
  refine subSt_out (paC b g L s1 ++ [owW l]) [0, 1, 2, 3, 4] rfl rfl ?_
  refine Or.inr (lcall_subP [0, 1, 2, 3] (word_s b g L s1 a hB hb (i64_id _ (by omega) (by omega))) rfl rfl rfl rfl rfl rfl rfl (And.intro (And.intro rfl rfl) (And.intro rfl (And.intro (And.intro rfl rfl) (And.intro (And.intro rfl rfl) trivial)))) (fun h1 => ?_) (fun h1 => ?_))
  rotate_left
  · exact ⟨by rw [← hX, if_pos h1], rfl, [0, 1, 2, 3], rfl, rfl, rfl, And.intro trivial (And.intro rfl (And.intro trivial (And.intro trivial trivial)))⟩
  refine subSt_out (paC b g L s1 ++ [owW l]) [0, 1, 2, 3] rfl rfl ?_
  rw [if_neg (by rw [h1]; decide)] at hX
  by_cases c1 : wA b a = 1
  rotate_left
  · rw [if_pos c1] at hX
    have f1 : decide (wA b a = 1) = false := decide_eq_false c1
    refine Or.inr (Or.inr ⟨fun h => absurd (of_decide_eq_true h.1) c1, .int .i64 0, ?_⟩)
    refine Or.inr (lcall_need _ (fun h => absurd h (fun h => ?_)) (fun _ => ?_))
    · have h : (decide (wA b a = 1) && decide ((0 : Int) = (l.length : Int))) = true := h
      rw [f1, Bool.false_and] at h
      cases h
    · exact ⟨hX.symm, rfl, [0, 1, 2, 3], rfl, rfl, rfl, And.intro trivial (And.intro rfl (And.intro trivial (And.intro trivial trivial)))⟩
  rw [if_neg (fun h => h c1)] at hX
  have t1 : decide (wA b a = 1) = true := decide_eq_true c1
  refine Or.inr (Or.inl ⟨And.intro t1 trivial, ?_⟩)
  refine Or.inr (lcall_subP [0, 1, 2, 3] (word_s b g L s1 (a + 4) hB hb e4) (congrArg (fun z : Int => [SV.bx 3 0, .v (.int .i64 z)]) e4) rfl rfl rfl rfl rfl rfl (And.intro (And.intro rfl rfl) (And.intro rfl (And.intro (And.intro rfl rfl) (And.intro (And.intro rfl rfl) trivial)))) (fun h2 => ?_) (fun h2 => ?_))
  rotate_left
  · exact ⟨by rw [← hX, if_pos h2], rfl, [0, 1, 2, 3], rfl, rfl, rfl, And.intro trivial (And.intro rfl (And.intro trivial (And.intro trivial trivial)))⟩
  refine subSt_out (paC b g L s1 ++ [owW l]) [0, 1, 2, 3] rfl rfl ?_
  rw [if_neg (by rw [h2]; decide)] at hX
  refine Or.inr (lcall_need _ (fun c2 => ?_) (fun c2 => ?_))
  rotate_left
  · have c2 : (decide (wA b a = 1) && decide (wA b (a + 4) = (l.length : Int))) = false := c2
    rw [t1, Bool.true_and] at c2
    exact ⟨by rw [← hX, if_pos (of_decide_eq_false c2)], rfl, [0, 1, 2, 3], rfl, rfl, rfl, And.intro trivial (And.intro rfl (And.intro trivial (And.intro trivial trivial)))⟩
  have c2 : (decide (wA b a = 1) && decide (wA b (a + 4) = (l.length : Int))) = true := c2
  rw [t1, Bool.true_and] at c2
  rw [if_neg (fun h => h (of_decide_eq_true c2))] at hX
  refine ⟨Sl b a l s1 X, fun q => ⟨48, [⟨0, [], .bx 3 0⟩, ⟨1, [], .v (.int .i64 a)⟩, ⟨6, [], .sl 4⟩, ⟨7, [], .sl 5⟩, ⟨29, [], .v (.int .i64 (l.length : Nat))⟩, ⟨30, [], .v (.int .i64 (q.i : Nat))⟩], paC b g L s1 ++ [owW l, owZ q.acc], [], dropL nats 6⟩, fun q => l.length - q.i, ⟨[0, 1, 2, 3, 4, 1000], ⟨0, [], by omega, rfl, by rw [Nat.sub_zero]; exact hX⟩, ?_⟩, fun q => ?_⟩
  · exact And.intro (And.intro rfl (And.intro rfl (And.intro rfl (And.intro rfl (And.intro rfl (And.intro rfl trivial)))))) (And.intro (And.intro rfl rfl) (And.intro rfl (And.intro (And.intro rfl rfl) (And.intro (And.intro rfl rfl) (And.intro rfl (And.intro rfl trivial))))))
  obtain ⟨i, acc, hi, hl, he⟩ := q
  refine And.intro (fun hlt => ?_) (fun hge => ?_)
  rotate_left
  · have hge : i = l.length := by
      have : ¬ ((i : Nat) : Int) < ((l.length : Nat) : Int) := of_decide_eq_false hge
      omega
    rw [hge, Nat.sub_self, plLoop] at he
    subst he
    exact ⟨by simp, [0, 1, 2, 3, 4, 5], rfl, rfl, rfl, (And.intro (And.intro rfl rfl) (And.intro rfl (And.intro (And.intro rfl rfl) (And.intro (And.intro rfl rfl) (And.intro rfl (And.intro rfl trivial)))))), rfl⟩
  have hlt : i < l.length := by
    have : ((i : Nat) : Int) < ((l.length : Nat) : Int) := of_decide_eq_true hlt
    omega
  have ei : IntKind.i64.wrap (IntKind.i64.wrap (a + 6) + IntKind.i64.wrap (2 * (i : Int))) = a + 6 + 2 * (i : Int) := by rw [i64_id (2 * (i : Int)) (by omega) (by omega), i64_id (a + 6) (by omega) (by omega), i64_id _ (by omega) (by omega)]
  have hw := wA_range hB (a + 6 + 2 * (i : Int))
  have ev : IntKind.i64.wrap (a + wA b (a + 6 + 2 * (i : Int))) = a + wA b (a + 6 + 2 * (i : Int)) := i64_id _ (by omega) (by omega)
  rw [show l.length - i = (l.length - (i + 1)) + 1 by omega, plLoop] at he
  refine Or.inr (lcall_subP [0, 1, 2, 3] (word_s b g L s1 (a + 6 + 2 * (i : Int)) hB hb (i64_id _ (by omega) (by omega))) (congrArg (fun z : Int => [SV.bx 3 0, .v (.int .i64 z)]) ei) rfl rfl rfl rfl rfl rfl (And.intro (And.intro rfl rfl) (And.intro rfl (And.intro (And.intro rfl rfl) (And.intro (And.intro rfl rfl) trivial)))) (fun h3 => ?_) (fun h3 => ?_))
  rotate_left
  · exact ⟨by rw [← he, if_pos h3], rfl, [0, 1, 2, 3], rfl, rfl, rfl, And.intro trivial (And.intro rfl (And.intro trivial (And.intro trivial trivial)))⟩
  refine subSt_out (paC b g L s1 ++ [owW l, owZ acc]) [0, 1, 2, 3] rfl rfl ?_
  rw [if_neg (by rw [h3]; decide)] at he
  refine ⟨[a + wA b (a + 6 + 2 * (i : Int))], ⟨rfl, congrArg (fun z : Int => [DV.v (.int .i64 z)]) ev, by simp⟩, by show (acc.length + 1) * 8 ≤ _; omega, ?_⟩
  exact ⟨[0, 1, 2, 3, 4, 7], ⟨i + 1, acc ++ [a + wA b (a + 6 + 2 * (i : Int))], hlt, by rw [List.length_append]; show acc.length + 1 = _; omega, he⟩, And.intro (And.intro rfl (And.intro rfl (And.intro rfl (And.intro rfl (And.intro rfl (And.intro (svI (i64_succ i (by omega))) trivial)))))) (And.intro (And.intro rfl rfl) (And.intro rfl (And.intro (And.intro rfl rfl) (And.intro (And.intro rfl rfl) (And.intro rfl (And.intro (owZe rfl) trivial)))))), by show l.length - (i + 1) < l.length - i; omega⟩
end Go.Proofs.Ytalploampmdemaa
