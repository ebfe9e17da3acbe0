/- gsub.parser.multiple, alternate. -/
import Derived.Test.YtalploampmdemaaM4
set_option maxRecDepth 100000
set_option linter.unusedVariables false
namespace Go.Proofs.Ytalploampmdemaa
open Go Go.Eng Go.RowKit

def muLoop (b : List Int) (g : Int) : List Int → List Int → Int → List Many → Option (List Many × Int)
  | G :: r, p :: ps, s, acc => (match someX b g p s with
    | none => none
    | some (t, s') => muLoop b g r ps s' (acc ++ [⟨G, t⟩]))
  | [], _, s, acc => some (acc, s)
  | _ :: _, [], s, acc => some (acc, s)
def muX (b : List Int) (g a s : Int) : Option (List Many × Int) :=
  match rowsX b g a s with
  | none => none
  | some (l, ps, s1) => muLoop b g l ps s1 []
structure Smu (b : List Int) (g : Int) (l ps : List Int) (X : Option (List Many × Int)) where
  i : Nat
  s : Int
  acc : List Many
  hi : i ≤ l.length
  hs : 0 ≤ s ∧ s ≤ 65536
  hl : acc.length = i
  e : muLoop b g (l.drop i) (ps.drop i) s acc = X
abbrev subS1 : SV := .agg [nilS, .sl 4, nilS, nilS, nilS, nilS, nilS]
set_option maxHeartbeats 2000000 in
theorem mu_s (b : List Int) (g L a s : Int) (hB : Byt b) (hb : b.length ≤ 100000) (ha : 0 ≤ a ∧ a ≤ 1000000) (hs : 0 ≤ s ∧ s ≤ 65536) (X : Option (List Many × Int)) (hX : muX b g a s = X) : LCall Try.prog ⟨0, [], paC b g L s, [], []⟩ 42 [.bx 3 0, .v (.int .i64 a)]
    (fun st' r => X ≠ none ∧ st'.ch = paC b g L (X.getD ([], 0)).2 ++ [owMa (X.getD ([], 0)).1] ∧ r = subS1) (fun pc' st' => X = none ∧ st'.ch = deC b ∧ pc' = wrongP) := by
  refine lcall_execP (cf := cf) cfok (fn := Try.f42) Try.func42 rfl _ _ _ (paC b g L (X.getD ([], 0)).2 ++ [owMa (X.getD ([], 0)).1]) subS1 _ (deC b) wrongP rfl rfl (by simp [svOkL, svOk]) rfl (by exact ⟨trivial, ⟨Nat.le_refl _, rfl⟩, trivial, trivial, trivial⟩) (by exact ⟨trivial, ⟨Nat.le_refl _, rfl⟩, trivial, trivial, trivial⟩) rfl rfl rfl ?_
  unfold muX at hX
  cases hset : rowsX b g a s with
  | none =>
    rw [hset] at hX
    refine Or.inr (lcall_subP [0, 1, 2, 3] (prows_s b g L a s hB hb ha hs none hset) rfl rfl rfl rfl rfl rfl rfl (And.intro (And.intro rfl rfl) (And.intro rfl (And.intro (And.intro rfl rfl) (And.intro (And.intro rfl rfl) trivial)))) (fun h => absurd rfl h) (fun _ => ?_))
    exact ⟨hX.symm, rfl, [0, 1, 2, 3], rfl, rfl, rfl, And.intro trivial (And.intro rfl (And.intro trivial (And.intro trivial trivial)))⟩
  | some r =>
  obtain ⟨l, ps, s1⟩ := r
  obtain ⟨hpl, hpr, hs1, hs1b, hl0, hl1⟩ := rows_len hB ha.1 hset
  have hs1r : 0 ≤ s1 ∧ s1 ≤ 65536 := ⟨by omega, hs1b⟩
  rw [hset] at hX
  simp only at hX
  refine Or.inr (lcall_subP [0, 1, 2, 3] (prows_s b g L a s hB hb ha hs (some (l, ps, s1)) hset) rfl rfl rfl rfl rfl rfl rfl (And.intro (And.intro rfl rfl) (And.intro rfl (And.intro (And.intro rfl rfl) (And.intro (And.intro rfl rfl) trivial)))) (fun _ => ?_) (fun h => by cases h))
  refine subSt_out (paC b g L s1 ++ [nil7, nil7, owW l, owZ ps]) [0, 1, 2, 3, 6, 7] rfl rfl ?_
  refine ⟨Smu b g l ps X, fun q => ⟨38, [⟨0, [], .bx 3 0⟩, ⟨4, [], .bx 4 0⟩, ⟨5, [], .bx 5 0⟩, ⟨7, [], .sl 7⟩, ⟨16, [], .sl 6⟩, ⟨17, [], .v (.int .i64 (l.length : Nat))⟩, ⟨18, [], .v (.int .i64 (q.i : Nat))⟩], paC b g L q.s ++ [nil7, .bx 43 [nilS, .sl 8, nilS, nilS, nilS, nilS, nilS], owW l, owZ ps, owMa q.acc], [], dropL nats 9⟩, fun q => l.length - q.i, ⟨[0, 1, 2, 3, 4, 5, 6, 7, 1000], ⟨0, s1, [], by omega, hs1r, rfl, hX⟩, ?_⟩, fun q => ?_⟩
  · exact And.intro (And.intro rfl (And.intro rfl (And.intro rfl (And.intro rfl (And.intro rfl (And.intro rfl (And.intro rfl trivial))))))) (And.intro (And.intro rfl rfl) (And.intro rfl (And.intro (And.intro rfl rfl) (And.intro (And.intro rfl rfl) (And.intro (And.intro rfl rfl) (And.intro (And.intro rfl rfl) (And.intro rfl (And.intro rfl (And.intro rfl trivial)))))))))
  obtain ⟨i, s, acc, hi, hs, hl, he⟩ := q
  refine And.intro (fun hlt => ?_) (fun hge => ?_)
  rotate_left
  · have hge : i = l.length := by
      have : ¬ ((i : Nat) : Int) < ((l.length : Nat) : Int) := of_decide_eq_false hge
      omega
    rw [hge, List.drop_length, muLoop] at he
    subst he
    exact ⟨by simp, [0, 1, 2, 3, 8], rfl, rfl, rfl, (And.intro (And.intro rfl rfl) (And.intro rfl (And.intro (And.intro rfl rfl) (And.intro (And.intro rfl rfl) (And.intro rfl trivial))))), rfl⟩
  have hlt : i < l.length := by
    have : ((i : Nat) : Int) < ((l.length : Nat) : Int) := of_decide_eq_true hlt
    omega
  have hlp : i < ps.length := by omega
  rw [nthD hlt, nthD hlp, muLoop] at he
  have hp : 0 ≤ nth ps i ∧ nth ps i ≤ 10000000 := by
    have := hpr (nth ps i) (by rw [nthZ hlp]; exact List.getElem_mem hlp)
    omega
  refine And.intro (show (0 : Int) ≤ (i : Int) ∧ (i : Int) < (l.length : Int) from ⟨by omega, by omega⟩) ?_
  have hbd : (0 : Int) ≤ (i : Int) ∧ (i : Int) < (ps.length : Int) := ⟨by omega, by omega⟩
  refine Or.inr (Or.inr (Or.inr ⟨[0, 1, 2, 3, 4, 5, 6, 7], [8, 9, 10], [11, 12, 13], [(3, some [3])], by kernel_rfl, ?_⟩))
  refine ⟨_, ⟨rfl, rfl⟩, fun xs => ⟨rfl, rfl⟩, ?_⟩
  refine ⟨_, ⟨rfl, rfl⟩, fun xs => ⟨rfl, rfl⟩, ?_⟩
  refine ⟨_, ⟨rfl, rfl⟩, fun xs => ⟨rfl, rfl⟩, ?_⟩
  refine ⟨_, ⟨rfl, rfl⟩, fun xs => ⟨rfl, rfl⟩, ?_⟩
  refine ⟨_, ⟨rfl, rfl⟩, fun xs => ⟨rfl, rfl⟩, ?_⟩
  refine ⟨_, ⟨rfl, rfl⟩, fun xs => ⟨rfl, rfl⟩, ?_⟩
  refine ⟨_, ⟨hbd, rfl, rfl⟩, fun xs => ⟨hbd, rfl, rfl⟩, ?_⟩
  refine ⟨_, ⟨rfl, rfl⟩, fun xs => ⟨rfl, rfl⟩, ?_⟩
  cases hsm : someX b g (nth ps i) s with
  | none =>
    rw [hsm] at he
    refine Or.inr (lcall_subP [0, 1, 2, 3] (some_s b g L (nth ps i) s hB hb hp hs none hsm) rfl rfl rfl rfl rfl rfl rfl (And.intro (And.intro rfl rfl) (And.intro rfl (And.intro (And.intro rfl rfl) (And.intro (And.intro rfl rfl) trivial)))) (fun h => absurd rfl h) (fun _ => ?_))
    exact ⟨he.symm, rfl, [0, 1, 2, 3], rfl, rfl, rfl, And.intro trivial (And.intro rfl (And.intro trivial (And.intro trivial trivial)))⟩
  | some r =>
  obtain ⟨t, s'⟩ := r
  obtain ⟨ht0, ht1, hs', hs'b⟩ := some_len hB hs.2 hsm
  simp only at ht0 ht1 hs' hs'b
  rw [hsm] at he
  simp only at he
  refine Or.inr (lcall_subP [0, 1, 2, 3] (some_s b g L (nth ps i) s hB hb hp hs (some (t, s')) hsm) rfl rfl rfl rfl rfl rfl rfl (And.intro (And.intro rfl rfl) (And.intro rfl (And.intro (And.intro rfl rfl) (And.intro (And.intro rfl rfl) trivial)))) (fun _ => ?_) (fun h => by cases h))
  refine subSt_out (paC b g L s' ++ [nil7, .bx 43 [nilS, .sl 8, nilS, nilS, nilS, nilS, nilS], owW l, owZ ps, owMa acc, owW t]) [0, 1, 2, 3, 9] rfl rfl ?_
  refine ⟨rfl, fun xs => rfl, ?_⟩
  refine ⟨rfl, fun xs => rfl, ?_⟩
  refine ⟨rfl, fun xs => rfl, ?_⟩
  refine ⟨[⟨nth l i, t⟩], ⟨rfl, rfl, by simp⟩, by show (acc.length + 1) * 32 ≤ _; omega, ?_⟩
  exact ⟨[0, 1, 2, 3, 4, 5, 6, 7, 11], ⟨i + 1, s', acc ++ [⟨nth l i, t⟩], hlt, ⟨by omega, by omega⟩, by rw [List.length_append]; show acc.length + 1 = _; omega, he⟩, And.intro (And.intro rfl (And.intro rfl (And.intro rfl (And.intro rfl (And.intro rfl (And.intro rfl (And.intro (svI (i64_succ i (by omega))) trivial))))))) (And.intro (And.intro rfl rfl) (And.intro rfl (And.intro (And.intro rfl rfl) (And.intro (And.intro rfl rfl) (And.intro (And.intro rfl rfl) (And.intro (And.intro rfl rfl) (And.intro rfl (And.intro rfl (And.intro (owMae rfl) trivial))))))))), by show l.length - (i + 1) < l.length - i; omega⟩

def alLoop (b : List Int) (g : Int) : List Int → List Int → Int → List Pair → Option (List Pair × Int)
  | G :: r, p :: ps, s, acc => (match someX b g p s with
    | none => none
    | some (t, s') => alLoop b g r ps s' (acc ++ [⟨G, nth t 0⟩]))
  | [], _, s, acc => some (acc, s)
  | _ :: _, [], s, acc => some (acc, s)
def alX (b : List Int) (g a s : Int) : Option (List Pair × Int) :=
  match rowsX b g a s with
  | none => none
  | some (l, ps, s1) => alLoop b g l ps s1 []
structure Sal (b : List Int) (g : Int) (l ps : List Int) (X : Option (List Pair × Int)) where
  i : Nat
  s : Int
  acc : List Pair
  hi : i ≤ l.length
  hs : 0 ≤ s ∧ s ≤ 65536
  hl : acc.length = i
  e : alLoop b g (l.drop i) (ps.drop i) s acc = X
abbrev subSA : SV := .agg [.sl 4, nilS, nilS, nilS, nilS, nilS, nilS]
set_option maxHeartbeats 2000000 in
theorem al_s (b : List Int) (g L a s : Int) (hB : Byt b) (hb : b.length ≤ 100000) (ha : 0 ≤ a ∧ a ≤ 1000000) (hs : 0 ≤ s ∧ s ≤ 65536) (X : Option (List Pair × Int)) (hX : alX b g a s = X) : LCall Try.prog ⟨0, [], paC b g L s, [], []⟩ 43 [.bx 3 0, .v (.int .i64 a)]
    (fun st' r => X ≠ none ∧ st'.ch = paC b g L (X.getD ([], 0)).2 ++ [owPa (X.getD ([], 0)).1] ∧ r = subSA) (fun pc' st' => X = none ∧ st'.ch = deC b ∧ pc' = wrongP) := by
  refine lcall_execP (cf := cf) cfok (fn := Try.f43) Try.func43 rfl _ _ _ (paC b g L (X.getD ([], 0)).2 ++ [owPa (X.getD ([], 0)).1]) subSA _ (deC b) wrongP rfl rfl (by simp [svOkL, svOk]) rfl (by exact ⟨trivial, ⟨Nat.le_refl _, rfl⟩, trivial, trivial, trivial⟩) (by exact ⟨trivial, ⟨Nat.le_refl _, rfl⟩, trivial, trivial, trivial⟩) rfl rfl rfl ?_
  unfold alX at hX
  cases hset : rowsX b g a s with
  | none =>
    rw [hset] at hX
    refine Or.inr (lcall_subP [0, 1, 2, 3] (prows_s b g L a s hB hb ha hs none hset) rfl rfl rfl rfl rfl rfl rfl (And.intro (And.intro rfl rfl) (And.intro rfl (And.intro (And.intro rfl rfl) (And.intro (And.intro rfl rfl) trivial)))) (fun h => absurd rfl h) (fun _ => ?_))
    exact ⟨hX.symm, rfl, [0, 1, 2, 3], rfl, rfl, rfl, And.intro trivial (And.intro rfl (And.intro trivial (And.intro trivial trivial)))⟩
  | some r =>
  obtain ⟨l, ps, s1⟩ := r
  obtain ⟨hpl, hpr, hs1, hs1b, hl0, hl1⟩ := rows_len hB ha.1 hset
  have hs1r : 0 ≤ s1 ∧ s1 ≤ 65536 := ⟨by omega, hs1b⟩
  rw [hset] at hX
  simp only at hX
  refine Or.inr (lcall_subP [0, 1, 2, 3] (prows_s b g L a s hB hb ha hs (some (l, ps, s1)) hset) rfl rfl rfl rfl rfl rfl rfl (And.intro (And.intro rfl rfl) (And.intro rfl (And.intro (And.intro rfl rfl) (And.intro (And.intro rfl rfl) trivial)))) (fun _ => ?_) (fun h => by cases h))
  refine subSt_out (paC b g L s1 ++ [nil7, nil7, owW l, owZ ps]) [0, 1, 2, 3, 6, 7] rfl rfl ?_
  refine ⟨Sal b g l ps X, fun q => ⟨40, [⟨0, [], .bx 3 0⟩, ⟨4, [], .bx 4 0⟩, ⟨5, [], .bx 5 0⟩, ⟨7, [], .sl 7⟩, ⟨16, [], .sl 6⟩, ⟨17, [], .v (.int .i64 (l.length : Nat))⟩, ⟨18, [], .v (.int .i64 (q.i : Nat))⟩], paC b g L q.s ++ [nil7, .bx 43 [.sl 8, nilS, nilS, nilS, nilS, nilS, nilS], owW l, owZ ps, owPa q.acc], [], dropL nats 9⟩, fun q => l.length - q.i, ⟨[0, 1, 2, 3, 4, 5, 6, 7, 1000], ⟨0, s1, [], by omega, hs1r, rfl, hX⟩, ?_⟩, fun q => ?_⟩
  · exact And.intro (And.intro rfl (And.intro rfl (And.intro rfl (And.intro rfl (And.intro rfl (And.intro rfl (And.intro rfl trivial))))))) (And.intro (And.intro rfl rfl) (And.intro rfl (And.intro (And.intro rfl rfl) (And.intro (And.intro rfl rfl) (And.intro (And.intro rfl rfl) (And.intro (And.intro rfl rfl) (And.intro rfl (And.intro rfl (And.intro rfl trivial)))))))))
  obtain ⟨i, s, acc, hi, hs, hl, he⟩ := q
  refine And.intro (fun hlt => ?_) (fun hge => ?_)
  rotate_left
  · have hge : i = l.length := by
      have : ¬ ((i : Nat) : Int) < ((l.length : Nat) : Int) := of_decide_eq_false hge
      omega
    rw [hge, List.drop_length, alLoop] at he
    subst he
    exact ⟨by simp, [0, 1, 2, 3, 8], rfl, rfl, rfl, (And.intro (And.intro rfl rfl) (And.intro rfl (And.intro (And.intro rfl rfl) (And.intro (And.intro rfl rfl) (And.intro rfl trivial))))), rfl⟩
  have hlt : i < l.length := by
    have : ((i : Nat) : Int) < ((l.length : Nat) : Int) := of_decide_eq_true hlt
    omega
  have hlp : i < ps.length := by omega
  rw [nthD hlt, nthD hlp, alLoop] at he
  have hp : 0 ≤ nth ps i ∧ nth ps i ≤ 10000000 := by
    have := hpr (nth ps i) (by rw [nthZ hlp]; exact List.getElem_mem hlp)
    omega
  refine And.intro (show (0 : Int) ≤ (i : Int) ∧ (i : Int) < (l.length : Int) from ⟨by omega, by omega⟩) ?_
  have hbd : (0 : Int) ≤ (i : Int) ∧ (i : Int) < (ps.length : Int) := ⟨by omega, by omega⟩
  refine Or.inr (Or.inr (Or.inr ⟨[0, 1, 2, 3, 4, 5, 6, 7], [8, 9, 10, 11, 12], [13, 14, 15], [(3, some [3])], by kernel_rfl, ?_⟩))
  refine ⟨_, ⟨rfl, rfl⟩, fun xs => ⟨rfl, rfl⟩, ?_⟩
  refine ⟨_, ⟨rfl, rfl⟩, fun xs => ⟨rfl, rfl⟩, ?_⟩
  refine ⟨_, ⟨rfl, rfl⟩, fun xs => ⟨rfl, rfl⟩, ?_⟩
  refine ⟨_, ⟨rfl, rfl⟩, fun xs => ⟨rfl, rfl⟩, ?_⟩
  refine ⟨_, ⟨rfl, rfl⟩, fun xs => ⟨rfl, rfl⟩, ?_⟩
  refine ⟨_, ⟨rfl, rfl⟩, fun xs => ⟨rfl, rfl⟩, ?_⟩
  refine ⟨_, ⟨hbd, rfl, rfl⟩, fun xs => ⟨hbd, rfl, rfl⟩, ?_⟩
  refine ⟨_, ⟨rfl, rfl⟩, fun xs => ⟨rfl, rfl⟩, ?_⟩
  cases hsm : someX b g (nth ps i) s with
  | none =>
    rw [hsm] at he
    refine Or.inr (lcall_subP [0, 1, 2, 3] (some_s b g L (nth ps i) s hB hb hp hs none hsm) rfl rfl rfl rfl rfl rfl rfl (And.intro (And.intro rfl rfl) (And.intro rfl (And.intro (And.intro rfl rfl) (And.intro (And.intro rfl rfl) trivial)))) (fun h => absurd rfl h) (fun _ => ?_))
    exact ⟨he.symm, rfl, [0, 1, 2, 3], rfl, rfl, rfl, And.intro trivial (And.intro rfl (And.intro trivial (And.intro trivial trivial)))⟩
  | some r =>
  obtain ⟨t, s'⟩ := r
  obtain ⟨ht0, ht1, hs', hs'b⟩ := some_len hB hs.2 hsm
  simp only at ht0 ht1 hs' hs'b
  rw [hsm] at he
  simp only at he
  refine Or.inr (lcall_subP [0, 1, 2, 3] (some_s b g L (nth ps i) s hB hb hp hs (some (t, s')) hsm) rfl rfl rfl rfl rfl rfl rfl (And.intro (And.intro rfl rfl) (And.intro rfl (And.intro (And.intro rfl rfl) (And.intro (And.intro rfl rfl) trivial)))) (fun _ => ?_) (fun h => by cases h))
  refine subSt_out (paC b g L s' ++ [nil7, .bx 43 [.sl 8, nilS, nilS, nilS, nilS, nilS, nilS], owW l, owZ ps, owPa acc, owW t]) [0, 1, 2, 3, 9] rfl rfl ?_
  refine ⟨rfl, fun xs => rfl, ?_⟩
  refine And.intro (show (0 : Int) ≤ 0 ∧ (0 : Int) < (t.length : Int) from ⟨by omega, by omega⟩) ?_
  refine ⟨rfl, fun xs => rfl, ?_⟩
  refine ⟨rfl, fun xs => rfl, ?_⟩
  refine ⟨rfl, fun xs => rfl, ?_⟩
  refine ⟨rfl, fun xs => rfl, ?_⟩
  refine ⟨[⟨nth l i, nth t 0⟩], ⟨rfl, rfl, by simp⟩, by show (acc.length + 1) * 4 ≤ _; omega, ?_⟩
  exact ⟨[0, 1, 2, 3, 4, 5, 6, 7, 11], ⟨i + 1, s', acc ++ [⟨nth l i, nth t 0⟩], hlt, ⟨by omega, by omega⟩, by rw [List.length_append]; show acc.length + 1 = _; omega, he⟩, And.intro (And.intro rfl (And.intro rfl (And.intro rfl (And.intro rfl (And.intro rfl (And.intro rfl (And.intro (svI (i64_succ i (by omega))) trivial))))))) (And.intro (And.intro rfl rfl) (And.intro rfl (And.intro (And.intro rfl rfl) (And.intro (And.intro rfl rfl) (And.intro (And.intro rfl rfl) (And.intro (And.intro rfl rfl) (And.intro rfl (And.intro rfl (And.intro (owPae rfl) trivial))))))))), by show l.length - (i + 1) < l.length - i; omega⟩

end Go.Proofs.Ytalploampmdemaa
