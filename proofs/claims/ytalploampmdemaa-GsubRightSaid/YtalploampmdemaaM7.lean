/- gsub.parser.ligature. -/
import Derived.Test.YtalploampmdemaaM6
set_option maxRecDepth 100000
set_option linter.unusedVariables false
namespace Go.Proofs.Ytalploampmdemaa
open Go Go.Eng Go.RowKit

def lgI (b : List Int) (g p G : Int) : Nat → Nat → Int → List Lig → Option (List Lig × Int)
  | 0, _, s, acc => some (acc, s)
  | m + 1, k, s, acc =>
    if outR b (p + 2 + 2 * (k : Int)) 2 = true then none
    else match gAt b g (p + wA b (p + 2 + 2 * (k : Int))) s with
    | none => none
    | some x =>
      if outR b (p + wA b (p + 2 + 2 * (k : Int)) + 2) 2 = true then none
      else if ¬ wA b (p + wA b (p + 2 + 2 * (k : Int)) + 2) > 0 then none
      else if ¬ s + 1 + 1 ≤ 65536 then none
      else match rowX b g (p + wA b (p + 2 + 2 * (k : Int)) + 4) (s + 2) ((wA b (p + wA b (p + 2 + 2 * (k : Int)) + 2)).toNat - 1) with
      | none => none
      | some (l, s') => lgI b g p G m (k + 1) s' (acc ++ [⟨G :: l, x⟩])
def lgO (b : List Int) (g : Int) : List Int → List Int → Int → List Lig → Option (List Lig × Int)
  | [], _, s, acc => some (acc, s)
  | _ :: _, [], s, acc => some (acc, s)
  | G :: r, p :: ps, s, acc =>
    if outR b p 2 = true then none else if ¬ wA b p > 0 then none
    else match lgI b g p G (wA b p).toNat 0 s acc with
    | none => none
    | some (acc', s') => lgO b g r ps s' acc'
def ligX (b : List Int) (g a s : Int) : Option (List Lig × Int) :=
  match rowsX b g a s with
  | none => none
  | some (l, ps, s1) => lgO b g l ps s1 []
structure Slo (b : List Int) (g : Int) (l ps : List Int) (X : Option (List Lig × Int)) where
  i : Nat
  s : Int
  acc : List Lig
  hi : i ≤ l.length
  hs : 0 ≤ s ∧ s ≤ 65536
  hl : (acc.length : Int) ≤ s
  e : lgO b g (l.drop i) (ps.drop i) s acc = X
structure Sli (b : List Int) (g : Int) (l ps : List Int) (i n : Nat) (X : Option (List Lig × Int)) where
  k : Nat
  s : Int
  acc : List Lig
  hk : k ≤ n
  hs : 0 ≤ s ∧ s ≤ 65536
  hl : (acc.length : Int) ≤ s
  e : (match lgI b g (nth ps i) (nth l i) (n - k) k s acc with | none => none | some (acc', s') => lgO b g (l.drop (i + 1)) (ps.drop (i + 1)) s' acc') = X
abbrev subSl : SV := .agg [nilS, nilS, .sl 4, nilS, nilS, nilS, nilS]
set_option maxHeartbeats 2000000 in
theorem lig_s (b : List Int) (g L a s : Int) (hB : Byt b) (hb : b.length ≤ 100000) (ha : 0 ≤ a ∧ a ≤ 1000000) (hs : 0 ≤ s ∧ s ≤ 65536) (X : Option (List Lig × Int)) (hX : ligX b g a s = X) : LCall Try.prog ⟨0, [], paC b g L s, [], []⟩ 44 [.bx 3 0, .v (.int .i64 a)]
    (fun st' r => X ≠ none ∧ st'.ch = paC b g L (X.getD ([], 0)).2 ++ [owLi (X.getD ([], 0)).1] ∧ r = subSl) (fun pc' st' => X = none ∧ st'.ch = deC b ∧ pc' = wrongP) := by
  refine lcall_execP (cf := cf) cfok (fn := Try.f44) Try.func44 rfl _ _ _ (paC b g L (X.getD ([], 0)).2 ++ [owLi (X.getD ([], 0)).1]) subSl _ (deC b) wrongP rfl rfl (by simp [svOkL, svOk]) rfl (by exact ⟨trivial, ⟨Nat.le_refl _, rfl⟩, trivial, trivial, trivial⟩) (by exact ⟨trivial, ⟨Nat.le_refl _, rfl⟩, trivial, trivial, trivial⟩) rfl rfl rfl ?_
  unfold ligX at hX
  cases hset : rowsX b g a s with
  | none =>
    rw [hset] at hX
    refine Or.inr (lcall_subP [0, 1, 2, 3] (prows_s b g L a s hB hb ha hs none hset) rfl rfl rfl rfl rfl rfl rfl (And.intro (And.intro rfl rfl) (And.intro rfl (And.intro (And.intro rfl rfl) (And.intro (And.intro rfl rfl) trivial)))) (fun h => absurd rfl h) (fun _ => ?_))
    exact ⟨hX.symm, rfl, [0, 1, 2, 3], rfl, rfl, rfl, And.intro trivial (And.intro rfl (And.intro trivial (And.intro trivial trivial)))⟩
  | some r =>
  obtain ⟨l, ps, s1⟩ := r
  obtain ⟨hpl, hpr, hs1, hs1b, hl0, hl1⟩ := rows_len hB ha.1 hset
  have hs1r : 0 ≤ s1 ∧ s1 ≤ 65536 := ⟨by omega, hs1b⟩
  rw [hset] at hX
  simp only at hX
  refine Or.inr (lcall_subP [0, 1, 2, 3] (prows_s b g L a s hB hb ha hs (some (l, ps, s1)) hset) rfl rfl rfl rfl rfl rfl rfl (And.intro (And.intro rfl rfl) (And.intro rfl (And.intro (And.intro rfl rfl) (And.intro (And.intro rfl rfl) trivial)))) (fun _ => ?_) (fun h => by cases h))
  refine subSt_out (paC b g L s1 ++ [nil7, nil7, owW l, owZ ps]) [0, 1, 2, 3, 6, 7] rfl rfl ?_
  refine ⟨Slo b g l ps X, fun q => ⟨85, [⟨0, [], .bx 3 0⟩, ⟨4, [], .bx 4 0⟩, ⟨5, [], .bx 5 0⟩, ⟨7, [], .sl 7⟩, ⟨22, [], .sl 6⟩, ⟨23, [], .v (.int .i64 (l.length : Nat))⟩, ⟨24, [], .v (.int .i64 (q.i : Nat))⟩], paC b g L q.s ++ [nil7, .bx 43 [nilS, nilS, .sl 8, nilS, nilS, nilS, nilS], owW l, owZ ps, owLi q.acc], [], dropL nats 9⟩, fun q => l.length - q.i, ⟨[0, 1, 2, 3, 4, 5, 6, 7, 1000], ⟨0, s1, [], by omega, hs1r, hs1r.1, hX⟩, ?_⟩, fun q => ?_⟩
  · exact And.intro (And.intro rfl (And.intro rfl (And.intro rfl (And.intro rfl (And.intro rfl (And.intro rfl (And.intro rfl trivial))))))) (And.intro (And.intro rfl rfl) (And.intro rfl (And.intro (And.intro rfl rfl) (And.intro (And.intro rfl rfl) (And.intro (And.intro rfl rfl) (And.intro (And.intro rfl rfl) (And.intro rfl (And.intro rfl (And.intro rfl trivial)))))))))
  obtain ⟨i, s, acc, hi, hs, hl, he⟩ := q
  refine And.intro (fun hlt => ?_) (fun hge => ?_)
  rotate_left
  · have hge : i = l.length := by
      have : ¬ ((i : Nat) : Int) < ((l.length : Nat) : Int) := of_decide_eq_false hge
      omega
    rw [hge, List.drop_length, lgO] at he
    subst he
    exact ⟨by simp, [0, 1, 2, 3, 8], rfl, rfl, rfl, (And.intro (And.intro rfl rfl) (And.intro rfl (And.intro (And.intro rfl rfl) (And.intro (And.intro rfl rfl) (And.intro rfl trivial))))), rfl⟩
  have hlt : i < l.length := by
    have : ((i : Nat) : Int) < ((l.length : Nat) : Int) := of_decide_eq_true hlt
    omega
  have hlp : i < ps.length := by omega
  rw [nthD hlt, nthD hlp, lgO] at he
  have hp : 0 ≤ nth ps i ∧ nth ps i ≤ 1065535 := by
    have := hpr (nth ps i) (by rw [nthZ hlp]; exact List.getElem_mem hlp)
    omega
  have hw0 := wA_range hB (nth ps i)
  refine And.intro (show (0 : Int) ≤ (i : Int) ∧ (i : Int) < (l.length : Int) from ⟨by omega, by omega⟩) ?_
  refine And.intro (show (0 : Int) ≤ (i : Int) ∧ (i : Int) < (ps.length : Int) from ⟨by omega, by omega⟩) ?_
  refine Or.inr (lcall_subP [0, 1, 2, 3] (word_s b g L s (nth ps i) hB hb (i64_id _ (by omega) (by omega))) rfl rfl rfl rfl rfl rfl rfl (And.intro (And.intro rfl rfl) (And.intro rfl (And.intro (And.intro rfl rfl) (And.intro (And.intro rfl rfl) trivial)))) (fun h1 => ?_) (fun h1 => ?_))
  rotate_left
  · exact ⟨by rw [← he, if_pos h1], rfl, [0, 1, 2, 3], rfl, rfl, rfl, And.intro trivial (And.intro rfl (And.intro trivial (And.intro trivial trivial)))⟩
  refine subSt_out (paC b g L s ++ [nil7, .bx 43 [nilS, nilS, .sl 8, nilS, nilS, nilS, nilS], owW l, owZ ps, owLi acc]) [0, 1, 2, 3] rfl rfl ?_
  rw [if_neg (by rw [h1]; decide)] at he
  refine Or.inr (lcall_need _ (fun h2 => ?_) (fun h2 => ?_))
  rotate_left
  · have h2 : ¬ wA b (nth ps i) > 0 := of_decide_eq_false h2
    exact ⟨by rw [← he, if_pos h2], rfl, [0, 1, 2, 3], rfl, rfl, rfl, And.intro trivial (And.intro rfl (And.intro trivial (And.intro trivial trivial)))⟩
  have h2 : wA b (nth ps i) > 0 := of_decide_eq_true h2
  rw [if_neg (fun h => h h2)] at he
  obtain ⟨n, hn⟩ : ∃ n : Nat, n = (wA b (nth ps i)).toNat := ⟨_, rfl⟩
  have hnn : wA b (nth ps i) = (n : Int) := by omega
  rw [← hn] at he
  refine ⟨Sli b g l ps i n X, fun q => ⟨85, [⟨0, [], .bx 3 0⟩, ⟨4, [], .bx 4 0⟩, ⟨5, [], .bx 5 0⟩, ⟨7, [], .sl 7⟩, ⟨9, [], .v (.int .u16 (nth l i))⟩, ⟨10, [], .v (.int .i64 (nth ps i))⟩, ⟨22, [], .sl 6⟩, ⟨23, [], .v (.int .i64 (l.length : Nat))⟩, ⟨24, [], .v (.int .i64 (i : Nat))⟩, ⟨39, [], .v (.int .i64 (n : Int))⟩, ⟨40, [], .v (.int .i64 (q.k : Nat))⟩], paC b g L q.s ++ [nil7, .bx 43 [nilS, nilS, .sl 8, nilS, nilS, nilS, nilS], owW l, owZ ps, owLi q.acc], [], dropL nats 9⟩, fun q => n - q.k, ⟨[0, 1, 2, 3, 4, 5, 6, 7, 8], ⟨0, s, acc, by omega, hs, hl, by rw [Nat.sub_zero]; exact he⟩, ?_⟩, fun q => ?_⟩
  · exact And.intro (And.intro rfl (And.intro rfl (And.intro rfl (And.intro rfl (And.intro rfl (And.intro rfl (And.intro rfl (And.intro rfl (And.intro rfl (And.intro (svI hnn) (And.intro rfl trivial))))))))))) (And.intro (And.intro rfl rfl) (And.intro rfl (And.intro (And.intro rfl rfl) (And.intro (And.intro rfl rfl) (And.intro (And.intro rfl rfl) (And.intro (And.intro rfl rfl) (And.intro rfl (And.intro rfl (And.intro rfl trivial)))))))))
  obtain ⟨k, s, acc, hk, hs, hl, he⟩ := q
  refine And.intro (fun hkl => ?_) (fun hkg => ?_)
  rotate_left
  · have hkg : k = n := by
      have : ¬ ((k : Nat) : Int) < ((n : Nat) : Int) := of_decide_eq_false hkg
      omega
    rw [hkg, Nat.sub_self, lgI] at he
    exact ⟨[0, 1, 2, 3, 4, 5, 6, 7, 8], ⟨i + 1, s, acc, hlt, hs, hl, he⟩, And.intro (And.intro rfl (And.intro rfl (And.intro rfl (And.intro rfl (And.intro rfl (And.intro rfl (And.intro (svI (i64_succ i (by omega))) trivial))))))) (And.intro (And.intro rfl rfl) (And.intro rfl (And.intro (And.intro rfl rfl) (And.intro (And.intro rfl rfl) (And.intro (And.intro rfl rfl) (And.intro (And.intro rfl rfl) (And.intro rfl (And.intro rfl (And.intro rfl trivial))))))))), by show l.length - (i + 1) < l.length - i; omega⟩
  have hkl : k < n := by
    have : ((k : Nat) : Int) < ((n : Nat) : Int) := of_decide_eq_true hkl
    omega
  have ei : IntKind.i64.wrap (IntKind.i64.wrap (nth ps i + 2) + IntKind.i64.wrap (2 * (k : Int))) = nth ps i + 2 + 2 * (k : Int) := by rw [i64_id (2 * (k : Int)) (by omega) (by omega), i64_id (nth ps i + 2) (by omega) (by omega), i64_id _ (by omega) (by omega)]
  have hw := wA_range hB (nth ps i + 2 + 2 * (k : Int))
  rw [show n - k = (n - (k + 1)) + 1 by omega, lgI] at he
  refine Or.inr (lcall_subP [0, 1, 2, 3] (word_s b g L s (nth ps i + 2 + 2 * (k : Int)) hB hb (i64_id _ (by omega) (by omega))) (congrArg (fun z : Int => [SV.bx 3 0, .v (.int .i64 z)]) ei) rfl rfl rfl rfl rfl rfl (And.intro (And.intro rfl rfl) (And.intro rfl (And.intro (And.intro rfl rfl) (And.intro (And.intro rfl rfl) trivial)))) (fun h3 => ?_) (fun h3 => ?_))
  rotate_left
  · exact ⟨by rw [← he, if_pos h3], rfl, [0, 1, 2, 3], rfl, rfl, rfl, And.intro trivial (And.intro rfl (And.intro trivial (And.intro trivial trivial)))⟩
  refine subSt_out (paC b g L s ++ [nil7, .bx 43 [nilS, nilS, .sl 8, nilS, nilS, nilS, nilS], owW l, owZ ps, owLi acc]) [0, 1, 2, 3] rfl rfl ?_
  rw [if_neg (by rw [h3]; decide)] at he
  obtain ⟨t, ht⟩ : ∃ t, t = nth ps i + wA b (nth ps i + 2 + 2 * (k : Int)) := ⟨_, rfl⟩
  rw [← ht] at he
  have et : IntKind.i64.wrap (nth ps i + wA b (nth ps i + 2 + 2 * (k : Int))) = t := by rw [ht]; exact i64_id _ (by omega) (by omega)
  have htr : 0 ≤ t ∧ t ≤ 1200000 := by omega
  have hwt := wA_range hB t
  have hwt2 := wA_range hB (t + 2)
  refine Or.inr (lcall_subP [0, 1, 2, 3] (word_s b g L s t hB hb (i64_id _ (by omega) (by omega))) (congrArg (fun z : Int => [SV.bx 3 0, .v (.int .i64 z)]) et) rfl rfl rfl rfl rfl rfl (And.intro (And.intro rfl rfl) (And.intro rfl (And.intro (And.intro rfl rfl) (And.intro (And.intro rfl rfl) trivial)))) (fun h4 => ?_) (fun h4 => ?_))
  rotate_left
  · exact ⟨by rw [← he, gAt, if_pos h4], rfl, [0, 1, 2, 3], rfl, rfl, rfl, And.intro trivial (And.intro rfl (And.intro trivial (And.intro trivial trivial)))⟩
  refine subSt_out (paC b g L s ++ [nil7, .bx 43 [nilS, nilS, .sl 8, nilS, nilS, nilS, nilS], owW l, owZ ps, owLi acc]) [0, 1, 2, 3] rfl rfl ?_
  refine Or.inr (lcall_subP [0, 1, 2, 3] (glyph_s b g L (wA b t) s hwt hs) rfl rfl rfl rfl rfl rfl rfl (And.intro (And.intro rfl rfl) (And.intro rfl (And.intro (And.intro rfl rfl) (And.intro (And.intro rfl rfl) trivial)))) (fun h5 => ?_) (fun h5 => ?_))
  rotate_left
  · exact ⟨by rw [← he, gAt, if_neg (by rw [h4]; decide), if_pos h5], rfl, [0, 1, 2, 3], rfl, rfl, rfl, And.intro trivial (And.intro rfl (And.intro trivial (And.intro trivial trivial)))⟩
  refine subSt_out (paC b g L (s + 1) ++ [nil7, .bx 43 [nilS, nilS, .sl 8, nilS, nilS, nilS, nilS], owW l, owZ ps, owLi acc]) [0, 1, 2, 3] rfl rfl ?_
  rw [gAt, if_neg (by rw [h4]; decide), if_neg (fun h => h h5)] at he
  simp only at he
  have et2 : IntKind.i64.wrap (IntKind.i64.wrap (nth ps i + wA b (nth ps i + 2 + 2 * (k : Int))) + 2) = t + 2 := by rw [et]; exact i64_id _ (by omega) (by omega)
  have et4 : IntKind.i64.wrap (IntKind.i64.wrap (nth ps i + wA b (nth ps i + 2 + 2 * (k : Int))) + 4) = t + 4 := by rw [et]; exact i64_id _ (by omega) (by omega)
  have hs1 : 0 ≤ s + 1 ∧ s + 1 ≤ 65536 := ⟨by omega, h5.1⟩
  refine Or.inr (lcall_subP [0, 1, 2, 3] (word_s b g L (s + 1) (t + 2) hB hb (i64_id _ (by omega) (by omega))) (congrArg (fun z : Int => [SV.bx 3 0, .v (.int .i64 z)]) et2) rfl rfl rfl rfl rfl rfl (And.intro (And.intro rfl rfl) (And.intro rfl (And.intro (And.intro rfl rfl) (And.intro (And.intro rfl rfl) trivial)))) (fun h6 => ?_) (fun h6 => ?_))
  rotate_left
  · exact ⟨by rw [← he, if_pos h6], rfl, [0, 1, 2, 3], rfl, rfl, rfl, And.intro trivial (And.intro rfl (And.intro trivial (And.intro trivial trivial)))⟩
  refine subSt_out (paC b g L (s + 1) ++ [nil7, .bx 43 [nilS, nilS, .sl 8, nilS, nilS, nilS, nilS], owW l, owZ ps, owLi acc]) [0, 1, 2, 3] rfl rfl ?_
  rw [if_neg (by rw [h6]; decide)] at he
  refine Or.inr (lcall_need _ (fun h7 => ?_) (fun h7 => ?_))
  rotate_left
  · have h7 : ¬ wA b (t + 2) > 0 := of_decide_eq_false h7
    exact ⟨by rw [← he, if_pos h7], rfl, [0, 1, 2, 3], rfl, rfl, rfl, And.intro trivial (And.intro rfl (And.intro trivial (And.intro trivial trivial)))⟩
  have h7 : wA b (t + 2) > 0 := of_decide_eq_true h7
  rw [if_neg (fun h => h h7)] at he
  refine Or.inr (lcall_subP [0, 1, 2, 3] (count_s b g L (s + 1) 1 hs1 ⟨by omega, by omega⟩) rfl rfl rfl rfl rfl rfl rfl (And.intro (And.intro rfl rfl) (And.intro rfl (And.intro (And.intro rfl rfl) (And.intro (And.intro rfl rfl) trivial)))) (fun h8 => ?_) (fun h8 => ?_))
  rotate_left
  · exact ⟨by rw [← he, if_pos (by omega)], rfl, [0, 1, 2, 3], rfl, rfl, rfl, And.intro trivial (And.intro rfl (And.intro trivial (And.intro trivial trivial)))⟩
  rw [if_neg (fun h => h h8)] at he
  have es2 : s + 1 + 1 = s + 2 := by omega
  rw [es2]
  refine subSt_out (paC b g L (s + 2) ++ [nil7, .bx 43 [nilS, nilS, .sl 8, nilS, nilS, nilS, nilS], owW l, owZ ps, owLi acc]) [0, 1, 2, 3] rfl rfl ?_
  obtain ⟨m, hm⟩ : ∃ m : Nat, m = (wA b (t + 2)).toNat := ⟨_, rfl⟩
  have hmm : wA b (t + 2) = (m : Int) := by omega
  rw [← hm] at he
  have em : IntKind.i64.wrap (wA b (t + 2) - 1) = ((m - 1 : Nat) : Int) := by rw [hmm, i64_id _ (by omega) (by omega)]; omega
  have hargR : [SV.bx 3 0, .v (.int .i64 (IntKind.i64.wrap (IntKind.i64.wrap (nth ps i + wA b (nth ps i + 2 + 2 * (k : Int))) + 4))), .v (.int .i64 (IntKind.i64.wrap (wA b (t + 2) - 1)))] = [SV.bx 3 0, .v (.int .i64 (t + 4)), .v (.int .i64 ((m - 1 : Nat) : Int))] := by rw [et4, em]
  refine Or.inr (Or.inr (Or.inr ⟨[0, 1, 2, 4, 5, 6, 7, 8, 11], [103009, 10, 12, 13], [14, 15, 16], [(3, some [3])], by kernel_rfl, ?_⟩))
  refine ⟨_, ⟨rfl, rfl⟩, fun xs => ⟨rfl, rfl⟩, ?_⟩
  refine ⟨_, ⟨rfl, rfl⟩, fun xs => ⟨rfl, rfl⟩, ?_⟩
  refine ⟨_, ⟨rfl, rfl⟩, fun xs => ⟨rfl, rfl⟩, ?_⟩
  refine ⟨_, ⟨rfl, rfl⟩, fun xs => ⟨rfl, rfl⟩, ?_⟩
  refine ⟨_, ⟨rfl, rfl⟩, fun xs => ⟨rfl, rfl⟩, ?_⟩
  refine ⟨_, ⟨rfl, rfl⟩, fun xs => ⟨rfl, rfl⟩, ?_⟩
  refine ⟨_, ⟨rfl, rfl⟩, fun xs => ⟨rfl, rfl⟩, ?_⟩
  refine ⟨_, ⟨rfl, rfl⟩, fun xs => ⟨rfl, rfl⟩, ?_⟩
  refine ⟨_, ⟨rfl, rfl⟩, fun xs => ⟨rfl, rfl⟩, ?_⟩
  refine And.intro ?_ ?_
  rotate_left
  · cases hrow : rowX b g (t + 4) (s + 2) (m - 1) with
    | none =>
      rw [hrow] at he
      refine Or.inr (lcall_subP [0, 1, 2, 3] (prow_s b g L (t + 4) (s + 2) (m - 1) hB hb ⟨by omega, by omega⟩ (by omega) ⟨by omega, by omega⟩ none hrow) hargR rfl rfl rfl rfl rfl rfl (And.intro (And.intro rfl rfl) (And.intro rfl (And.intro (And.intro rfl rfl) (And.intro (And.intro rfl rfl) trivial)))) (fun h => absurd rfl h) (fun _ => ?_))
      exact ⟨he.symm, rfl, [0, 1, 2, 3], rfl, rfl, rfl, And.intro trivial (And.intro rfl (And.intro trivial (And.intro trivial trivial)))⟩
    | some rr =>
    obtain ⟨l', s'⟩ := rr
    obtain ⟨hl', hs', hs'b⟩ := row_rng _ _ _ _ _ hrow
    simp only [List.length_nil, Nat.zero_add] at hl' hs' hs'b
    rw [hrow] at he
    simp only at he
    refine Or.inr (lcall_subP [0, 1, 2, 3] (prow_s b g L (t + 4) (s + 2) (m - 1) hB hb ⟨by omega, by omega⟩ (by omega) ⟨by omega, by omega⟩ (some (l', s')) hrow) hargR rfl rfl rfl rfl rfl rfl (And.intro (And.intro rfl rfl) (And.intro rfl (And.intro (And.intro rfl rfl) (And.intro (And.intro rfl rfl) trivial)))) (fun _ => ?_) (fun h => by cases h))
    refine subSt_out (paC b g L s' ++ [nil7, .bx 43 [nilS, nilS, .sl 8, nilS, nilS, nilS, nilS], owW l, owZ ps, owLi acc, owW l']) [0, 1, 2, 3, 9] rfl rfl ?_
    refine ⟨rfl, fun xs => rfl, ?_⟩
    refine ⟨rfl, fun xs => rfl, ?_⟩
    refine ⟨Int, inferInstance, hE, [nth l i], l', ⟨rfl, rfl, fun _ _ => rfl⟩, ⟨rfl, rfl, fun _ _ => ⟨rfl, rfl⟩⟩, by show (1 + l'.length) * 2 ≤ _; omega, ?_⟩
    refine ⟨rfl, fun xs => rfl, ?_⟩
    refine ⟨rfl, fun xs => rfl, ?_⟩
    refine ⟨rfl, fun xs => rfl, ?_⟩
    refine ⟨[⟨nth l i :: l', wA b t⟩], ⟨rfl, rfl, by simp⟩, by show (acc.length + 1) * 32 ≤ _; omega, ?_⟩
    exact ⟨[0, 1, 2, 3, 4, 5, 6, 7, 13], ⟨k + 1, s', acc ++ [⟨nth l i :: l', wA b t⟩], hkl, ⟨by omega, by omega⟩, by rw [List.length_append]; show ((acc.length + 1 : Nat) : Int) ≤ _; omega, he⟩, And.intro (And.intro rfl (And.intro rfl (And.intro rfl (And.intro rfl (And.intro rfl (And.intro rfl (And.intro rfl (And.intro rfl (And.intro rfl (And.intro rfl (And.intro (svI (i64_succ k (by omega))) trivial))))))))))) (And.intro (And.intro rfl rfl) (And.intro rfl (And.intro (And.intro rfl rfl) (And.intro (And.intro rfl rfl) (And.intro (And.intro rfl rfl) (And.intro (And.intro rfl rfl) (And.intro rfl (And.intro rfl (And.intro (owLie rfl) trivial))))))))), by show n - (k + 1) < n - k; omega⟩

  refine ⟨rfl, fun xs => rfl, ?_⟩
  cases hrow : rowX b g (t + 4) (s + 2) (m - 1) with
  | none =>
    rw [hrow] at he
    refine Or.inr (lcall_subP [0, 1, 2, 3] (prow_s b g L (t + 4) (s + 2) (m - 1) hB hb ⟨by omega, by omega⟩ (by omega) ⟨by omega, by omega⟩ none hrow) hargR rfl rfl rfl rfl rfl rfl (And.intro (And.intro rfl rfl) (And.intro rfl (And.intro (And.intro rfl rfl) (And.intro (And.intro rfl rfl) trivial)))) (fun h => absurd rfl h) (fun _ => ?_))
    exact ⟨he.symm, rfl, [0, 1, 2, 3], rfl, rfl, rfl, And.intro trivial (And.intro rfl (And.intro trivial (And.intro trivial trivial)))⟩
  | some rr =>
  obtain ⟨l', s'⟩ := rr
  obtain ⟨hl', hs', hs'b⟩ := row_rng _ _ _ _ _ hrow
  simp only [List.length_nil, Nat.zero_add] at hl' hs' hs'b
  rw [hrow] at he
  simp only at he
  refine Or.inr (lcall_subP [0, 1, 2, 3] (prow_s b g L (t + 4) (s + 2) (m - 1) hB hb ⟨by omega, by omega⟩ (by omega) ⟨by omega, by omega⟩ (some (l', s')) hrow) hargR rfl rfl rfl rfl rfl rfl (And.intro (And.intro rfl rfl) (And.intro rfl (And.intro (And.intro rfl rfl) (And.intro (And.intro rfl rfl) trivial)))) (fun _ => ?_) (fun h => by cases h))
  refine subSt_out (paC b g L s' ++ [nil7, .bx 43 [nilS, nilS, .sl 8, nilS, nilS, nilS, nilS], owW l, owZ ps, owLi acc, .raw 31 1 1 [.v (.int .u16 (nth l i))], owW l']) [0, 1, 2, 3, 10] rfl rfl ?_
  refine ⟨rfl, fun xs => rfl, ?_⟩
  refine ⟨Int, inferInstance, hE, [nth l i], l', ⟨rfl, rfl, fun _ _ => rfl⟩, ⟨rfl, rfl, fun _ _ => ⟨rfl, rfl⟩⟩, by show (1 + l'.length) * 2 ≤ _; omega, ?_⟩
  refine ⟨rfl, fun xs => rfl, ?_⟩
  refine ⟨rfl, fun xs => rfl, ?_⟩
  refine ⟨rfl, fun xs => rfl, ?_⟩
  refine ⟨[⟨nth l i :: l', wA b t⟩], ⟨rfl, rfl, by simp⟩, by show (acc.length + 1) * 32 ≤ _; omega, ?_⟩
  exact ⟨[0, 1, 2, 3, 4, 5, 6, 7, 13], ⟨k + 1, s', acc ++ [⟨nth l i :: l', wA b t⟩], hkl, ⟨by omega, by omega⟩, by rw [List.length_append]; show ((acc.length + 1 : Nat) : Int) ≤ _; omega, he⟩, And.intro (And.intro rfl (And.intro rfl (And.intro rfl (And.intro rfl (And.intro rfl (And.intro rfl (And.intro rfl (And.intro rfl (And.intro rfl (And.intro rfl (And.intro (svI (i64_succ k (by omega))) trivial))))))))))) (And.intro (And.intro rfl rfl) (And.intro rfl (And.intro (And.intro rfl rfl) (And.intro (And.intro rfl rfl) (And.intro (And.intro rfl rfl) (And.intro (And.intro rfl rfl) (And.intro rfl (And.intro rfl (And.intro (owLie rfl) trivial))))))))), by show n - (k + 1) < n - k; omega⟩

end Go.Proofs.Ytalploampmdemaa
