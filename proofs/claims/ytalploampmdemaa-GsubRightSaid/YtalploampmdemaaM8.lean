/- gsub.parser.chain. -/
import Derived.Test.YtalploampmdemaaM7
set_option maxRecDepth 100000
set_option linter.unusedVariables false
namespace Go.Proofs.Ytalploampmdemaa
open Go Go.Eng Go.RowKit

structure Chn where
  bk : List (List Int)
  inn : List (List Int)
  ah : List (List Int)
  rs : List Rec
  deriving Inhabited
def rcLoop (b : List Int) (L : Int) (n : Nat) (t : Int) : Nat → Nat → List Rec → Option (List Rec)
  | 0, _, acc => some acc
  | m + 1, i, acc =>
    if outR b (t + 2 + 4 * (i : Int)) 2 = true then none else if outR b (t + 4 + 4 * (i : Int)) 2 = true then none
    else if ¬ (wA b (t + 2 + 4 * (i : Int)) < (n : Int) ∧ wA b (t + 4 + 4 * (i : Int)) < L) then none
    else rcLoop b L n t m (i + 1) (acc ++ [⟨wA b (t + 2 + 4 * (i : Int)), wA b (t + 4 + 4 * (i : Int))⟩])
def chT (b : List Int) (L t : Int) (bk inn ah : List (List Int)) (s : Int) : Option (Chn × Int) :=
  if ¬ (inn.length : Int) > 0 then none
  else if outR b t 2 = true then none
  else match rcLoop b L inn.length t (wA b t).toNat 0 [] with
    | none => none
    | some rs => some (⟨bk, inn, ah, rs⟩, s)
def chainX (b : List Int) (g L a s : Int) : Option (Chn × Int) :=
  if outR b a 2 = true then none else if ¬ wA b a = 3 then none
  else match setsX b g a (a + 2) s with
  | none => none
  | some (bk, t1, s1) => match setsX b g a t1 s1 with
    | none => none
    | some (inn, t2, s2) => match setsX b g a t2 s2 with
      | none => none
      | some (ah, t3, s3) => chT b L t3 bk inn ah s3
structure Src (b : List Int) (L : Int) (bk inn ah : List (List Int)) (s t : Int) (n : Nat) (X : Option (Chn × Int)) where
  i : Nat
  acc : List Rec
  hi : i ≤ n
  hl : acc.length = i
  e : (match rcLoop b L inn.length t (n - i) i acc with | none => none | some rs => some (⟨bk, inn, ah, rs⟩, s)) = X
abbrev subSc : SV := .agg [nilS, nilS, nilS, .sl 4, .sl 5, .sl 6, .sl 7]
abbrev chOf (X : Option (Chn × Int)) : List Chunk := [owSe (X.getD (default, 0)).1.bk, owSe (X.getD (default, 0)).1.inn, owSe (X.getD (default, 0)).1.ah, owRe (X.getD (default, 0)).1.rs]
set_option maxHeartbeats 2000000 in
theorem chain_s (b : List Int) (g L a s : Int) (hB : Byt b) (hb : b.length ≤ 100000) (ha : 0 ≤ a ∧ a ≤ 1000000) (hss : 0 ≤ s ∧ s ≤ 65536) (X : Option (Chn × Int)) (hX : chainX b g L a s = X) : LCall Try.prog ⟨0, [], paC b g L s, [], []⟩ 45 [.bx 3 0, .v (.int .i64 a)]
    (fun st' r => X ≠ none ∧ st'.ch = paC b g L (X.getD (default, 0)).2 ++ chOf X ∧ r = subSc) (fun pc' st' => X = none ∧ st'.ch = deC b ∧ pc' = wrongP) := by
  refine lcall_execP (cf := cf) cfok (fn := Try.f45) Try.func45 rfl _ _ _ (paC b g L (X.getD (default, 0)).2 ++ chOf X) subSc _ (deC b) wrongP rfl rfl (by simp [svOkL, svOk]) rfl (by exact ⟨trivial, ⟨Nat.le_refl _, rfl⟩, trivial, trivial, trivial⟩) (by exact ⟨trivial, ⟨Nat.le_refl _, rfl⟩, trivial, trivial, trivial⟩) rfl rfl rfl ?_
  unfold chainX at hX
  have e2 : IntKind.i64.wrap (a + 2) = a + 2 := i64_id _ (by omega) (by omega)
  refine Or.inr (lcall_subP [0, 1, 2, 3] (word_s b g L s a hB hb (i64_id _ (by omega) (by omega))) rfl rfl rfl rfl rfl rfl rfl (And.intro (And.intro rfl rfl) (And.intro rfl (And.intro (And.intro rfl rfl) (And.intro (And.intro rfl rfl) trivial)))) (fun h1 => ?_) (fun h1 => ?_))
  rotate_left
  · exact ⟨by rw [← hX, if_pos h1], rfl, [0, 1, 2, 3], rfl, rfl, rfl, And.intro trivial (And.intro rfl (And.intro trivial (And.intro trivial trivial)))⟩
  refine subSt_out (paC b g L s ++ [nil7, nil7]) [0, 1, 2, 3] rfl rfl ?_
  rw [if_neg (by rw [h1]; decide)] at hX
  refine Or.inr (lcall_need _ (fun h2 => ?_) (fun h2 => ?_))
  rotate_left
  · have h2 : ¬ wA b a = 3 := of_decide_eq_false h2
    exact ⟨by rw [← hX, if_pos h2], rfl, [0, 1, 2, 3], rfl, rfl, rfl, And.intro trivial (And.intro rfl (And.intro trivial (And.intro trivial trivial)))⟩
  have h2 : wA b a = 3 := of_decide_eq_true h2
  rw [if_neg (fun h => h h2)] at hX
  have hargs : [SV.bx 3 0, .v (.int .i64 a), .v (.int .i64 (IntKind.i64.wrap (a + 2)))] = [SV.bx 3 0, .v (.int .i64 a), .v (.int .i64 (a + 2))] := by rw [e2]
  cases hbk : setsX b g a (a + 2) s with
  | none =>
    rw [hbk] at hX
    refine Or.inr (lcall_subP [0, 1, 2, 3] (sets_s b g L a (a + 2) s hB hb ha ⟨by omega, by omega⟩ hss none hbk) hargs rfl rfl rfl rfl rfl rfl (And.intro (And.intro rfl rfl) (And.intro rfl (And.intro (And.intro rfl rfl) (And.intro (And.intro rfl rfl) trivial)))) (fun h => absurd rfl h) (fun _ => ?_))
    exact ⟨hX.symm, rfl, [0, 1, 2, 3], rfl, rfl, rfl, And.intro trivial (And.intro rfl (And.intro trivial (And.intro trivial trivial)))⟩
  | some r =>
  obtain ⟨bk, t1, s1⟩ := r
  obtain ⟨hnbk, htbk, hss1a, hss1b, hfbka, hfbkb⟩ := setsX_len hB hss hbk
  have hss1 : 0 ≤ s1 ∧ s1 ≤ 65536 := ⟨hss1a, hss1b⟩
  rw [hbk] at hX
  simp only at hX
  refine Or.inr (lcall_subP [0, 1, 2, 3] (sets_s b g L a (a + 2) s hB hb ha ⟨by omega, by omega⟩ hss (some (bk, t1, s1)) hbk) hargs rfl rfl rfl rfl rfl rfl (And.intro (And.intro rfl rfl) (And.intro rfl (And.intro (And.intro rfl rfl) (And.intro (And.intro rfl rfl) trivial)))) (fun _ => ?_) (fun h => by cases h))
  refine subSt_out (paC b g L s1 ++ [nil7, nil7, owSe bk]) [0, 1, 2, 3, 6] rfl rfl ?_
  cases hinn : setsX b g a t1 s1 with
  | none =>
    rw [hinn] at hX
    refine Or.inr (lcall_subP [0, 1, 2, 3] (sets_s b g L a t1 s1 hB hb ha ⟨by omega, by omega⟩ hss1 none hinn) rfl rfl rfl rfl rfl rfl rfl (And.intro (And.intro rfl rfl) (And.intro rfl (And.intro (And.intro rfl rfl) (And.intro (And.intro rfl rfl) trivial)))) (fun h => absurd rfl h) (fun _ => ?_))
    exact ⟨hX.symm, rfl, [0, 1, 2, 3], rfl, rfl, rfl, And.intro trivial (And.intro rfl (And.intro trivial (And.intro trivial trivial)))⟩
  | some r =>
  obtain ⟨inn, t2, s2⟩ := r
  obtain ⟨hninn, htinn, hss2a, hss2b, hfinna, hfinnb⟩ := setsX_len hB hss1 hinn
  have hss2 : 0 ≤ s2 ∧ s2 ≤ 65536 := ⟨hss2a, hss2b⟩
  rw [hinn] at hX
  simp only at hX
  refine Or.inr (lcall_subP [0, 1, 2, 3] (sets_s b g L a t1 s1 hB hb ha ⟨by omega, by omega⟩ hss1 (some (inn, t2, s2)) hinn) rfl rfl rfl rfl rfl rfl rfl (And.intro (And.intro rfl rfl) (And.intro rfl (And.intro (And.intro rfl rfl) (And.intro (And.intro rfl rfl) trivial)))) (fun _ => ?_) (fun h => by cases h))
  refine subSt_out (paC b g L s2 ++ [nil7, .bx 43 [nilS, nilS, nilS, .sl 6, nilS, nilS, nilS], owSe bk, owSe inn]) [0, 1, 2, 3, 7] rfl rfl ?_
  cases hah : setsX b g a t2 s2 with
  | none =>
    rw [hah] at hX
    refine Or.inr (lcall_subP [0, 1, 2, 3] (sets_s b g L a t2 s2 hB hb ha ⟨by omega, by omega⟩ hss2 none hah) rfl rfl rfl rfl rfl rfl rfl (And.intro (And.intro rfl rfl) (And.intro rfl (And.intro (And.intro rfl rfl) (And.intro (And.intro rfl rfl) trivial)))) (fun h => absurd rfl h) (fun _ => ?_))
    exact ⟨hX.symm, rfl, [0, 1, 2, 3], rfl, rfl, rfl, And.intro trivial (And.intro rfl (And.intro trivial (And.intro trivial trivial)))⟩
  | some r =>
  obtain ⟨ah, t3, s3⟩ := r
  obtain ⟨hnah, htah, hss3a, hss3b, hfaha, hfahb⟩ := setsX_len hB hss2 hah
  have hss3 : 0 ≤ s3 ∧ s3 ≤ 65536 := ⟨hss3a, hss3b⟩
  rw [hah] at hX
  simp only at hX
  refine Or.inr (lcall_subP [0, 1, 2, 3] (sets_s b g L a t2 s2 hB hb ha ⟨by omega, by omega⟩ hss2 (some (ah, t3, s3)) hah) rfl rfl rfl rfl rfl rfl rfl (And.intro (And.intro rfl rfl) (And.intro rfl (And.intro (And.intro rfl rfl) (And.intro (And.intro rfl rfl) trivial)))) (fun _ => ?_) (fun h => by cases h))
  refine subSt_out (paC b g L s3 ++ [nil7, .bx 43 [nilS, nilS, nilS, .sl 6, .sl 7, nilS, nilS], owSe bk, owSe inn, owSe ah]) [0, 1, 2, 3, 8] rfl rfl ?_
  unfold chT at hX
  refine Or.inr (lcall_need _ (fun h3 => ?_) (fun h3 => ?_))
  rotate_left
  · have h3 : ¬ (inn.length : Int) > 0 := of_decide_eq_false h3
    exact ⟨by rw [← hX, if_pos h3], rfl, [0, 1, 2, 3], rfl, rfl, rfl, And.intro trivial (And.intro rfl (And.intro trivial (And.intro trivial trivial)))⟩
  have h3 : (inn.length : Int) > 0 := of_decide_eq_true h3
  rw [if_neg (fun h => h h3)] at hX
  have htr : 0 ≤ t3 ∧ t3 ≤ 10000000 := by omega
  have hwt := wA_range hB t3
  refine Or.inr (lcall_subP [0, 1, 2, 3] (word_s b g L s3 t3 hB hb (i64_id _ (by omega) (by omega))) rfl rfl rfl rfl rfl rfl rfl (And.intro (And.intro rfl rfl) (And.intro rfl (And.intro (And.intro rfl rfl) (And.intro (And.intro rfl rfl) trivial)))) (fun h4 => ?_) (fun h4 => ?_))
  rotate_left
  · exact ⟨by rw [← hX, if_pos h4], rfl, [0, 1, 2, 3], rfl, rfl, rfl, And.intro trivial (And.intro rfl (And.intro trivial (And.intro trivial trivial)))⟩
  refine subSt_out (paC b g L s3 ++ [nil7, .bx 43 [nilS, nilS, nilS, .sl 6, .sl 7, .sl 8, nilS], owSe bk, owSe inn, owSe ah]) [0, 1, 2, 3] rfl rfl ?_
  rw [if_neg (by rw [h4]; decide)] at hX
  obtain ⟨n, hn⟩ : ∃ n : Nat, n = (wA b t3).toNat := ⟨_, rfl⟩
  have hnn : wA b t3 = (n : Int) := by omega
  rw [← hn] at hX
  refine ⟨Src b L bk inn ah s3 t3 n X, fun q => ⟨90, [⟨0, [], .bx 3 0⟩, ⟨4, [], .bx 4 0⟩, ⟨5, [], .bx 5 0⟩, ⟨6, [], .v (.int .i64 t3)⟩, ⟨47, [], .v (.int .i64 (n : Int))⟩, ⟨48, [], .v (.int .i64 (q.i : Nat))⟩], paC b g L s3 ++ [nil7, .bx 43 [nilS, nilS, nilS, .sl 6, .sl 7, .sl 8, .sl 9], owSe bk, owSe inn, owSe ah, owRe q.acc], [], dropL nats 10⟩, fun q => n - q.i, ⟨[0, 1, 2, 3, 4, 5, 6, 7, 8, 1000], ⟨0, [], by omega, rfl, by rw [Nat.sub_zero]; exact hX⟩, ?_⟩, fun q => ?_⟩
  · exact And.intro (And.intro rfl (And.intro rfl (And.intro rfl (And.intro rfl (And.intro (svI hnn) (And.intro rfl trivial)))))) (And.intro (And.intro rfl rfl) (And.intro rfl (And.intro (And.intro rfl rfl) (And.intro (And.intro rfl rfl) (And.intro (And.intro rfl rfl) (And.intro (And.intro rfl rfl) (And.intro rfl (And.intro rfl (And.intro rfl (And.intro rfl trivial))))))))))
  obtain ⟨i, acc, hi, hl, he⟩ := q
  refine And.intro (fun hlt => ?_) (fun hge => ?_)
  rotate_left
  · have hge : i = n := by
      have : ¬ ((i : Nat) : Int) < ((n : Nat) : Int) := of_decide_eq_false hge
      omega
    rw [hge, Nat.sub_self, rcLoop] at he
    subst he
    exact ⟨by simp, [0, 1, 2, 3, 6, 7, 8, 9], rfl, rfl, rfl, (And.intro (And.intro rfl rfl) (And.intro rfl (And.intro (And.intro rfl rfl) (And.intro (And.intro rfl rfl) (And.intro rfl (And.intro rfl (And.intro rfl (And.intro rfl trivial)))))))), rfl⟩
  have hlt : i < n := by
    have : ((i : Nat) : Int) < ((n : Nat) : Int) := of_decide_eq_true hlt
    omega
  have ei : ∀ c : Int, 0 ≤ c → c ≤ 10 → IntKind.i64.wrap (IntKind.i64.wrap (t3 + c) + IntKind.i64.wrap (4 * (i : Int))) = t3 + c + 4 * (i : Int) := fun c h1 h2 => by rw [i64_id (4 * (i : Int)) (by omega) (by omega), i64_id (t3 + c) (by omega) (by omega), i64_id _ (by omega) (by omega)]
  rw [show n - i = (n - (i + 1)) + 1 by omega, rcLoop] at he
  refine Or.inr (lcall_subP [0, 1, 2, 3] (word_s b g L s3 (t3 + 2 + 4 * (i : Int)) hB hb (i64_id _ (by omega) (by omega))) (congrArg (fun z : Int => [SV.bx 3 0, .v (.int .i64 z)]) (ei 2 (by omega) (by omega))) rfl rfl rfl rfl rfl rfl (And.intro (And.intro rfl rfl) (And.intro rfl (And.intro (And.intro rfl rfl) (And.intro (And.intro rfl rfl) trivial)))) (fun h5 => ?_) (fun h5 => ?_))
  rotate_left
  · exact ⟨by rw [← he, if_pos h5], rfl, [0, 1, 2, 3], rfl, rfl, rfl, And.intro trivial (And.intro rfl (And.intro trivial (And.intro trivial trivial)))⟩
  refine subSt_out (paC b g L s3 ++ [nil7, .bx 43 [nilS, nilS, nilS, .sl 6, .sl 7, .sl 8, .sl 9], owSe bk, owSe inn, owSe ah, owRe acc]) [0, 1, 2, 3] rfl rfl ?_
  rw [if_neg (by rw [h5]; decide)] at he
  refine Or.inr (lcall_subP [0, 1, 2, 3] (word_s b g L s3 (t3 + 4 + 4 * (i : Int)) hB hb (i64_id _ (by omega) (by omega))) (congrArg (fun z : Int => [SV.bx 3 0, .v (.int .i64 z)]) (ei 4 (by omega) (by omega))) rfl rfl rfl rfl rfl rfl (And.intro (And.intro rfl rfl) (And.intro rfl (And.intro (And.intro rfl rfl) (And.intro (And.intro rfl rfl) trivial)))) (fun h6 => ?_) (fun h6 => ?_))
  rotate_left
  · exact ⟨by rw [← he, if_pos h6], rfl, [0, 1, 2, 3], rfl, rfl, rfl, And.intro trivial (And.intro rfl (And.intro trivial (And.intro trivial trivial)))⟩
  refine subSt_out (paC b g L s3 ++ [nil7, .bx 43 [nilS, nilS, nilS, .sl 6, .sl 7, .sl 8, .sl 9], owSe bk, owSe inn, owSe ah, owRe acc]) [0, 1, 2, 3] rfl rfl ?_
  rw [if_neg (by rw [h6]; decide)] at he
  refine Or.inr (Or.inl ⟨15, by kernel_rfl, ?_⟩)
  refine Or.inr (lcall_need _ (fun h7 => ?_) (fun h7 => ?_))
  rotate_left
  · have h7 : (decide (wA b (t3 + 2 + 4 * (i : Int)) < (inn.length : Int)) && decide (wA b (t3 + 4 + 4 * (i : Int)) < L)) = false := h7
    rw [Bool.and_eq_false_iff] at h7
    exact ⟨by rw [← he, if_pos (fun h => by rcases h7 with c | c; exact absurd h.1 (of_decide_eq_false c); exact absurd h.2 (of_decide_eq_false c))], rfl, [0, 1, 2, 3], rfl, rfl, rfl, And.intro trivial (And.intro rfl (And.intro trivial (And.intro trivial trivial)))⟩
  have h7 : (decide (wA b (t3 + 2 + 4 * (i : Int)) < (inn.length : Int)) && decide (wA b (t3 + 4 + 4 * (i : Int)) < L)) = true := h7
  rw [Bool.and_eq_true] at h7
  rw [if_neg (fun h => h ⟨of_decide_eq_true h7.1, of_decide_eq_true h7.2⟩)] at he
  refine ⟨[⟨wA b (t3 + 2 + 4 * (i : Int)), wA b (t3 + 4 + 4 * (i : Int))⟩], ⟨rfl, rfl, by simp⟩, by show (acc.length + 1) * 16 ≤ _; omega, ?_⟩
  exact ⟨[0, 1, 2, 3, 4, 5, 6, 7, 8, 12], ⟨i + 1, acc ++ [⟨wA b (t3 + 2 + 4 * (i : Int)), wA b (t3 + 4 + 4 * (i : Int))⟩], hlt, by rw [List.length_append]; show acc.length + 1 = _; omega, he⟩, And.intro (And.intro rfl (And.intro rfl (And.intro rfl (And.intro rfl (And.intro rfl (And.intro (svI (i64_succ i (by omega))) trivial)))))) (And.intro (And.intro rfl rfl) (And.intro rfl (And.intro (And.intro rfl rfl) (And.intro (And.intro rfl rfl) (And.intro (And.intro rfl rfl) (And.intro (And.intro rfl rfl) (And.intro rfl (And.intro rfl (And.intro rfl (And.intro (owRee rfl) trivial)))))))))), by show n - (i + 1) < n - i; omega⟩
end Go.Proofs.Ytalploampmdemaa
