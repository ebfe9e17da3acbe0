/- gsub.parser.sets. -/
import Derived.Test.YtalploampmdemaaM5
set_option maxRecDepth 100000
set_option linter.unusedVariables false
namespace Go.Proofs.Ytalploampmdemaa
open Go Go.Eng Go.RowKit

def stLoop (b : List Int) (g a f : Int) : Nat → Nat → Int → List (List Int) → Option (List (List Int) × Int)
  | 0, _, s, acc => some (acc, s)
  | m + 1, i, s, acc => match set2 b g a (f + 2 + 2 * (i : Int)) s with
    | none => none
    | some (l, s') => stLoop b g a f m (i + 1) s' (acc ++ [l])
def setsX (b : List Int) (g a f s : Int) : Option (List (List Int) × Int × Int) :=
  if outR b f 2 = true then none
  else match stLoop b g a f (wA b f).toNat 0 s [] with
    | none => none
    | some (l, s') => some (l, f + 2 + 2 * wA b f, s')
structure Sst (b : List Int) (g a f : Int) (n : Nat) (X : Option (List (List Int) × Int × Int)) where
  i : Nat
  s : Int
  acc : List (List Int)
  hi : i ≤ n
  hs : 0 ≤ s ∧ s ≤ 65536
  hl : acc.length = i
  e : (match stLoop b g a f (n - i) i s acc with | none => none | some (l, s') => some (l, f + 2 + 2 * (n : Int), s')) = X
theorem stLoop_len {b : List Int} {g a f : Int} : ∀ (m i : Nat) (s : Int) (acc : List (List Int)) (r : List (List Int) × Int), 0 ≤ s ∧ s ≤ 65536 → stLoop b g a f m i s acc = some r → r.1.length = acc.length + m ∧ 0 ≤ r.2 ∧ r.2 ≤ 65536
  | 0, _, s, acc, r, hs, h => by cases h; exact ⟨rfl, hs⟩
  | m + 1, i, s, acc, r, hs, h => by
    rw [stLoop] at h
    split at h
    · cases h
    · rename_i l s' hset
      obtain ⟨_, h2, h3, h4, h5⟩ := set2_len hset
      simp only at h2 h3 h4 h5
      obtain ⟨h6, h7⟩ := stLoop_len m (i + 1) s' _ r ⟨by omega, h3⟩ h
      rw [List.length_append] at h6
      exact ⟨by rw [h6]; simp only [List.length_cons, List.length_nil]; omega, h7⟩
theorem setsX_len {b : List Int} (hB : Byt b) {g a f s : Int} {l : List (List Int)} {t s' : Int} (hs : 0 ≤ s ∧ s ≤ 65536) (h : setsX b g a f s = some (l, t, s')) : (l.length : Int) ≤ 65535 ∧ t = f + 2 + 2 * (l.length : Int) ∧ 0 ≤ s' ∧ s' ≤ 65536 ∧ 0 ≤ f ∧ f ≤ b.length := by
  unfold setsX at h
  split at h
  · cases h
  · rename_i ho
    split at h
    · cases h
    · rename_i l0 s0 hl
      cases h
      have hw := wA_range hB f
      obtain ⟨h6, h7, h8⟩ := stLoop_len _ _ _ _ _ hs hl
      have h6 : l.length = 0 + (wA b f).toNat := by rw [h6]; rfl
      have ho : outR b f 2 = false := by simpa using ho
      obtain ⟨h1, _, h2⟩ := outR_iff.1 ho
      exact ⟨by omega, by omega, h7, h8, h1, by omega⟩
set_option maxHeartbeats 2000000 in
theorem sets_s (b : List Int) (g L a f s : Int) (hB : Byt b) (hb : b.length ≤ 100000) (ha : 0 ≤ a ∧ a ≤ 1000000) (hf : 0 ≤ f ∧ f ≤ 10000000) (hs : 0 ≤ s ∧ s ≤ 65536) (X : Option (List (List Int) × Int × Int)) (hX : setsX b g a f s = X) : LCall Try.prog ⟨0, [], paC b g L s, [], []⟩ 66 [.bx 3 0, .v (.int .i64 a), .v (.int .i64 f)]
    (fun st' r => X ≠ none ∧ st'.ch = paC b g L (X.getD ([], 0, 0)).2.2 ++ [owSe (X.getD ([], 0, 0)).1] ∧ r = .tup [.sl 4, .v (.int .i64 (X.getD ([], 0, 0)).2.1)]) (fun pc' st' => X = none ∧ st'.ch = deC b ∧ pc' = wrongP) := by
  refine lcall_execP (cf := cf) cfok (fn := Try.f66) Try.func66 rfl _ _ _ (paC b g L (X.getD ([], 0, 0)).2.2 ++ [owSe (X.getD ([], 0, 0)).1]) (.tup [.sl 4, .v (.int .i64 (X.getD ([], 0, 0)).2.1)]) _ (deC b) wrongP rfl rfl (by simp [svOkL, svOk]) rfl (by exact ⟨trivial, ⟨Nat.le_refl _, rfl⟩, trivial, trivial, trivial⟩) (by exact ⟨trivial, ⟨Nat.le_refl _, rfl⟩, trivial, trivial, trivial⟩) rfl rfl rfl ?_
  unfold setsX at hX
  have hw := wA_range hB f
  refine Or.inr (lcall_subP [0, 1, 2, 3] (word_s b g L s f hB hb (i64_id _ (by omega) (by omega))) rfl rfl rfl rfl rfl rfl rfl (And.intro (And.intro rfl rfl) (And.intro rfl (And.intro (And.intro rfl rfl) (And.intro (And.intro rfl rfl) trivial)))) (fun h1 => ?_) (fun h1 => ?_))
  rotate_left
  · exact ⟨by rw [← hX, if_pos h1], rfl, [0, 1, 2, 3], rfl, rfl, rfl, And.intro trivial (And.intro rfl (And.intro trivial (And.intro trivial trivial)))⟩
  refine subSt_out (paC b g L s) [0, 1, 2, 3] rfl rfl ?_
  rw [if_neg (by rw [h1]; decide)] at hX
  obtain ⟨n, hn⟩ : ∃ n : Nat, n = (wA b f).toNat := ⟨_, rfl⟩
  have hnn : wA b f = (n : Int) := by omega
  rw [← hn, hnn] at hX
  refine ⟨Sst b g a f n X, fun q => ⟨36, [⟨0, [], .bx 3 0⟩, ⟨1, [], .v (.int .i64 a)⟩, ⟨2, [], .v (.int .i64 f)⟩, ⟨8, [], .sl 4⟩, ⟨9, [], .v (.int .i64 (n : Int))⟩, ⟨14, [], .v (.int .i64 (n : Int))⟩, ⟨15, [], .v (.int .i64 (q.i : Nat))⟩], paC b g L q.s ++ [owSe q.acc], [], dropL nats 5⟩, fun q => n - q.i, ⟨[0, 1, 2, 3, 1000], ⟨0, s, [], by omega, hs, rfl, by rw [Nat.sub_zero]; exact hX⟩, ?_⟩, fun q => ?_⟩
  · exact And.intro (And.intro rfl (And.intro rfl (And.intro rfl (And.intro rfl (And.intro (svI hnn) (And.intro (svI hnn) (And.intro rfl trivial))))))) (And.intro (And.intro rfl rfl) (And.intro rfl (And.intro (And.intro rfl rfl) (And.intro (And.intro rfl rfl) (And.intro rfl trivial)))))
  obtain ⟨i, s, acc, hi, hs, hl, he⟩ := q
  refine And.intro (fun hlt => ?_) (fun hge => ?_)
  rotate_left
  · have hge : i = n := by
      have : ¬ ((i : Nat) : Int) < ((n : Nat) : Int) := of_decide_eq_false hge
      omega
    rw [hge, Nat.sub_self, stLoop] at he
    subst he
    have et : IntKind.i64.wrap (IntKind.i64.wrap (f + 2) + IntKind.i64.wrap (2 * (n : Int))) = f + 2 + 2 * (n : Int) := by rw [i64_id (2 * (n : Int)) (by omega) (by omega), i64_id (f + 2) (by omega) (by omega), i64_id _ (by omega) (by omega)]
    exact ⟨by simp, [0, 1, 2, 3, 4], rfl, rfl, rfl, (And.intro (And.intro rfl rfl) (And.intro rfl (And.intro (And.intro rfl rfl) (And.intro (And.intro rfl rfl) (And.intro rfl trivial))))), congrArg (fun z : Int => SV.tup [.sl 4, .v (.int .i64 z)]) et⟩
  have hlt : i < n := by
    have : ((i : Nat) : Int) < ((n : Nat) : Int) := of_decide_eq_true hlt
    omega
  have ei : IntKind.i64.wrap (IntKind.i64.wrap (f + 2) + IntKind.i64.wrap (2 * (i : Int))) = f + 2 + 2 * (i : Int) := by rw [i64_id (2 * (i : Int)) (by omega) (by omega), i64_id (f + 2) (by omega) (by omega), i64_id _ (by omega) (by omega)]
  have hargs : [SV.bx 3 0, .v (.int .i64 a), .v (.int .i64 (IntKind.i64.wrap (IntKind.i64.wrap (f + 2) + IntKind.i64.wrap (2 * (i : Int)))))] = [SV.bx 3 0, .v (.int .i64 a), .v (.int .i64 (f + 2 + 2 * (i : Int)))] := by rw [ei]
  rw [show n - i = (n - (i + 1)) + 1 by omega, stLoop] at he
  cases hset : set2 b g a (f + 2 + 2 * (i : Int)) s with
  | none =>
    rw [hset] at he
    refine Or.inr (lcall_subP [0, 1, 2, 3] (set_s b g L a (f + 2 + 2 * (i : Int)) s hB hb ⟨by omega, by omega⟩ ⟨by omega, by omega⟩ hs none hset) hargs rfl rfl rfl rfl rfl rfl (And.intro (And.intro rfl rfl) (And.intro rfl (And.intro (And.intro rfl rfl) (And.intro (And.intro rfl rfl) trivial)))) (fun h => absurd rfl h) (fun _ => ?_))
    exact ⟨he.symm, rfl, [0, 1, 2, 3], rfl, rfl, rfl, And.intro trivial (And.intro rfl (And.intro trivial (And.intro trivial trivial)))⟩
  | some r =>
  obtain ⟨l, s'⟩ := r
  obtain ⟨_, hs1, hs1b, hl0, hl1⟩ := set2_len hset
  simp only at hs1 hs1b hl0 hl1
  rw [hset] at he
  simp only at he
  refine Or.inr (lcall_subP [0, 1, 2, 3] (set_s b g L a (f + 2 + 2 * (i : Int)) s hB hb ⟨by omega, by omega⟩ ⟨by omega, by omega⟩ hs (some (l, s')) hset) hargs rfl rfl rfl rfl rfl rfl (And.intro (And.intro rfl rfl) (And.intro rfl (And.intro (And.intro rfl rfl) (And.intro (And.intro rfl rfl) trivial)))) (fun _ => ?_) (fun h => by cases h))
  refine subSt_out (paC b g L s' ++ [owSe acc, owW l]) [0, 1, 2, 3, 5] rfl rfl ?_
  refine ⟨[l], ⟨rfl, rfl, by simp⟩, by show (acc.length + 1) * 24 ≤ _; omega, ?_⟩
  exact ⟨[0, 1, 2, 3, 7], ⟨i + 1, s', acc ++ [l], hlt, ⟨by omega, by omega⟩, by rw [List.length_append]; show acc.length + 1 = _; omega, he⟩, And.intro (And.intro rfl (And.intro rfl (And.intro rfl (And.intro rfl (And.intro rfl (And.intro rfl (And.intro (svI (i64_succ i (by omega))) trivial))))))) (And.intro (And.intro rfl rfl) (And.intro rfl (And.intro (And.intro rfl rfl) (And.intro (And.intro rfl rfl) (And.intro (owSee rfl) trivial))))), by show n - (i + 1) < n - i; omega⟩
end Go.Proofs.Ytalploampmdemaa
