/- gsub.parser.glyph, row, some. -/
import Derived.Test.YtalploampmdemaaM1
set_option maxRecDepth 100000
set_option linter.unusedVariables false
namespace Go.Proofs.Ytalploampmdemaa
open Go Go.Eng Go.RowKit

theorem u16_id (n : Int) (h0 : 0 ≤ n) (h1 : n ≤ 65535) : IntKind.u16.wrap n = n := by rw [IntKind.wrap_u16]; omega
theorem glyph_s (b : List Int) (g L n s : Int) (hn : 0 ≤ n ∧ n ≤ 65535) (hs : 0 ≤ s ∧ s ≤ 65536) : LCall Try.prog ⟨0, [], paC b g L s, [], []⟩ 61 [.bx 3 0, .v (.int .i64 n)]
    (fun st' r => (s + 1 ≤ 65536 ∧ n < g) ∧ st'.ch = paC b g L (s + 1) ∧ r = .v (.int .u16 n)) (fun pc' st' => ¬ (s + 1 ≤ 65536 ∧ n < g) ∧ st'.ch = deC b ∧ pc' = wrongP) := by
  refine lcall_execP (cf := cf) cfok (fn := Try.f61) Try.func61 rfl _ _ _ (paC b g L (s + 1)) (.v (.int .u16 n)) _ (deC b) wrongP rfl rfl (by simp [svOkL, svOk]) rfl (by exact ⟨trivial, ⟨Nat.le_refl _, rfl⟩, trivial, trivial, trivial⟩) (by exact ⟨trivial, ⟨Nat.le_refl _, rfl⟩, trivial, trivial, trivial⟩) rfl rfl rfl ?_
  refine Or.inr (lcall_subP [0, 1, 2, 3] (count_s b g L s 1 hs ⟨by omega, by omega⟩) rfl rfl rfl rfl rfl rfl rfl (And.intro (And.intro rfl rfl) (And.intro rfl (And.intro (And.intro rfl rfl) (And.intro (And.intro rfl rfl) trivial)))) (fun h1 => ?_) (fun h1 => ?_))
  rotate_left
  · exact ⟨by omega, rfl, [0, 1, 2, 3], rfl, rfl, rfl, And.intro trivial (And.intro rfl (And.intro trivial (And.intro trivial trivial)))⟩
  refine subSt_out (paC b g L (s + 1)) [0, 1, 2, 3] rfl rfl ?_
  have e0 : decide (n ≥ 0) = true := decide_eq_true hn.1
  refine Or.inr (lcall_need _ (fun h2 => ?_) (fun h2 => ?_))
  rotate_left
  · have h2 : (decide (n ≥ 0) && decide (n < g)) = false := h2
    rw [e0, Bool.true_and] at h2
    have := of_decide_eq_false h2
    exact ⟨fun h => this h.2, rfl, [0, 1, 2, 3], rfl, rfl, rfl, And.intro trivial (And.intro rfl (And.intro trivial (And.intro trivial trivial)))⟩
  have h2 : (decide (n ≥ 0) && decide (n < g)) = true := h2
  rw [e0, Bool.true_and] at h2
  have h2 := of_decide_eq_true h2
  exact ⟨⟨h1, h2⟩, [0, 1, 2, 3], rfl, rfl, rfl, (And.intro (And.intro rfl rfl) (And.intro rfl (And.intro (And.intro rfl rfl) (And.intro (And.intro rfl rfl) trivial)))), congrArg (fun z : Int => SV.v (.int .u16 z)) (u16_id n hn.1 hn.2)⟩

/-- a word's place, a glyph read there -/
def gAt (b : List Int) (g a s : Int) : Option Int := if outR b a 2 = true then none else if ¬ (s + 1 ≤ 65536 ∧ wA b a < g) then none else some (wA b a)
def rLoop (b : List Int) (g a : Int) : Nat → Nat → Int → List Int → Option (List Int × Int)
  | 0, _, s, acc => some (acc, s)
  | m + 1, i, s, acc => match gAt b g (a + 2 * (i : Int)) s with
    | none => none
    | some x => rLoop b g a m (i + 1) (s + 1) (acc ++ [x])
def rowX (b : List Int) (g a s : Int) (n : Nat) : Option (List Int × Int) := rLoop b g a n 0 s []
structure Sr (b : List Int) (g a : Int) (n : Nat) (X : Option (List Int × Int)) where
  i : Nat
  s : Int
  acc : List Int
  hi : i ≤ n
  hs : 0 ≤ s ∧ s ≤ 65536
  hl : acc.length = i
  e : rLoop b g a (n - i) i s acc = X
theorem owWe {a b : List Int} (h : a = b) : owW a = owW b := by rw [h]
set_option maxHeartbeats 1000000 in
theorem prow_s (b : List Int) (g L a s : Int) (n : Nat) (hB : Byt b) (hb : b.length ≤ 100000) (ha : 0 ≤ a ∧ a ≤ 100000000) (hn : n ≤ 65535) (hs : 0 ≤ s ∧ s ≤ 65536) (X : Option (List Int × Int)) (hX : rowX b g a s n = X) : LCall Try.prog ⟨0, [], paC b g L s, [], []⟩ 65 [.bx 3 0, .v (.int .i64 a), .v (.int .i64 (n : Int))]
    (fun st' r => X ≠ none ∧ st'.ch = paC b g L (X.getD ([], 0)).2 ++ [owW (X.getD ([], 0)).1] ∧ r = .sl 4) (fun pc' st' => X = none ∧ st'.ch = deC b ∧ pc' = wrongP) := by
  refine lcall_execP (cf := cf) cfok (fn := Try.f65) Try.func65 rfl _ _ _ (paC b g L (X.getD ([], 0)).2 ++ [owW (X.getD ([], 0)).1]) (.sl 4) _ (deC b) wrongP rfl rfl (by simp [svOkL, svOk]) rfl (by exact ⟨trivial, ⟨Nat.le_refl _, rfl⟩, trivial, trivial, trivial⟩) (by exact ⟨trivial, ⟨Nat.le_refl _, rfl⟩, trivial, trivial, trivial⟩) rfl rfl rfl ?_
  refine ⟨Sr b g a n X, fun q => ⟨26, [⟨0, [], .bx 3 0⟩, ⟨1, [], .v (.int .i64 a)⟩, ⟨7, [], .sl 4⟩, ⟨9, [], .v (.int .i64 (n : Int))⟩, ⟨10, [], .v (.int .i64 (q.i : Nat))⟩], paC b g L q.s ++ [owW q.acc], [], dropL nats 5⟩, fun q => n - q.i, ⟨[0, 1, 2, 3, 1000], ⟨0, s, [], by omega, hs, rfl, by rw [Nat.sub_zero]; exact hX⟩, ?_⟩, fun q => ?_⟩
  · exact And.intro (And.intro rfl (And.intro rfl (And.intro rfl (And.intro rfl (And.intro rfl trivial))))) (And.intro (And.intro rfl rfl) (And.intro rfl (And.intro (And.intro rfl rfl) (And.intro (And.intro rfl rfl) (And.intro rfl trivial)))))
  obtain ⟨i, s, acc, hi, hs, hl, he⟩ := q
  refine And.intro (fun hlt => ?_) (fun hge => ?_)
  rotate_left
  · have hge : i = n := by
      have : ¬ ((i : Nat) : Int) < ((n : Nat) : Int) := of_decide_eq_false hge
      omega
    rw [hge, Nat.sub_self, rLoop] at he
    subst he
    exact ⟨by simp, [0, 1, 2, 3, 4], rfl, rfl, rfl, (And.intro (And.intro rfl rfl) (And.intro rfl (And.intro (And.intro rfl rfl) (And.intro (And.intro rfl rfl) (And.intro rfl trivial))))), rfl⟩
  have hlt : i < n := by
    have : ((i : Nat) : Int) < ((n : Nat) : Int) := of_decide_eq_true hlt
    omega
  have ei : IntKind.i64.wrap (a + IntKind.i64.wrap (2 * (i : Int))) = a + 2 * (i : Int) := by rw [i64_id (2 * (i : Int)) (by omega) (by omega), i64_id _ (by omega) (by omega)]
  have hw := wA_range hB (a + 2 * (i : Int))
  rw [show n - i = (n - (i + 1)) + 1 by omega, rLoop] at he
  refine Or.inr (lcall_subP [0, 1, 2, 3] (word_s b g L s (a + 2 * (i : Int)) hB hb (i64_id _ (by omega) (by omega))) (congrArg (fun z : Int => [SV.bx 3 0, .v (.int .i64 z)]) ei) rfl rfl rfl rfl rfl rfl (And.intro (And.intro rfl rfl) (And.intro rfl (And.intro (And.intro rfl rfl) (And.intro (And.intro rfl rfl) trivial)))) (fun h1 => ?_) (fun h1 => ?_))
  rotate_left
  · exact ⟨by rw [← he, gAt, if_pos h1], rfl, [0, 1, 2, 3], rfl, rfl, rfl, And.intro trivial (And.intro rfl (And.intro trivial (And.intro trivial trivial)))⟩
  refine subSt_out (paC b g L s ++ [owW acc]) [0, 1, 2, 3] rfl rfl ?_
  refine Or.inr (lcall_subP [0, 1, 2, 3] (glyph_s b g L (wA b (a + 2 * (i : Int))) s hw hs) rfl rfl rfl rfl rfl rfl rfl (And.intro (And.intro rfl rfl) (And.intro rfl (And.intro (And.intro rfl rfl) (And.intro (And.intro rfl rfl) trivial)))) (fun h2 => ?_) (fun h2 => ?_))
  rotate_left
  · exact ⟨by rw [← he, gAt, if_neg (by rw [h1]; decide), if_pos h2], rfl, [0, 1, 2, 3], rfl, rfl, rfl, And.intro trivial (And.intro rfl (And.intro trivial (And.intro trivial trivial)))⟩
  refine subSt_out (paC b g L (s + 1) ++ [owW acc]) [0, 1, 2, 3] rfl rfl ?_
  rw [gAt, if_neg (by rw [h1]; decide), if_neg (fun h => h h2)] at he
  refine ⟨[wA b (a + 2 * (i : Int))], ⟨rfl, rfl, by simp⟩, by show (acc.length + 1) * 2 ≤ _; omega, ?_⟩
  exact ⟨[0, 1, 2, 3, 6], ⟨i + 1, s + 1, acc ++ [wA b (a + 2 * (i : Int))], hlt, ⟨by omega, by omega⟩, by rw [List.length_append]; show acc.length + 1 = _; omega, he⟩, And.intro (And.intro rfl (And.intro rfl (And.intro rfl (And.intro rfl (And.intro (svI (i64_succ i (by omega))) trivial))))) (And.intro (And.intro rfl rfl) (And.intro rfl (And.intro (And.intro rfl rfl) (And.intro (And.intro rfl rfl) (And.intro (owWe rfl) trivial))))), by show n - (i + 1) < n - i; omega⟩

theorem row_rng {b : List Int} {g a : Int} : ∀ (m i : Nat) (s : Int) (acc : List Int) (r : List Int × Int), rLoop b g a m i s acc = some r → r.1.length = acc.length + m ∧ r.2 = s + m ∧ (s ≤ 65536 → r.2 ≤ 65536)
  | 0, _, s, acc, r, h => by cases h; exact ⟨rfl, by show s = s + ((0 : Nat) : Int); omega, id⟩
  | m + 1, i, s, acc, r, h => by
    rw [rLoop] at h
    unfold gAt at h
    split at h
    · cases h
    · rename_i x hx
      split at hx
      · cases hx
      · split at hx
        · cases hx
        · rename_i h2
          have h2 : s + 1 ≤ 65536 := by
            have := Decidable.not_not.1 h2
            exact this.1
          obtain ⟨h3, h4, h5⟩ := row_rng m (i + 1) (s + 1) _ r h
          rw [List.length_append] at h3
          refine ⟨by rw [h3]; simp only [List.length_cons, List.length_nil]; omega, by omega, fun _ => h5 h2⟩
def someX (b : List Int) (g a s : Int) : Option (List Int × Int) := if outR b a 2 = true then none else if ¬ wA b a > 0 then none else rowX b g (a + 2) s (wA b a).toNat
theorem some_len {b : List Int} {g a s : Int} (hB : Byt b) (hs : s ≤ 65536) {r : List Int × Int} (h : someX b g a s = some r) : 0 < r.1.length ∧ r.1.length ≤ 65535 ∧ r.2 = s + r.1.length ∧ r.2 ≤ 65536 := by
  unfold someX at h
  split at h
  · cases h
  · split at h
    · cases h
    · obtain ⟨h3, h4, h5⟩ := row_rng _ _ _ _ _ h
      have := wA_range hB a
      have h3 : r.1.length = 0 + (wA b a).toNat := h3
      exact ⟨by omega, by omega, by omega, h5 hs⟩
theorem some_s (b : List Int) (g L a s : Int) (hB : Byt b) (hb : b.length ≤ 100000) (ha : 0 ≤ a ∧ a ≤ 10000000) (hs : 0 ≤ s ∧ s ≤ 65536) (X : Option (List Int × Int)) (hX : someX b g a s = X) : LCall Try.prog ⟨0, [], paC b g L s, [], []⟩ 63 [.bx 3 0, .v (.int .i64 a)]
    (fun st' r => X ≠ none ∧ st'.ch = paC b g L (X.getD ([], 0)).2 ++ [owW (X.getD ([], 0)).1] ∧ r = .sl 4) (fun pc' st' => X = none ∧ st'.ch = deC b ∧ pc' = wrongP) := by
  refine lcall_execP (cf := cf) cfok (fn := Try.f63) Try.func63 rfl _ _ _ (paC b g L (X.getD ([], 0)).2 ++ [owW (X.getD ([], 0)).1]) (.sl 4) _ (deC b) wrongP rfl rfl (by simp [svOkL, svOk]) rfl (by exact ⟨trivial, ⟨Nat.le_refl _, rfl⟩, trivial, trivial, trivial⟩) (by exact ⟨trivial, ⟨Nat.le_refl _, rfl⟩, trivial, trivial, trivial⟩) rfl rfl rfl ?_
  unfold someX at hX
  have hw := wA_range hB a
  refine Or.inr (lcall_subP [0, 1, 2, 3] (word_s b g L s a hB hb (i64_id _ (by omega) (by omega))) rfl rfl rfl rfl rfl rfl rfl (And.intro (And.intro rfl rfl) (And.intro rfl (And.intro (And.intro rfl rfl) (And.intro (And.intro rfl rfl) trivial)))) (fun h1 => ?_) (fun h1 => ?_))
  rotate_left
  · exact ⟨by rw [← hX, if_pos h1], rfl, [0, 1, 2, 3], rfl, rfl, rfl, And.intro trivial (And.intro rfl (And.intro trivial (And.intro trivial trivial)))⟩
  refine subSt_out (paC b g L s) [0, 1, 2, 3] rfl rfl ?_
  rw [if_neg (by rw [h1]; decide)] at hX
  refine Or.inr (lcall_need _ (fun h2 => ?_) (fun h2 => ?_))
  rotate_left
  · have h2 : ¬ wA b a > 0 := of_decide_eq_false h2
    exact ⟨by rw [← hX, if_pos h2], rfl, [0, 1, 2, 3], rfl, rfl, rfl, And.intro trivial (And.intro rfl (And.intro trivial (And.intro trivial trivial)))⟩
  have h2 : wA b a > 0 := of_decide_eq_true h2
  rw [if_neg (fun h => h h2)] at hX
  obtain ⟨n, hn⟩ : ∃ n : Nat, n = (wA b a).toNat := ⟨_, rfl⟩
  rw [← hn] at hX
  have hnn : wA b a = (n : Int) := by omega
  have ea : IntKind.i64.wrap (a + 2) = a + 2 := i64_id _ (by omega) (by omega)
  have hargs : [SV.bx 3 0, .v (.int .i64 (IntKind.i64.wrap (a + 2))), .v (.int .i64 (wA b a))] = [SV.bx 3 0, .v (.int .i64 (a + 2)), .v (.int .i64 (n : Int))] := by rw [ea, hnn]
  cases hr : rowX b g (a + 2) s n with
  | none =>
    rw [hr] at hX
    refine Or.inr (lcall_subP [0, 1, 2, 3] (prow_s b g L (a + 2) s n hB hb ⟨by omega, by omega⟩ (by omega) hs none hr) hargs rfl rfl rfl rfl rfl rfl (And.intro (And.intro rfl rfl) (And.intro rfl (And.intro (And.intro rfl rfl) (And.intro (And.intro rfl rfl) trivial)))) (fun h => absurd rfl h) (fun _ => ?_))
    exact ⟨hX.symm, rfl, [0, 1, 2, 3], rfl, rfl, rfl, And.intro trivial (And.intro rfl (And.intro trivial (And.intro trivial trivial)))⟩
  | some r =>
    obtain ⟨l, s'⟩ := r
    rw [hr] at hX
    subst hX
    refine Or.inr (lcall_subP [0, 1, 2, 3] (prow_s b g L (a + 2) s n hB hb ⟨by omega, by omega⟩ (by omega) hs (some (l, s')) hr) hargs rfl rfl rfl rfl rfl rfl (And.intro (And.intro rfl rfl) (And.intro rfl (And.intro (And.intro rfl rfl) (And.intro (And.intro rfl rfl) trivial)))) (fun _ => ?_) (fun h => by cases h))
    exact ⟨by simp, [0, 1, 2, 3, 4], rfl, rfl, rfl, (And.intro (And.intro rfl rfl) (And.intro rfl (And.intro (And.intro rfl rfl) (And.intro (And.intro rfl rfl) (And.intro rfl trivial))))), rfl⟩
end Go.Proofs.Ytalploampmdemaa
