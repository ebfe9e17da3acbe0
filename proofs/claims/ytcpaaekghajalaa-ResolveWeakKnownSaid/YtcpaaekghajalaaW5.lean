/- What the reference of the neutral classes leans on, in plain Lean: the row without BN. -/
import Derived.Test.YtcpaaekghajalaaW4
namespace Go.Proofs.Ytcpaaekghajalaa
open Go Go.Eng Go.RowKit

abbrev noBN (xs : List Int) : List Int := xs.filter fun c => !decide (c = 10)

theorem tells10 : tells 10 = false := by decide
theorem bh_noBN (e : Int) : ∀ xs, bh e (noBN xs) = bh e xs
  | [] => rfl
  | c :: r => by
    by_cases h : c = 10
    · subst h
      have : noBN (10 :: r) = noBN r := by simp [noBN]
      rw [this, bh_noBN e r]
      simp only [bh, tells10]; rfl
    · have : noBN (c :: r) = c :: noBN r := by simp [noBN, h]
      rw [this]
      simp only [bh, bh_noBN e r]
theorem dA_noBN : ∀ (d : Int) (xs : List Int), dA d (noBN xs) = dA d xs
  | _, [] => rfl
  | d, c :: r => by
    by_cases h : c = 10
    · subst h
      have : noBN (10 :: r) = noBN r := by simp [noBN]
      rw [this, dA_noBN d r]
      simp only [dA, tells10]; rfl
    · have : noBN (c :: r) = c :: noBN r := by simp [noBN, h]
      rw [this]
      simp only [dA, dA_noBN _ r]
theorem noBN_mem {xs : List Int} {j : Nat} (h : j < (noBN xs).length) : nth (noBN xs) j ≠ 10 := by
  rw [nth_eq _ _ h]
  have := List.getElem_mem h
  simp only [noBN, List.mem_filter] at this
  simpa using this.2
theorem noBN_len (xs : List Int) : (noBN xs).length ≤ xs.length := List.length_filter_le _ _
theorem tells_ne {c : Int} (h : c ≠ 10) : tells c = !neuF c := by simp [tells, h]

theorem noBN_snoc (xs : List Int) (i : Nat) (h : i < xs.length) : noBN (xs.take (i + 1)) = if nth xs i = 10 then noBN (xs.take i) else noBN (xs.take i) ++ [nth xs i] := by
  rw [take_succ_nth xs i h, noBN, List.filter_append]
  split
  · rename_i e; simp [e]
  · rename_i e; simp [e]
theorem noBN_at (xs : List Int) (i : Nat) (h : i < xs.length) (hne : nth xs i ≠ 10) :
    (noBN (xs.take i)).length < (noBN xs).length ∧ nth (noBN xs) (noBN (xs.take i)).length = nth xs i ∧ (noBN xs).take (noBN (xs.take i)).length = noBN (xs.take i) ∧ (noBN xs).drop ((noBN (xs.take i)).length + 1) = noBN (xs.drop (i + 1)) := by
  have e : noBN xs = noBN (xs.take i) ++ nth xs i :: noBN (xs.drop (i + 1)) := by
    have h1 : xs = xs.take i ++ nth xs i :: xs.drop (i + 1) := by rw [← drop_nth xs i h, List.take_append_drop]
    have h2 : noBN xs = noBN (xs.take i ++ nth xs i :: xs.drop (i + 1)) := by rw [← h1]
    rw [h2, noBN, List.filter_append, List.filter_cons_of_pos (by simp [hne])]
  refine ⟨by rw [e]; simp, ?_, by rw [e]; simp, by rw [e, List.drop_append]; simp⟩
  rw [nth_eq _ _ (by rw [e]; simp)]
  simp only [e, List.getElem_append_right (Nat.le_refl _)]
  simp

/-- the row without BN, resolved, and put among them again -/
theorem neuX_noBN (xs : List Int) (lv sos eos : Int) (i : Nat) (h : i < xs.length) (hne : nth xs i ≠ 10) :
    nth (neuX xs lv sos eos) i = nth (neuX (noBN xs) lv sos eos) (noBN (xs.take i)).length := by
  obtain ⟨h1, h2, h3, h4⟩ := noBN_at xs i h hne
  rw [neuX_nth _ _ _ _ _ h, neuX_nth _ _ _ _ _ h1, h2, h3, h4, bh_noBN, dA_noBN]

/-- in a run of neutral ones -/
theorem run_dA (d : Int) (ys : List Int) (i : Nat) : ∀ n, (∀ j, i ≤ j → j < i + n → neuF (nth ys j) = true) → i + n ≤ ys.length → dA d (ys.take (i + n)) = dA d (ys.take i)
  | 0, _, _ => rfl
  | n + 1, h, hl => by
    rw [← Nat.add_assoc, dA_step d ys (i + n) (by omega), if_neg (by simp [tells, h (i + n) (by omega) (by omega)]), run_dA d ys i n (fun j h1 h2 => h j h1 (by omega)) (by omega)]
theorem run_bh (e : Int) (ys : List Int) (k : Nat) : ∀ n, n ≤ k → (∀ j, k - n ≤ j → j < k → neuF (nth ys j) = true) → k ≤ ys.length → bh e (ys.drop (k - n)) = bh e (ys.drop k)
  | 0, _, _, _ => rfl
  | n + 1, hn, h, hl => by
    rw [bh_step e ys (k - (n + 1)) (by omega), if_neg (by simp [tells, h (k - (n + 1)) (by omega) (by omega)]), show k - (n + 1) + 1 = k - n from by omega]
    exact run_bh e ys k n (by omega) (fun j h1 h2 => h j (by omega) h2) hl

/-- what a run of neutral ones becomes -/
def runC (ys : List Int) (lv sos eos : Int) (i k : Nat) : Int :=
  if dA (edgeF sos) (ys.take i) = bh (edgeF eos) (ys.drop k) ∧ dA (edgeF sos) (ys.take i) ≠ 0 then dA (edgeF sos) (ys.take i) else sideOf lv
theorem run_nth (ys : List Int) (lv sos eos : Int) (i k j : Nat) (hij : i ≤ j) (hjk : j < k) (hk : k ≤ ys.length) (h : ∀ j, i ≤ j → j < k → neuF (nth ys j) = true) : nth (neuX ys lv sos eos) j = runC ys lv sos eos i k := by
  rw [neuX_nth _ _ _ _ _ (by omega), if_pos (h j hij hjk)]
  have h1 := run_dA (edgeF sos) ys i (j - i) (fun q a b => h q a (by omega)) (by omega)
  have h2 := run_bh (edgeF eos) ys k (k - (j + 1)) (by omega) (fun q a b => h q (by omega) b) hk
  rw [show i + (j - i) = j from by omega] at h1
  rw [show k - (k - (j + 1)) = j + 1 from by omega] at h2
  rw [h1, h2]; rfl
end Go.Proofs.Ytcpaaekghajalaa
