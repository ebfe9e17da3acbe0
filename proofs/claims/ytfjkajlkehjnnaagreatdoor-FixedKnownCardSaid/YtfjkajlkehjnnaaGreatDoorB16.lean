/- What is printed is read as itself, in plain Lean. -/
import Derived.Test.YtfjkajlkehjnnaaGreatDoorB15
set_option maxRecDepth 100000
set_option linter.unusedVariables false
namespace Go.Proofs.YtfjkajlkehjnnaaGreatDoor
open Go Go.Eng Go.RowKit Go.Ar

theorem decA_app (a : Nat) (l : List UInt8) (b : UInt8) : decA a (l ++ [b]) = decA a l * 10 + (b.toNat - 48) := by
  unfold decA; rw [List.foldl_append]; rfl
theorem decA_add : ∀ (l : List UInt8) (a : Nat), decA a l = a * 10 ^ l.length + decA 0 l
  | [], a => by simp [decA]
  | b :: r, a => by
    have h1 : decA a (b :: r) = decA (a * 10 + (b.toNat - 48)) r := rfl
    have h2 : decA 0 (b :: r) = decA (0 * 10 + (b.toNat - 48)) r := rfl
    rw [h1, h2, decA_add r (a * 10 + (b.toNat - 48)), decA_add r (0 * 10 + (b.toNat - 48)), List.length_cons, Nat.pow_succ, Nat.add_mul, Nat.zero_mul, Nat.zero_add, Nat.mul_assoc a 10, Nat.mul_comm 10]
    omega
theorem dig_of {k : Nat} (h : k < 10) : isDig (UInt8.ofNat (48 + k)) = true ∧ (UInt8.ofNat (48 + k)).toNat - 48 = k := by
  have := ofNat_u8 (n := 48 + k) (by omega)
  constructor
  · unfold isDig; simp only [Bool.and_eq_true, decide_eq_true_eq]; omega
  · omega
theorem decA_dd (n : Nat) : decA 0 (Lib.decDigits n) = n ∧ (Lib.decDigits n).all isDig = true := by
  induction n using Nat.strongRecOn with
  | _ n ih =>
    by_cases h : n < 10
    · rw [dd_small h]
      obtain ⟨h1, h2⟩ := dig_of h
      refine ⟨?_, by simp only [List.all_cons, h1, List.all_nil, Bool.and_self]⟩
      show 0 * 10 + ((UInt8.ofNat (48 + n)).toNat - 48) = n
      omega
    · obtain ⟨h1, h2⟩ := ih (n / 10) (by omega)
      obtain ⟨h3, h4⟩ := dig_of (k := n % 10) (Nat.mod_lt _ (by decide))
      rw [dd_big h]
      refine ⟨?_, by simp only [List.all_append, h2, List.all_cons, h3, List.all_nil, Bool.and_self]⟩
      rw [decA_app, h1, h4]
      omega
theorem nd_le : ∀ (k n : Nat), n < 10 ^ (k + 1) → (Lib.decDigits n).length ≤ k + 1
  | 0, n, h => by rw [dd_small (by simpa using h)]; simp
  | k + 1, n, h => by
    by_cases hn : n < 10
    · rw [dd_small hn]; simp
    · rw [dd_big hn, List.length_append, List.length_singleton]
      have := nd_le k (n / 10) (by rw [Nat.pow_succ] at h; omega)
      omega
theorem frac_val : ∀ (f r : Nat), r < 65536 → r * 10 ^ f % 65536 = 0 → decA 0 (fracL f r) * 65536 = r * 10 ^ (fracL f r).length ∧ (fracL f r).all isDig = true
  | 0, r, h, hz => by
    rw [Nat.pow_zero, Nat.mul_one, Nat.mod_eq_of_lt h] at hz
    simp [fracL, decA, hz]
  | f + 1, r, h, hz => by
    by_cases h0 : r = 0
    · subst h0; rw [fracL_zero]; simp [decA]
    · have hz' : r * 10 % 65536 * 10 ^ f % 65536 = 0 := by
        rw [Nat.pow_succ] at hz
        rw [Nat.mod_mul_mod, ← hz]
        congr 1
        rw [Nat.mul_assoc, Nat.mul_comm 10]
      obtain ⟨h1, h2⟩ := frac_val f (r * 10 % 65536) (Nat.mod_lt _ (by decide)) hz'
      obtain ⟨h3, h4⟩ := dig_of (k := r * 10 / 65536) (by omega)
      rw [fracL_succ (by omega)]
      refine ⟨?_, by simp only [List.all_cons, h3, h2, Bool.and_self]⟩
      have e : decA 0 (UInt8.ofNat (48 + r * 10 / 65536) :: fracL f (r * 10 % 65536)) = decA (0 * 10 + ((UInt8.ofNat (48 + r * 10 / 65536)).toNat - 48)) (fracL f (r * 10 % 65536)) := rfl
      rw [e, decA_add, h4, List.length_cons, Nat.pow_succ, Nat.add_mul, h1]
      generalize 10 ^ (fracL f (r * 10 % 65536)).length = p
      have : r * 10 = (r * 10 / 65536) * 65536 + r * 10 % 65536 := by omega
      rw [Nat.mul_comm p 10, ← Nat.mul_assoc r 10 p]
      rw [Nat.zero_mul, Nat.zero_add, Nat.mul_right_comm (r * 10 / 65536) p 65536, ← Nat.add_mul, ← this]
theorem num_map : ∀ (l : List UInt8) (a : Nat), l.all isDig = true → (l.map fun b => UInt8.ofNat (b.toNat - 48)).foldl (fun a b => a * 10 + b.toNat) a = decA a l
  | [], a, _ => rfl
  | b :: r, a, h => by
    simp only [List.all_cons, Bool.and_eq_true] at h
    have hb : 48 ≤ b.toNat ∧ b.toNat ≤ 57 := by simpa [isDig] using h.1
    have hv := ofNat_u8 (n := b.toNat - 48) (by omega)
    rw [List.map_cons, List.foldl_cons, num_map r _ h.2]
    show decA (a * 10 + (UInt8.ofNat (b.toNat - 48)).toNat) r = decA (a * 10 + (b.toNat - 48)) r
    congr 2
    omega
theorem valN_pad (part : List UInt8) (h : part.all isDig = true) : valN part.length (padD part part.length) = decA 0 part := by
  unfold valN padD numA
  rw [List.take_length, List.take_append_of_le_length (by simp), List.take_of_length_le (by simp)]
  exact num_map part 0 h

theorem ne46 {l : List UInt8} (h : l.all isDig = true) : ∀ x ∈ l, decide (x ≠ 46) = true := by
  intro x hx
  have := List.all_eq_true.1 h x hx
  have : 48 ≤ x.toNat ∧ x.toNat ≤ 57 := by simpa [isDig] using this
  refine decide_eq_true fun e => ?_
  subst e
  have h46 : (46 : UInt8).toNat = 46 := rfl
  omega
theorem whole_app {D F : List UInt8} (h : D.all isDig = true) : wholeF (D ++ 46 :: F) = D ∧ partF (D ++ 46 :: F) = F := by
  have h1 := ne46 h
  unfold wholeF partF
  constructor
  · rw [List.takeWhile_append_of_pos h1]; simp
  · rw [List.dropWhile_append_of_pos h1]; simp
theorem no46 {D : List UInt8} (h : D.all isDig = true) : (46 : UInt8) ∉ D := fun hm => by
  have := ne46 h 46 hm
  simp at this

theorem read_body {D F : List UInt8} (neg : Bool) (hD : D.all isDig = true) (hD0 : D ≠ []) (l : List UInt8) (hl : l = (if neg = true then [45] else []) ++ (D ++ F)) : bodyF l = D ++ F ∧ (l.head? == some 45) = neg := by
  subst hl
  cases neg with
  | true => exact ⟨rfl, rfl⟩
  | false =>
    cases D with
    | nil => exact absurd rfl hD0
    | cons a r =>
      simp only [List.all_cons, Bool.and_eq_true] at hD
      have ha : 48 ≤ a.toNat ∧ a.toNat ≤ 57 := by simpa [isDig] using hD.1
      have h45 : ¬ a = 45 := fun e => by subst e; have : (45 : UInt8).toNat = 45 := rfl; omega
      have hh : (((if false = true then [45] else []) ++ (a :: r ++ F) : List UInt8).head? == some 45) = false := by simp [h45]
      refine ⟨?_, hh⟩
      unfold bodyF
      rw [hh]
      rfl

theorem mul_back {N : Nat} (h : ¬ 0 < N % 65536) : N / 65536 * 65536 = N := by omega
theorem read_print (n : Int) (h1 : -9223372036854775808 ≤ n) (h2 : n ≤ 9223372036854775807) : readF (printB n) = (n, 0) ∧ (printB n).length ≤ 40 ∧ decA 0 (wholeF (bodyF (printB n))) ≤ 140737488355328 := by
  obtain ⟨d1, d2⟩ := decA_dd (n.natAbs / 65536)
  have d3 := dd_ne (n.natAbs / 65536)
  have d4 : (Lib.decDigits (n.natAbs / 65536)).length ≤ 15 := nd_le 14 _ (by omega)
  obtain ⟨f1, f2⟩ := frac_val 16 (n.natAbs % 65536) (Nat.mod_lt _ (by decide)) (pow16 _)
  have f3 := fracL_len 16 (n.natAbs % 65536)
  obtain ⟨D, hD⟩ : ∃ D, D = Lib.decDigits (n.natAbs / 65536) := ⟨_, rfl⟩
  obtain ⟨F, hF⟩ : ∃ F, F = fracL 16 (n.natAbs % 65536) := ⟨_, rfl⟩
  have hp : printB n = (if decide (n < 0) = true then [45] else []) ++ (D ++ ((if 0 < n.natAbs % 65536 then [46] else []) ++ F)) := by
    unfold printB
    rw [← hD, ← hF]
    by_cases hn : n < 0 <;> simp [hn]
  rw [← hD] at d1 d2 d3 d4
  rw [← hF] at f1 f2 f3
  obtain ⟨b1, b2⟩ := read_body (decide (n < 0)) d2 d3 _ hp
  have hDd : isDigs D = true := by unfold isDigs; cases D with
    | nil => exact absurd rfl d3
    | cons a r => simpa using d2
  have hlen : (printB n).length ≤ 33 := by
    rw [hp]
    split <;> split <;> simp only [List.length_append, List.length_singleton, List.length_nil] <;> omega
  have hsg : sgnF n.natAbs (decide (n < 0)) = (n, 0) := by
    unfold sgnF
    by_cases hn : n < 0
    · rw [decide_eq_true hn]
      have : n.natAbs ≤ 9223372036854775808 := by omega
      simp [this]
      omega
    · rw [decide_eq_false hn]
      have : ¬ n.natAbs > 9223372036854775807 := by omega
      simp [this]
      omega
  by_cases hr : 0 < n.natAbs % 65536
  · rw [if_pos hr] at b1 hp
    obtain ⟨w1, w2⟩ := whole_app (F := F) d2
    have b1 : bodyF (printB n) = D ++ 46 :: F := b1
    have hF0 : F ≠ [] := by
      rw [hF, fracL_succ (f := 15) hr]; simp
    have hFd : isDigs F = true := by unfold isDigs; cases F with
      | nil => exact absurd rfl hF0
      | cons a r => simpa using f2
    have hbad : badF (printB n) = false := by
      unfold badF
      rw [b1, w1, w2, hDd, hFd, decide_eq_false (show ¬ (printB n).length > 40 by omega)]
      simp
    have hFl : F.length ≤ 40 := by omega
    have hsum : sumF F.length (n.natAbs / 65536) (padD F F.length) = n.natAbs := by
      rw [sum_val _ _ _ (by rw [padD_len F (Nat.le_refl _) hFl]; exact hFl) (padD_dig F f2 _), valN_pad F f2, f1]
      have hpp : 0 < 10 ^ F.length := Nat.pow_pos (by decide)
      rw [Nat.mul_div_cancel _ hpp, Nat.mul_mod_left]
      rw [Nat.mul_zero, if_neg (Nat.not_le.2 hpp), Nat.add_zero, Nat.mul_comm]
      exact Nat.div_add_mod n.natAbs 65536
    refine ⟨?_, by omega, by rw [b1, w1, d1]; omega⟩
    have hb' : ¬ badF (printB n) = true := by rw [hbad]; exact Bool.false_ne_true
    have hw' : ¬ decA 0 (wholeF (bodyF (printB n))) > 140737488355328 := by rw [b1, w1, d1]; omega
    unfold readF
    rw [if_neg hb', if_neg hw', b1, w1, w2, d1, b2]
    simp only [hsum, hsg, if_true]
  · rw [if_neg hr] at b1 hp
    have hF0 : F = [] := by
      rw [hF, show n.natAbs % 65536 = 0 by omega, fracL_zero]
    have b1 : bodyF (printB n) = D := by rw [b1, hF0]; simp
    obtain ⟨w1, w2⟩ := tw_none D (no46 d2)
    have hbad : badF (printB n) = false := by
      unfold badF
      rw [b1, w1, hDd, decide_eq_false (show ¬ (printB n).length > 40 by omega), decide_eq_false (no46 d2)]
      simp
    have hdv : n.natAbs / 65536 * 65536 = n.natAbs := mul_back hr
    have hsum : sumF ([] : List UInt8).length (n.natAbs / 65536) (padD [] ([] : List UInt8).length) = n.natAbs := by
      have h0 := sum_val ([] : List UInt8).length (n.natAbs / 65536) (padD [] ([] : List UInt8).length) (Nat.zero_le _) (padD_dig [] rfl _)
      rw [valN_pad [] rfl, show decA 0 ([] : List UInt8) = 0 from rfl, List.length_nil, Nat.pow_zero, Nat.zero_mul, Nat.zero_div, if_neg (by decide), hdv] at h0
      exact h0
    refine ⟨?_, by omega, by rw [b1, w1, d1]; omega⟩
    have hb' : ¬ badF (printB n) = true := by rw [hbad]; exact Bool.false_ne_true
    have hw' : ¬ decA 0 (wholeF (bodyF (printB n))) > 140737488355328 := by rw [b1, w1, d1]; omega
    unfold readF
    rw [if_neg hb', if_neg hw', b1, w1, w2, d1, b2]
    simp only [hsum, hsg, if_true]
end Go.Proofs.YtfjkajlkehjnnaaGreatDoor
