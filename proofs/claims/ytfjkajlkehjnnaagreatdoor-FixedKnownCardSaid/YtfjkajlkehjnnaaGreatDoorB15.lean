/- What the bits of a part add up to, in plain Lean. -/
import Derived.Test.YtfjkajlkehjnnaaGreatDoorB9
import Derived.Test.YtfjkajlkehjnnaaGreatDoorB14
set_option maxRecDepth 100000
set_option linter.unusedVariables false
namespace Go.Proofs.YtfjkajlkehjnnaaGreatDoor
open Go Go.Eng Go.RowKit

/-- the first digits' value -/
def numA (l : List UInt8) : Nat := l.foldl (fun a b => a * 10 + b.toNat) 0
def valN (n : Nat) (ds : List UInt8) : Nat := numA (ds.take n)
theorem numA_snoc (l : List UInt8) (b : UInt8) : numA (l ++ [b]) = numA l * 10 + b.toNat := by
  unfold numA; rw [List.foldl_append]; rfl
theorem valN_succ {n : Nat} {ds : List UInt8} (h : n < ds.length) : valN (n + 1) ds = valN n ds * 10 + (nth ds n).toNat := by
  unfold valN
  rw [List.take_succ_eq_append_getElem h, numA_snoc, nth_eq ds n h]
theorem valN_set {n j : Nat} {ds : List UInt8} {x : UInt8} (h : n ≤ j) : valN n (ds.set j x) = valN n ds := by
  unfold valN
  rw [List.take_set, List.set_eq_of_length_le (by simp; omega)]
theorem fold_lt : ∀ (l : List UInt8) (a : Nat), dig10 l → l.foldl (fun a b => a * 10 + b.toNat) a < (a + 1) * 10 ^ l.length
  | [], a, _ => by simp
  | b :: r, a, h => by
    have h1 := fold_lt r (a * 10 + b.toNat) (fun x hx => h x (List.mem_cons_of_mem _ hx))
    have h2 := h b (by simp)
    have h3 := Nat.mul_le_mul_right (10 ^ r.length) (show a * 10 + b.toNat + 1 ≤ (a + 1) * 10 by omega)
    rw [List.foldl_cons, List.length_cons, Nat.pow_succ, Nat.mul_comm (10 ^ r.length) 10, ← Nat.mul_assoc]
    omega
theorem numA_lt (l : List UInt8) (h : dig10 l) : numA l < 10 ^ l.length := by
  have := fold_lt l 0 h
  unfold numA
  omega
theorem valN_lt {n : Nat} {ds : List UInt8} (h : dig10 ds) (hn : n ≤ ds.length) : valN n ds < 10 ^ n := by
  have := numA_lt (ds.take n) (fun x hx => h x (List.mem_of_mem_take hx))
  rw [List.length_take, Nat.min_eq_left hn] at this
  exact this

theorem dblGo_keep : ∀ (j : Nat) (ds : List UInt8) (c i : Nat), j ≤ i → nth (dblGo j ds c).1 i = nth ds i
  | 0, ds, c, i, _ => rfl
  | j + 1, ds, c, i, h => by
    rw [dblGo, dblGo_keep j _ _ i (by omega)]
    simp only [nth, List.getD_eq_getElem?_getD]
    rw [List.getElem?_set_ne (by omega)]
theorem dblGo_val : ∀ (j : Nat) (ds : List UInt8) (c : Nat), j ≤ ds.length → dig10 ds → c ≤ 1 →
    (dblGo j ds c).2 * 10 ^ j + valN j (dblGo j ds c).1 = 2 * valN j ds + c
  | 0, ds, c, _, _, _ => by simp [dblGo, valN, numA]
  | j + 1, ds, c, hj, hd, hc => by
    have h1 := dig10_nth hd (j := j) (by omega)
    obtain ⟨x, hx⟩ : ∃ x, x = 2 * (nth ds j).toNat + c := ⟨_, rfl⟩
    have hok := dblGo_ok j (ds.set j (UInt8.ofNat (x % 10))) (x / 10) (by rw [List.length_set]; omega) (dig10_set hd j (Nat.mod_lt _ (by decide))) (by omega)
    have ih := dblGo_val j (ds.set j (UInt8.ofNat (x % 10))) (x / 10) (by rw [List.length_set]; omega) (dig10_set hd j (Nat.mod_lt _ (by decide))) (by omega)
    have hk := dblGo_keep j (ds.set j (UInt8.ofNat (x % 10))) (x / 10) j (Nat.le_refl _)
    have e0 : dblGo (j + 1) ds c = dblGo j (ds.set j (UInt8.ofNat (x % 10))) (x / 10) := by rw [hx]; rfl
    rw [e0]
    rw [valN_set (Nat.le_refl _)] at ih
    have hl : j < (dblGo j (ds.set j (UInt8.ofNat (x % 10))) (x / 10)).1.length := by rw [hok.2.1, List.length_set]; omega
    rw [valN_succ hl, valN_succ (by omega : j < ds.length), hk]
    have hn : (nth (ds.set j (UInt8.ofNat (x % 10))) j).toNat = x % 10 := by
      rw [nth_set _ _ _ _ (by omega), if_pos rfl, UInt8.toNat_ofNat_of_lt' (by simp [UInt8.size]; omega)]
    rw [hn, Nat.pow_succ, ← Nat.mul_assoc]
    generalize (dblGo j (ds.set j (UInt8.ofNat (x % 10))) (x / 10)).2 * 10 ^ j = p at *
    omega

theorem bits_val (n : Nat) : ∀ (k w : Nat) (ds : List UInt8), n ≤ ds.length → dig10 ds →
    (bitsF n k w ds).1 = w * 2 ^ k + valN n ds * 2 ^ k / 10 ^ n ∧ valN n (bitsF n k w ds).2 = valN n ds * 2 ^ k % 10 ^ n ∧ dig10 (bitsF n k w ds).2 ∧ (bitsF n k w ds).2.length = ds.length
  | 0, w, ds, hn, hd => by
    have := valN_lt hd hn
    refine ⟨?_, ?_, hd, rfl⟩
    · simp [bitsF, Nat.div_eq_of_lt this]
    · simp [bitsF, Nat.mod_eq_of_lt this]
  | k + 1, w, ds, hn, hd => by
    have hv := dblGo_val n ds 0 hn hd (by decide)
    obtain ⟨g1, g2, g3⟩ := dblGo_ok n ds 0 hn hd (by decide)
    obtain ⟨h1, h2, h3, h4⟩ := bits_val n k (w * 2 + (dblGo n ds 0).2) (dblGo n ds 0).1 (by rw [g2]; exact hn) g1
    rw [bitsF]
    have hlt := valN_lt g1 (n := n) (by rw [g2]; exact hn)
    have hp : 0 < 10 ^ n := Nat.pow_pos (by decide)
    generalize (dblGo n ds 0).1 = ds' at *
    generalize (dblGo n ds 0).2 = c at *
    have hs : valN n ds * 2 ^ (k + 1) = c * 2 ^ k * 10 ^ n + valN n ds' * 2 ^ k := by
      have : valN n ds * 2 = c * 10 ^ n + valN n ds' := by omega
      rw [Nat.pow_succ, Nat.mul_comm (2 ^ k) 2, ← Nat.mul_assoc, this, Nat.add_mul, Nat.mul_right_comm]
    refine ⟨?_, ?_, h3, by rw [h4, g2]⟩
    · rw [h1, hs, Nat.mul_comm (c * 2 ^ k) (10 ^ n), Nat.mul_add_div hp, Nat.add_mul, Nat.pow_succ, Nat.mul_assoc w 2, Nat.mul_comm 2 (2 ^ k)]
      omega
    · rw [h2, hs, Nat.mul_comm (c * 2 ^ k) (10 ^ n), Nat.mul_add_mod]

theorem sum_val (n w : Nat) (ds : List UInt8) (hn : n ≤ ds.length) (hd : dig10 ds) :
    sumF n w ds = w * 65536 + valN n ds * 65536 / 10 ^ n + (if 10 ^ n ≤ 2 * (valN n ds * 65536 % 10 ^ n) then 1 else 0) := by
  obtain ⟨h1, h2, h3, h4⟩ := bits_val n 16 w ds hn hd
  have hv := dblGo_val n (bitsF n 16 w ds).2 0 (by rw [h4]; exact hn) h3 (by decide)
  obtain ⟨g1, g2, g3⟩ := dblGo_ok n (bitsF n 16 w ds).2 0 (by rw [h4]; exact hn) h3 (by decide)
  have hlt := valN_lt g1 (n := n) (by rw [g2, h4]; exact hn)
  unfold sumF
  rw [h1]
  rw [h2] at hv
  have e : ((dblGo n (bitsF n 16 w ds).2 0).2 = 1) ↔ (10 ^ n ≤ 2 * (valN n ds * 65536 % 10 ^ n)) := by
    generalize (dblGo n (bitsF n 16 w ds).2 0).2 = c at *
    generalize valN n (dblGo n (bitsF n 16 w ds).2 0).1 = v at *
    have hv : c * 10 ^ n + v = 2 * (valN n ds * 65536 % 10 ^ n) := hv
    constructor
    · intro h; rw [h] at hv; omega
    · intro h
      have : c ≠ 0 := by intro h0; rw [h0] at hv; omega
      omega
  by_cases h : (10 ^ n ≤ 2 * (valN n ds * 65536 % 10 ^ n))
  · rw [if_pos h, if_pos (e.2 h)]
  · rw [if_neg h, if_neg (fun h2 => h (e.1 h2))]
end Go.Proofs.YtfjkajlkehjnnaaGreatDoor
