/- cover.PutClasses, and the reference's. -/
import Derived.Test.YtblhmanmniglfaaR8
namespace Go.Proofs.Ytblhmanmniglfaa
open Go Go.Eng Go.RowKit

def mxF (l : List Int) : Nat → Int
  | 0 => nth l 0
  | i + 1 => max (mxF l i) (nth l i)
theorem mxF_gt (l : List Int) (m : Int) : ∀ n, 0 < n → (mxF l n > m ↔ ∃ j, j < n ∧ nth l j > m)
  | 0, h => absurd h (Nat.lt_irrefl _)
  | n + 1, _ => by
    show max (mxF l n) (nth l n) > m ↔ _
    rcases Nat.eq_zero_or_pos n with h0 | hpos
    · subst h0
      refine ⟨fun h => ⟨0, by omega, by have : max (nth l 0) (nth l 0) > m := h; omega⟩, fun ⟨j, hj, h⟩ => ?_⟩
      have : j = 0 := by omega
      subst this
      show max (nth l 0) (nth l 0) > m
      omega
    · have ih := mxF_gt l m n hpos
      refine ⟨fun h => ?_, fun ⟨j, hj, h⟩ => ?_⟩
      · by_cases h1 : mxF l n > m
        · obtain ⟨j, hj, h2⟩ := ih.1 h1
          exact ⟨j, by omega, h2⟩
        · exact ⟨n, by omega, by omega⟩
      · by_cases e : j = n
        · subst e; omega
        · have := ih.2 ⟨j, by omega, h⟩; omega
theorem max_c (l : List Int) (v : Value) (w : World) (h0 : 0 < l.length) (hl : l.length ≤ 1000000) (hv : Rd w v 1 bE l) : Calls Try.prog 27 #[v] w fun e w' => e = .returned (.int .u8 (mxF l l.length)) ∧ Below w.heap.size w w' := by
  refine calls_exec (cf := cf) cfok (fn := Try.f27) Try.func27 rfl [.sl 0] [.rd Int inferInstance 1 bE l] (ρ := fun _ => v) (· < w.heap.size) rfl rfl rfl (by simp [svOkL, svOk]) (memRd (fun _ h => h) ⟨hv, trivial⟩) ?_
  refine And.intro (fun h => ?_) (fun _ => ?_)
  · have h : (l.length : Int) < 1 := of_decide_eq_true h
    omega
  refine And.intro (show (0 : Int) ≤ 0 ∧ (0 : Int) < (l.length : Int) from ⟨by omega, by omega⟩) ?_
  refine ⟨{ i : Nat // 1 ≤ i ∧ i ≤ l.length }, fun i => ⟨25, [⟨0, [], .sl 0⟩, ⟨3, [], .v (.int .u8 (mxF l i.1))⟩, ⟨4, [], .v (.int .i64 (i.1 : Int))⟩], [.rd Int inferInstance 1 bE l], [], dropL nats 1⟩,
    fun i => l.length - i.1, ⟨[0], ⟨1, by omega, by omega⟩, ?_⟩, fun i => ?_⟩
  · exact And.intro (And.intro rfl (And.intro (svI (show nth l 0 = max (nth l 0) (nth l 0) by omega)) (And.intro rfl trivial))) (And.intro rfl trivial)
  obtain ⟨i, hi1, hi⟩ := i
  refine And.intro (fun hlt => ?_) (fun hge => ?_)
  · have hlt : i < l.length := by have : (i : Int) < (l.length : Int) := of_decide_eq_true hlt
                                  omega
    refine And.intro (show (0 : Int) ≤ (i : Int) ∧ (i : Int) < (l.length : Int) from ⟨by omega, by omega⟩) ?_
    exact ⟨[0], ⟨i + 1, by omega, hlt⟩, And.intro (And.intro rfl (And.intro rfl (And.intro (svI (i64_succ i (by omega))) trivial))) (And.intro rfl trivial), by show _ - (i + 1) < _ - i; omega⟩
  · have hge : i = l.length := by have : ¬ (i : Int) < (l.length : Int) := of_decide_eq_false hge
                                  omega
    subst hge
    exact fun ρ S w' hi => ⟨rfl, hi.below⟩

/-- where a run ends -/
def endR (l : List Int) (i k : Nat) : Nat := if k < l.length ∧ nth l k = nth l i then endR l i (k + 1) else k
termination_by l.length - k
decreasing_by omega
theorem endR_le (l : List Int) (i k : Nat) (h : k ≤ l.length) : endR l i k ≤ l.length := by
  fun_induction endR l i k with
  | case1 k h1 ih => exact ih (by omega)
  | case2 k h1 => exact h
theorem endR_ge (l : List Int) (i k : Nat) : k ≤ endR l i k := by
  fun_induction endR l i k with
  | case1 k h1 ih => omega
  | case2 k h1 => exact Nat.le_refl _
theorem endR_same (l : List Int) (i k j : Nat) (h : k ≤ j) (hj : j < endR l i k) : nth l j = nth l i := by
  fun_induction endR l i k with
  | case1 k h1 ih =>
    by_cases e : j = k
    · subst e; exact h1.2
    · exact ih (by omega) hj
  | case2 k h1 => omega
theorem endR_self (l : List Int) (i : Nat) (h : i < l.length) : i < endR l i i := by
  unfold endR
  rw [if_pos ⟨h, rfl⟩]
  have := endR_ge l i (i + 1)
  omega
theorem endR_step (l : List Int) (i k : Nat) (h : k < l.length) (he : nth l k = nth l i) : endR l i k = endR l i (k + 1) := by
  rw [endR, if_pos ⟨h, he⟩]
theorem endR_stop (l : List Int) (i k : Nat) (h : ¬ (k < l.length ∧ nth l k = nth l i)) : endR l i k = k := by
  rw [endR, if_neg h]
/-- the row of a run -/
def rowR (l : List Int) (i : Nat) : List Int := if nth l i = 0 then [] else tw i ++ tw ((endR l i i : Int) - 1) ++ tw (IntKind.i64.wrap (nth l i))
def rowsF (l : List Int) (i : Nat) : List Int := if h : i < l.length then rowR l i ++ rowsF l (endR l i i) else []
termination_by l.length - i
decreasing_by have := endR_self l i h; have := endR_le l i i (by omega); omega
def pclX (l : List Int) : Option (List Int) := if l.length > 65535 ∨ ∃ j, j < l.length ∧ nth l j > 4 then none else some ([0, 2] ++ tw (((rowsF l 0).length / 6 : Nat) : Int) ++ rowsF l 0)
/-- the loop over runs -/
structure RS (l : List Int) where
  i : Nat
  hi : i ≤ l.length
  m : Nat
  acc : List Int
  hacc : acc ++ rowsF l i = rowsF l 0
  hm : acc.length = 6 * m
  hmi : m ≤ i
theorem rowR_len (l : List Int) (i : Nat) : (rowR l i).length = if nth l i = 0 then 0 else 6 := by
  unfold rowR; split <;> rfl
def RS.next {l : List Int} (s : RS l) (h : s.i < l.length) : RS l where
  i := endR l s.i s.i
  hi := endR_le l _ _ s.hi
  m := if nth l s.i = 0 then s.m else s.m + 1
  acc := s.acc ++ rowR l s.i
  hacc := by
    have := s.hacc
    rw [rowsF, dif_pos h] at this
    rw [List.append_assoc]; exact this
  hm := by
    rw [List.length_append, rowR_len, s.hm]
    split <;> omega
  hmi := by
    have := endR_self l s.i h
    have := s.hmi
    split <;> omega
def RS.init (l : List Int) : RS l := ⟨0, Nat.zero_le _, 0, [], rfl, rfl, Nat.le_refl _⟩
theorem RS.done {l : List Int} (s : RS l) (h : s.i = l.length) : s.acc = rowsF l 0 ∧ s.m = (rowsF l 0).length / 6 := by
  have h1 := s.hacc
  rw [rowsF, dif_neg (by omega), List.append_nil] at h1
  refine ⟨h1, ?_⟩
  rw [← h1, s.hm]; omega
end Go.Proofs.Ytblhmanmniglfaa
