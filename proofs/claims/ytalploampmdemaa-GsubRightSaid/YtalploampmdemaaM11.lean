/- calamuskit.below, rising, sets. -/
import Derived.Test.YtalploampmdemaaM10
set_option maxRecDepth 100000
set_option linter.unusedVariables false
namespace Go.Proofs.Ytalploampmdemaa
open Go Go.Eng Go.RowKit

/-- of no number below n -/
def allN (c : Nat → Bool) (n : Nat) : Bool := (List.range n).all (fun i => !c i)
theorem allN_true {c : Nat → Bool} {n : Nat} (h : ∀ j, j < n → c j = false) : allN c n = true := by
  unfold allN
  rw [List.all_eq_true]
  intro x hx
  rw [h x (List.mem_range.1 hx)]; rfl
theorem allN_false {c : Nat → Bool} {n i : Nat} (hi : i < n) (h : c i = true) : allN c n = false := by
  unfold allN
  rw [List.all_eq_false]
  exact ⟨i, List.mem_range.2 hi, by rw [h]; simp⟩
theorem allN_of {c : Nat → Bool} {n : Nat} (h : allN c n = true) (j : Nat) (hj : j < n) : c j = false := by
  cases hc : c j with
  | false => rfl
  | true => rw [allN_false hj hc] at h; cases h
def pre (i : Nat) : Nat := (IntKind.i64.wrap ((i : Int) - 1)).toNat
theorem pre_eq {i : Nat} (h : 0 < i) (h2 : i ≤ 1000000000000000) : pre i = i - 1 := by
  unfold pre
  rw [i64_id _ (by omega) (by omega)]; omega
theorem bnd {i n : Nat} (hlt : i < n) (hl : n ≤ 1000000000000000) (h : decide ((i : Int) > 0) = true) : 0 ≤ IntKind.i64.wrap ((i : Int) - 1) ∧ IntKind.i64.wrap ((i : Int) - 1) < (n : Int) := by
  have h : (i : Int) > 0 := of_decide_eq_true h
  rw [i64_id _ (by omega) (by omega)]; omega
def cBe (l : List Int) (g : Int) (i : Nat) : Bool := decide (IntKind.i64.wrap (nth l i) ≥ g)
def cRi (l : List Int) (g : Int) (i : Nat) : Bool := decide (IntKind.i64.wrap (nth l i) ≥ g) || (decide ((i : Int) > 0) && decide (nth l i ≤ nth l (pre i)))
def rBe (l : List Int) (g : Int) : Bool := allN (cBe l g) l.length
def rRi (l : List Int) (g : Int) : Bool := allN (cRi l g) l.length
def cSe (xs : List (List Int)) (g : Int) (i : Nat) : Bool := decide (((nth xs i).length : Int) = 0) || !rRi (nth xs i) g
def rSe (xs : List (List Int)) (g : Int) : Bool := allN (cSe xs g) xs.length
theorem below_c (l : List Int) (g : Int) (hl : l.length ≤ 140737488351232) (v : Value) (w : World) (r : Rd w v 1 hE l) :
    Calls Try.prog 26 #[v, .int .i64 g] w fun e w' => e = .returned (.bool (rBe l g)) ∧ Below w.heap.size w w' := by
  obtain ⟨X, hX⟩ : ∃ X, rBe l g = X := ⟨_, rfl⟩
  rw [hX]
  unfold rBe at hX
  refine calls_exec (cf := cf) cfok (fn := Try.f26) Try.func26 rfl [.sl 0, .v (.int .i64 g)] [.rd Int inferInstance 1 hE l] (ρ := fun _ => v) (· < w.heap.size) rfl rfl rfl (by simp [svOkL, svOk]) (memRd (fun _ h => h) ⟨r, trivial⟩) ?_
  refine ⟨{ i : Nat // i ≤ l.length ∧ ∀ j, j < i → cBe l g j = false }, fun i => ⟨19, [⟨0, [], .sl 0⟩, ⟨1, [], .v (.int .i64 g)⟩, ⟨5, [], .v (.int .i64 (i.1 : Nat))⟩], [.rd Int inferInstance 1 hE l], [], dropL nats 1⟩, fun i => l.length - i.1, ⟨[0], ⟨0, by omega, fun j h => absurd h (by omega)⟩, ?_⟩, fun i => ?_⟩
  · exact And.intro (And.intro rfl (And.intro rfl (And.intro rfl trivial))) (And.intro rfl trivial)
  obtain ⟨i, hi, hall⟩ := i
  refine And.intro (fun hlt => ?_) (fun hge => ?_)
  rotate_left
  · have hge : i = l.length := by
      have : ¬ ((i : Nat) : Int) < ((l.length : Nat) : Int) := of_decide_eq_false hge
      omega
    rw [hge] at hall
    rw [allN_true hall] at hX
    subst hX
    exact fun ρ S w' hi => ⟨rfl, hi.below⟩
  have hlt : i < l.length := by
    have : ((i : Nat) : Int) < ((l.length : Nat) : Int) := of_decide_eq_true hlt
    omega
  refine And.intro (show (0 : Int) ≤ (i : Int) ∧ (i : Int) < (l.length : Int) from ⟨by omega, by omega⟩) ?_
  refine And.intro (fun hb => ?_) (fun hb => ?_)
  · have hb : cBe l g i = true := hb
    rw [allN_false hlt hb] at hX
    subst hX
    exact fun ρ S w' hi => ⟨rfl, hi.below⟩
  have hb : cBe l g i = false := hb
  exact ⟨[0], ⟨i + 1, hlt, fun j hj => by
    by_cases he : j = i
    · rw [he]; exact hb
    · exact hall j (by omega)⟩, And.intro (And.intro rfl (And.intro rfl (And.intro (svI (i64_succ i (by omega))) trivial))) (And.intro rfl trivial), by show l.length - (i + 1) < l.length - i; omega⟩
theorem rising_c (l : List Int) (g : Int) (hl : l.length ≤ 140737488351232) (v : Value) (w : World) (r : Rd w v 1 hE l) :
    Calls Try.prog 46 #[v, .int .i64 g] w fun e w' => e = .returned (.bool (rRi l g)) ∧ Below w.heap.size w w' := by
  obtain ⟨X, hX⟩ : ∃ X, rRi l g = X := ⟨_, rfl⟩
  rw [hX]
  unfold rRi at hX
  refine calls_exec (cf := cf) cfok (fn := Try.f46) Try.func46 rfl [.sl 0, .v (.int .i64 g)] [.rd Int inferInstance 1 hE l] (ρ := fun _ => v) (· < w.heap.size) rfl rfl rfl (by simp [svOkL, svOk]) (memRd (fun _ h => h) ⟨r, trivial⟩) ?_
  refine ⟨{ i : Nat // i ≤ l.length ∧ ∀ j, j < i → cRi l g j = false }, fun i => ⟨35, [⟨0, [], .sl 0⟩, ⟨1, [], .v (.int .i64 g)⟩, ⟨5, [], .v (.int .i64 (i.1 : Nat))⟩], [.rd Int inferInstance 1 hE l], [], dropL nats 1⟩, fun i => l.length - i.1, ⟨[0], ⟨0, by omega, fun j h => absurd h (by omega)⟩, ?_⟩, fun i => ?_⟩
  · exact And.intro (And.intro rfl (And.intro rfl (And.intro rfl trivial))) (And.intro rfl trivial)
  obtain ⟨i, hi, hall⟩ := i
  refine And.intro (fun hlt => ?_) (fun hge => ?_)
  rotate_left
  · have hge : i = l.length := by
      have : ¬ ((i : Nat) : Int) < ((l.length : Nat) : Int) := of_decide_eq_false hge
      omega
    rw [hge] at hall
    rw [allN_true hall] at hX
    subst hX
    exact fun ρ S w' hi => ⟨rfl, hi.below⟩
  have hlt : i < l.length := by
    have : ((i : Nat) : Int) < ((l.length : Nat) : Int) := of_decide_eq_true hlt
    omega
  have hbd : (0 : Int) ≤ (i : Int) ∧ (i : Int) < (l.length : Int) := ⟨by omega, by omega⟩
  refine Or.inl ⟨by kernel_rfl, ?_⟩
  refine And.intro hbd ?_
  refine And.intro (fun _ _ => hbd) ?_
  refine And.intro (fun h15 _ => bnd hlt (by omega) h15) ?_
  refine And.intro (fun hb => ?_) (fun hb => ?_)
  · have hb : cRi l g i = true := hb
    rw [allN_false hlt hb] at hX
    subst hX
    exact fun ρ S w' hi => ⟨rfl, hi.below⟩
  have hb : cRi l g i = false := hb
  exact ⟨[0], ⟨i + 1, hlt, fun j hj => by
    by_cases he : j = i
    · rw [he]; exact hb
    · exact hall j (by omega)⟩, And.intro (And.intro rfl (And.intro rfl (And.intro (svI (i64_succ i (by omega))) trivial))) (And.intro rfl trivial), by show l.length - (i + 1) < l.length - i; omega⟩
theorem nth_mem {α : Type} [Inhabited α] {xs : List α} {i : Nat} (h : i < xs.length) : nth xs i ∈ xs := by
  unfold nth
  rw [List.getD_eq_getElem?_getD, List.getElem?_eq_getElem h]
  exact List.getElem_mem h
theorem sets_c (l : List (List Int)) (g : Int) (hl : l.length ≤ 140737488351232) (hls : ∀ x ∈ l, x.length ≤ 140737488351232) (v : Value) (w : World) (r : Rd w v 1 setE l) :
    Calls Try.prog 27 #[v, .int .i64 g] w fun e w' => e = .returned (.bool (rSe l g)) ∧ Below w.heap.size w w' := by
  obtain ⟨X, hX⟩ : ∃ X, rSe l g = X := ⟨_, rfl⟩
  rw [hX]
  unfold rSe at hX
  refine calls_exec (cf := cf) cfok (fn := Try.f27) Try.func27 rfl [.sl 0, .v (.int .i64 g)] [.rd (List Int) inferInstance 1 setE l] (ρ := fun _ => v) (· < w.heap.size) rfl rfl rfl (by simp [svOkL, svOk]) (memRd (fun _ h => h) ⟨r, trivial⟩) ?_
  refine ⟨{ i : Nat // i ≤ l.length ∧ ∀ j, j < i → cSe l g j = false }, fun i => ⟨27, [⟨0, [], .sl 0⟩, ⟨1, [], .v (.int .i64 g)⟩, ⟨5, [], .v (.int .i64 (i.1 : Nat))⟩], [.rd (List Int) inferInstance 1 setE l], [], dropL nats 1⟩, fun i => l.length - i.1, ⟨[0], ⟨0, by omega, fun j h => absurd h (by omega)⟩, ?_⟩, fun i => ?_⟩
  · exact And.intro (And.intro rfl (And.intro rfl (And.intro rfl trivial))) (And.intro rfl trivial)
  obtain ⟨i, hi, hall⟩ := i
  refine And.intro (fun hlt => ?_) (fun hge => ?_)
  rotate_left
  · have hge : i = l.length := by
      have : ¬ ((i : Nat) : Int) < ((l.length : Nat) : Int) := of_decide_eq_false hge
      omega
    rw [hge] at hall
    rw [allN_true hall] at hX
    subst hX
    exact fun ρ S w' hi => ⟨rfl, hi.below⟩
  have hlt : i < l.length := by
    have : ((i : Nat) : Int) < ((l.length : Nat) : Int) := of_decide_eq_true hlt
    omega
  have hbd : (0 : Int) ≤ (i : Int) ∧ (i : Int) < (l.length : Int) := ⟨by omega, by omega⟩
  have hni := hls _ (nth_mem hlt)
  refine And.intro hbd ?_
  refine And.intro (fun _ => hbd) ?_
  refine Or.inl ⟨.bool (rRi (nth l i) g), fun hg ρ S w hm => rising_c (nth l i) g hni _ w (hm.cnd 2 rfl rfl (And.intro hg trivial)), ?_⟩
  refine And.intro (fun hb => ?_) (fun hb => ?_)
  · have hb : cSe l g i = true := hb
    rw [allN_false hlt hb] at hX
    subst hX
    exact fun ρ S w' hi => ⟨rfl, hi.below⟩
  have hb : cSe l g i = false := hb
  exact ⟨[0], ⟨i + 1, hlt, fun j hj => by
    by_cases he : j = i
    · rw [he]; exact hb
    · exact hall j (by omega)⟩, And.intro (And.intro rfl (And.intro rfl (And.intro (svI (i64_succ i (by omega))) trivial))) (And.intro rfl trivial), by show l.length - (i + 1) < l.length - i; omega⟩
end Go.Proofs.Ytalploampmdemaa
