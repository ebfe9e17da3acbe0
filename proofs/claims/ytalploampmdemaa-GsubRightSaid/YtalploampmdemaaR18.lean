/- calamuskit.SameInts; the reference's numbers. -/
import Derived.Test.YtalploampmdemaaR17
import Derived.Test.YtalploampmdemaaR12
set_option maxRecDepth 100000
set_option linter.unusedVariables false
namespace Go.Proofs.Ytalploampmdemaa
open Go Go.Eng Go.RowKit

theorem samez_c (xs ys : List Int) (v u : Value) (w : World) (hl : xs.length ≤ 1099511627776) (hv : Rd w v 1 zE xs) (hu : Rd w u 1 zE ys) :
    Calls Try.prog 34 #[v, u] w fun e w' => e = .returned (.bool (decide (xs = ys))) ∧ Below w.heap.size w w' := by
  refine calls_exec (cf := cf) cfok (fn := Try.f34) Try.func34 rfl [.sl 0, .sl 1] [.rd Int inferInstance 1 zE xs, .rd Int inferInstance 1 zE ys] (ρ := fun i => if i = 0 then v else u) (· < w.heap.size) rfl rfl rfl (by simp [svOkL, svOk]) (memRd (fun _ h => h) ⟨hv, hu, trivial⟩) ?_
  refine And.intro (fun h => ?_) (fun h => ?_)
  · have h : (!decide ((xs.length : Int) = (ys.length : Int))) = true := h
    rw [Bool.not_eq_true', decide_eq_false_iff_not] at h
    refine fun ρ S w' hi => ⟨?_, hi.below⟩
    have : ¬ xs = ys := fun e => h (by rw [e])
    rw [decide_eq_false this]; rfl
  have h : (!decide ((xs.length : Int) = (ys.length : Int))) = false := h
  rw [Bool.not_eq_false', decide_eq_true_iff] at h
  have h : xs.length = ys.length := by omega
  refine ⟨{ i : Nat // i ≤ xs.length ∧ ∀ j, j < i → nth xs j = nth ys j }, fun i => ⟨26, [⟨0, [], .sl 0⟩, ⟨1, [], .sl 1⟩, ⟨5, [], .v (.int .i64 i.1)⟩], [.rd Int inferInstance 1 zE xs, .rd Int inferInstance 1 zE ys], [], dropL nats 2⟩, fun i => xs.length - i.1, ⟨[0, 1], ⟨0, by omega, fun j hj => by omega⟩, ?_⟩, fun i => ?_⟩
  · exact And.intro (And.intro rfl (And.intro rfl (And.intro rfl trivial))) (And.intro rfl (And.intro rfl trivial))
  obtain ⟨i, hi, hall⟩ := i
  refine And.intro (fun hlt => ?_) (fun hge => ?_)
  · have hlt : i < xs.length := by have : (i : Int) < (xs.length : Int) := of_decide_eq_true hlt
                                   omega
    refine Or.inl ⟨by kernel_rfl, ?_⟩
    refine And.intro (show (0 : Int) ≤ (i : Int) ∧ (i : Int) < (xs.length : Int) from ⟨by omega, by omega⟩) ?_
    refine And.intro (show (0 : Int) ≤ (i : Int) ∧ (i : Int) < (ys.length : Int) from ⟨by omega, by omega⟩) ?_
    refine And.intro (fun hb => ?_) (fun hb => ?_)
    · have hb : (!decide (nth xs i = nth ys i)) = true := hb
      rw [Bool.not_eq_true', decide_eq_false_iff_not] at hb
      refine fun ρ S w' hi' => ⟨?_, hi'.below⟩
      have : ¬ xs = ys := fun e => hb (by rw [e])
      rw [decide_eq_false this]; rfl
    · have hb : (!decide (nth xs i = nth ys i)) = false := hb
      rw [Bool.not_eq_false', decide_eq_true_iff] at hb
      refine ⟨[0, 1], ⟨i + 1, hlt, fun j hj => ?_⟩, And.intro (And.intro rfl (And.intro rfl (And.intro (svI (i64_succ i (by omega))) trivial))) (And.intro rfl (And.intro rfl trivial)), by show _ - (i + 1) < _ - i; omega⟩
      by_cases e : j = i
      · subst e; exact hb
      · exact hall j (by omega)
  · have hge : i = xs.length := by have : ¬ (i : Int) < (xs.length : Int) := of_decide_eq_false hge
                                   omega
    refine fun ρ S w' hi' => ⟨?_, hi'.below⟩
    rw [decide_eq_true (nth_extI h (fun j hj => hall j (by omega)))]; rfl

/-- bytes -/
def Byt (d : List Int) : Prop := ∀ i, 0 ≤ nth d i ∧ nth d i ≤ 255
theorem Byt.of {d : List Int} (h : ∀ x ∈ d, 0 ≤ x ∧ x ≤ 255) : Byt d := by
  intro i
  by_cases hi : i < d.length
  · rw [nthZ hi]; exact h _ (List.getElem_mem _)
  · unfold nth
    rw [List.getD_eq_getElem?_getD, List.getElem?_eq_none (by omega)]
    exact ⟨by decide, by decide⟩
theorem Byt.drop {d : List Int} (h : Byt d) (a : Nat) : Byt (d.drop a) := fun i => by rw [nth_drop]; exact h _
def w2 (d : List Int) (p : Nat) : Int := nth d p * 256 + nth d (p + 1)
theorem w2_range {d : List Int} (h : Byt d) (p : Nat) : 0 ≤ w2 d p ∧ w2 d p ≤ 65535 := by
  have h1 := h p
  have h2 := h (p + 1)
  unfold w2
  omega
theorem wd_w2 {d : List Int} (h : Byt d) (p : Nat) : wd d p = w2 d p := by
  have h1 := h p
  have h2 := h (p + 1)
  rw [wd_val d p (nth d p).toNat (nth d (p + 1)).toNat (by omega) (by omega) (by omega) (by omega)]
  unfold w2
  omega
theorem wo_w2 {d : List Int} (h : Byt d) (p : Nat) : wo d p = w2 d p := by
  have h1 := h p
  have h2 := h (p + 1)
  rw [wo_val d p (nth d p).toNat (nth d (p + 1)).toNat (by omega) (by omega) (by omega) (by omega)]
  unfold w2
  omega
def wF (b : List Int) (at' : Int) : Int := if outR b at' 2 then 0 else w2 (b.drop at'.toNat) 0
theorem wF_range {b : List Int} (h : Byt b) (at' : Int) : 0 ≤ wF b at' ∧ wF b at' ≤ 65535 := by
  unfold wF
  split
  · omega
  · exact w2_range (h.drop _) 0
theorem wF_at {b : List Int} {a : Int} {p : Nat} (h0 : 0 ≤ a) (h : a + p + 2 ≤ b.length) : wF b (a + p) = w2 (b.drop a.toNat) p := by
  unfold wF
  rw [if_neg (by rw [outR_iff.2 ⟨by omega, by omega, by omega⟩]; decide)]
  unfold w2
  simp only [nth_drop]
  rw [show (a + (p : Int)).toNat = a.toNat + p by omega]
  simp [Nat.add_assoc]

end Go.Proofs.Ytalploampmdemaa
