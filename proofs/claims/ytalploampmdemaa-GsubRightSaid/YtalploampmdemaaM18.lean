/- works, and the law GsubRight. -/
import Derived.Test.YtalploampmdemaaM17
set_option maxRecDepth 100000
set_option linter.unusedVariables false
namespace Go.Proofs.Ytalploampmdemaa
open Go Go.Eng Go.RowKit

theorem samew_c (xs ys : List Int) (v u : Value) (w : World) (hl : xs.length ≤ 1099511627776) (hv : Rd w v 1 hE xs) (hu : Rd w u 1 hE ys) :
    Calls Try.prog 16 #[v, u] w fun e w' => e = .returned (.bool (decide (xs = ys))) ∧ Below w.heap.size w w' := by
  refine calls_exec (cf := cf) cfok (fn := Try.f16) Try.func16 rfl [.sl 0, .sl 1] [.rd Int inferInstance 1 hE xs, .rd Int inferInstance 1 hE ys] (ρ := fun i => if i = 0 then v else u) (· < w.heap.size) rfl rfl rfl (by simp [svOkL, svOk]) (memRd (fun _ h => h) ⟨hv, hu, trivial⟩) ?_
  refine And.intro (fun h => ?_) (fun h => ?_)
  · have h : (!decide ((xs.length : Int) = (ys.length : Int))) = true := h
    rw [Bool.not_eq_true', decide_eq_false_iff_not] at h
    refine fun ρ S w' hi => ⟨?_, hi.below⟩
    have : ¬ xs = ys := fun e => h (by rw [e])
    rw [decide_eq_false this]; rfl
  have h : (!decide ((xs.length : Int) = (ys.length : Int))) = false := h
  rw [Bool.not_eq_false', decide_eq_true_iff] at h
  have h : xs.length = ys.length := by omega
  refine ⟨{ i : Nat // i ≤ xs.length ∧ ∀ j, j < i → nth xs j = nth ys j }, fun i => ⟨26, [⟨0, [], .sl 0⟩, ⟨1, [], .sl 1⟩, ⟨5, [], .v (.int .i64 i.1)⟩], [.rd Int inferInstance 1 hE xs, .rd Int inferInstance 1 hE ys], [], dropL nats 2⟩, fun i => xs.length - i.1, ⟨[0, 1], ⟨0, by omega, fun j hj => by omega⟩, ?_⟩, fun i => ?_⟩
  · exact And.intro (And.intro rfl (And.intro rfl (And.intro rfl trivial))) (And.intro rfl (And.intro rfl trivial))
  obtain ⟨i, hi, hall⟩ := i
  refine And.intro (fun hlt => ?_) (fun hge => ?_)
  · have hlt : i < xs.length := by have : (i : Int) < (xs.length : Int) := of_decide_eq_true hlt
                                   omega
    refine Or.inl ⟨by kernel_rfl, ?_⟩
    refine And.intro (show (0 : Int) ≤ (i : Int) ∧ (i : Int) < (xs.length : Int) from ⟨by omega, by omega⟩) ?_
    refine And.intro (show (0 : Int) ≤ (i : Int) ∧ (i : Int) < (ys.length : Int) from ⟨by omega, by omega⟩) ?_
    refine And.intro (fun hb => ?_) (fun hb => ?_)
    · have hb : (!decide (nth xs i = nth ys i)) = true := hb
      rw [Bool.not_eq_true', decide_eq_false_iff_not] at hb
      refine fun ρ S w' hi' => ⟨?_, hi'.below⟩
      have : ¬ xs = ys := fun e => hb (by rw [e])
      rw [decide_eq_false this]; rfl
    · have hb : (!decide (nth xs i = nth ys i)) = false := hb
      rw [Bool.not_eq_false', decide_eq_true_iff] at hb
      refine ⟨[0, 1], ⟨i + 1, hlt, fun j hj => ?_⟩, And.intro (And.intro rfl (And.intro rfl (And.intro (svI (i64_succ i (by omega))) trivial))) (And.intro rfl (And.intro rfl trivial)), by show _ - (i + 1) < _ - i; omega⟩
      by_cases e : j = i
      · subst e; exact hb
      · exact hall j (by omega)
  · have hge : i = xs.length := by have : ¬ (i : Int) < (xs.length : Int) := of_decide_eq_false hge
                                   omega
    refine fun ρ S w' hi' => ⟨?_, hi'.below⟩
    rw [decide_eq_true (nth_extI h (fun j hj => hall j (by omega)))]; rfl

theorem words_o (xs ys : List Int) (h : wsB xs = ys) (hl : xs.length ≤ 1000000) (v : Value) (w : World) (hv : Rd w v 1 zE xs) :
    Calls Try.prog 15 #[v] w fun e w' => ∃ u, e = .returned u ∧ Below w.heap.size w w' ∧ Fresh w w' u 5 1 bE ys := by
  subst h; exact words_mk xs hl v w hv
theorem wByt : Byt wB0 := Byt.of (by decide)
set_option maxHeartbeats 1000000 in
theorem works_c (w : World) : Calls Try.prog 5 #[] w fun e w' => e = .returned (.bool true) ∧ Below w.heap.size w w' := by
  refine calls_exec (cf := cf) cfok (fn := Try.f5) Try.func5 rfl [] [] (ρ := fun _ => undef) (· < w.heap.size) rfl rfl rfl (by simp [svOkL]) (memNil fun _ h => h) ?_
  refine Or.inr (lcall_frzTo [(0, .rd Int inferInstance 1 zE wNums)] ⟨rfl, ⟨rfl, rfl, rfl, fun y hy => rfl⟩, lcall_fresh wB0 (fun ρ S w hm => words_o wNums wB0 wk0 (by decide) _ w (hm.rd 0 rfl rfl)) ?_⟩)
  refine Or.inr (lcall_frzTo [(1, .rd Int inferInstance 1 bE wB0)] ⟨rfl, rfl, ?_⟩)
  refine lcall_sub [1] (open_s wB0 (by decide)) rfl rfl rfl rfl rfl (And.intro rfl trivial) ?_
  refine subSt_out [.rd Int inferInstance 1 zE wNums, .rd Int inferInstance 1 bE wB0, .bx 82 [.v (.bool false)], .rd Int inferInstance 1 bE wB0, .bx 85 [.bx 2 0, .sl 3]] [1, 2, 3, 4] rfl rfl ?_
  refine Or.inr (lcall_sub [2, 3, 4] (parse_s wB0 10 wByt (by decide) _ wk1) rfl rfl rfl rfl rfl (And.intro (And.intro rfl rfl) (And.intro rfl (And.intro (And.intro rfl rfl) trivial))) ?_)
  refine subSt_out [.rd Int inferInstance 1 zE wNums, .rd Int inferInstance 1 bE wB0, .dead, .rd Int inferInstance 1 bE wB0, .dead, owLk wL, owF []] [2, 3, 4, 5, 6] rfl rfl ?_
  refine And.intro (fun _ => ⟨by decide, by decide⟩) ?_
  refine And.intro (fun _ => ⟨by decide, by decide⟩) ?_
  refine And.intro (fun _ => ⟨by decide, by decide⟩) ?_
  refine And.intro (fun _ => ⟨by decide, by decide⟩) ?_
  refine And.intro (fun _ => ⟨by decide, by decide⟩) ?_
  refine And.intro (fun _ => ⟨by decide, by decide⟩) ?_
  refine And.intro (fun _ => ⟨by decide, by decide⟩) ?_
  refine And.intro (fun _ => ⟨by decide, by decide⟩) ?_
  refine And.intro (fun _ => ⟨by decide, by decide⟩) ?_
  refine Or.inr (Or.inl ⟨And.intro rfl trivial, ?_⟩)
  refine Or.inl ⟨.bool true, fun hg ρ S w hm => ?_, ?_⟩
  · have := samew_c [5, 6] [5, 6] _ _ w (by decide) (hm.cnd 14 rfl rfl (And.intro hg trivial)) (hm.raw 15 rfl rfl [5, 6] _ rfl rfl rfl (fun y hy => rfl))
    rwa [show decide (([5, 6] : List Int) = [5, 6]) = true from by decide] at this
  exact fun ρ S w' hi => ⟨rfl, hi.below⟩
end Go.Proofs.Ytalploampmdemaa
