/- The reference's Way, which way is ahead, and whether two rows are alike. -/
import Derived.Test.YtiaaiihdamkeaaaK9
set_option maxRecDepth 100000
set_option linter.unusedVariables false
namespace Go.Proofs.Ytiaaiihdamkeaaa
open Go Go.Eng Go.RowKit Go.Ar

theorem nth_ext1 {α : Type} [Inhabited α] {a b : List α} (h : a.length = b.length) (h2 : ∀ j, j < a.length → nth a j = nth b j) : a = b := by
  apply List.ext_getElem h
  intro i h3 h4
  have := h2 i h3
  unfold nth at this
  rw [List.getD_eq_getElem?_getD, List.getD_eq_getElem?_getD, List.getElem?_eq_getElem h3, List.getElem?_eq_getElem h4] at this
  exact this
theorem same_c (xs ys : List Nat) (v u : Value) (w : World) (hl : xs.length ≤ 1099511627776) (hv : Rd w v 1 nE xs) (hu : Rd w u 1 nE ys) :
    Calls Try.prog 13 #[v, u] w fun e w' => e = .returned (.bool (decide (xs = ys))) ∧ Below w.heap.size w w' := by
  refine calls_exec (cf := cf) cfok (fn := Try.f13) Try.func13 rfl [.sl 0, .sl 1] [.rd Nat inferInstance 1 nE xs, .rd Nat inferInstance 1 nE ys] (ρ := fun i => if i = 0 then v else u) (· < w.heap.size) rfl rfl rfl (by simp [svOkL, svOk]) (memRd (fun _ h => h) ⟨hv, hu, trivial⟩) ?_
  refine And.intro (fun h => ?_) (fun h => ?_)
  · have h : (!decide ((xs.length : Int) = (ys.length : Int))) = true := h
    rw [Bool.not_eq_true', decide_eq_false_iff_not] at h
    refine fun ρ S w' hi => ⟨?_, hi.below⟩
    have : ¬ xs = ys := fun e => h (by rw [e])
    rw [decide_eq_false this]; rfl
  have h : (!decide ((xs.length : Int) = (ys.length : Int))) = false := h
  rw [Bool.not_eq_false', decide_eq_true_iff] at h
  have h : xs.length = ys.length := by omega
  refine ⟨{ i : Nat // i ≤ xs.length ∧ ∀ j, j < i → nth xs j = nth ys j }, fun i => ⟨26, [⟨0, [], .sl 0⟩, ⟨1, [], .sl 1⟩, ⟨5, [], .v (.int .i64 i.1)⟩], [.rd Nat inferInstance 1 nE xs, .rd Nat inferInstance 1 nE ys], [], dropL nats 2⟩, fun i => xs.length - i.1, ⟨[0, 1], ⟨0, by omega, fun j hj => by omega⟩, ?_⟩, fun i => ?_⟩
  · exact And.intro (And.intro rfl (And.intro rfl (And.intro rfl trivial))) (And.intro rfl (And.intro rfl trivial))
  obtain ⟨i, hi, hall⟩ := i
  refine And.intro (fun hlt => ?_) (fun hge => ?_)
  · have hlt : i < xs.length := by have : (i : Int) < (xs.length : Int) := of_decide_eq_true hlt
                                   omega
    refine Or.inl ⟨by kernel_rfl, ?_⟩
    refine And.intro (show (0 : Int) ≤ (i : Int) ∧ (i : Int) < (xs.length : Int) from ⟨by omega, by omega⟩) ?_
    refine And.intro (show (0 : Int) ≤ (i : Int) ∧ (i : Int) < (ys.length : Int) from ⟨by omega, by omega⟩) ?_
    refine And.intro (fun hb => ?_) (fun hb => ?_)
    · have hb : (!decide (((nth xs i : Nat) : Int) = ((nth ys i : Nat) : Int))) = true := hb
      rw [Bool.not_eq_true', decide_eq_false_iff_not] at hb
      refine fun ρ S w' hi' => ⟨?_, hi'.below⟩
      have : ¬ xs = ys := fun e => hb (by rw [e])
      rw [decide_eq_false this]; rfl
    · have hb : (!decide (((nth xs i : Nat) : Int) = ((nth ys i : Nat) : Int))) = false := hb
      rw [Bool.not_eq_false', decide_eq_true_iff] at hb
      refine ⟨[0, 1], ⟨i + 1, hlt, fun j hj => ?_⟩, And.intro (And.intro rfl (And.intro rfl (And.intro (svI (i64_succ i (by omega))) trivial))) (And.intro rfl (And.intro rfl trivial)), by show _ - (i + 1) < _ - i; omega⟩
      by_cases e : j = i
      · subst e; omega
      · exact hall j (by omega)
  · have hge : i = xs.length := by have : ¬ (i : Int) < (xs.length : Int) := of_decide_eq_false hge
                                   omega
    refine fun ρ S w' hi' => ⟨?_, hi'.below⟩
    rw [decide_eq_true (nth_ext1 h (fun j hj => hall j (by omega)))]; rfl

theorem ahead_drop {a b : List Nat} {i : Nat} (ha : i < a.length) (hb : i < b.length) : aheadF (a.drop i) (b.drop i) = if nth a i = nth b i then aheadF (a.drop (i + 1)) (b.drop (i + 1)) else decide (nth a i < nth b i) := by
  rw [nthN ha, nthN hb]; rfl
theorem ahead_nil {a b : List Nat} {i : Nat} (h : ¬ (i < a.length ∧ i < b.length)) : aheadF (a.drop i) (b.drop i) = false := by
  by_cases ha : i < a.length
  · rw [List.drop_eq_nil_of_le (show b.length ≤ i by omega)]
    cases a.drop i <;> rfl
  · rw [List.drop_eq_nil_of_le (show a.length ≤ i by omega)]; rfl
theorem ahead_c (a b : List Nat) (v u : Value) (w : World) (ha : a.length ≤ 1099511627776) (hb : b.length ≤ 1099511627776) (hv : Rd w v 1 nE a) (hu : Rd w u 1 nE b) :
    Calls Try.prog 11 #[v, u] w fun e w' => e = .returned (.bool (aheadF a b)) ∧ Below w.heap.size w w' := by
  refine calls_exec (cf := cf) cfok (fn := Try.f11) Try.func11 rfl [.sl 0, .sl 1] [.rd Nat inferInstance 1 nE a, .rd Nat inferInstance 1 nE b] (ρ := fun i => if i = 0 then v else u) (· < w.heap.size) rfl rfl rfl (by simp [svOkL, svOk]) (memRd (fun _ h => h) ⟨hv, hu, trivial⟩) ?_
  refine ⟨{ i : Nat // i ≤ a.length ∧ i ≤ b.length ∧ aheadF (a.drop i) (b.drop i) = aheadF a b }, fun i => ⟨36, [⟨0, [], .sl 0⟩, ⟨1, [], .sl 1⟩, ⟨5, [], .v (.int .i64 (i.1 : Nat))⟩], [.rd Nat inferInstance 1 nE a, .rd Nat inferInstance 1 nE b], [], dropL nats 2⟩, fun i => a.length - i.1, ⟨[0, 1], ⟨0, by omega, by omega, rfl⟩, ?_⟩, fun i => ?_⟩
  · exact And.intro (And.intro rfl (And.intro rfl (And.intro rfl trivial))) (And.intro rfl (And.intro rfl trivial))
  obtain ⟨i, hia, hib, he⟩ := i
  refine And.intro (fun hlt => ?_) (fun hge => ?_)
  · have hlt : i < a.length ∧ i < b.length := by
      have hlt : (decide ((i : Int) < (a.length : Int)) && decide ((i : Int) < (b.length : Int))) = true := hlt
      rw [Bool.and_eq_true, decide_eq_true_iff, decide_eq_true_iff] at hlt
      omega
    rw [ahead_drop hlt.1 hlt.2] at he
    refine Or.inl ⟨by kernel_rfl, ?_⟩
    refine And.intro (show (0 : Int) ≤ (i : Int) ∧ (i : Int) < (a.length : Int) from ⟨by omega, by omega⟩) ?_
    refine And.intro (show (0 : Int) ≤ (i : Int) ∧ (i : Int) < (b.length : Int) from ⟨by omega, by omega⟩) ?_
    refine And.intro (fun hne => ?_) (fun heq => ?_)
    · have hne : (!decide (((nth a i : Nat) : Int) = ((nth b i : Nat) : Int))) = true := hne
      rw [Bool.not_eq_true', decide_eq_false_iff_not] at hne
      rw [if_neg (by omega)] at he
      refine Or.inl ⟨by kernel_rfl, ?_⟩
      refine And.intro (show (0 : Int) ≤ (i : Int) ∧ (i : Int) < (a.length : Int) from ⟨by omega, by omega⟩) ?_
      refine And.intro (show (0 : Int) ≤ (i : Int) ∧ (i : Int) < (b.length : Int) from ⟨by omega, by omega⟩) ?_
      refine fun ρ S w' hi' => ⟨retB ?_, hi'.below⟩
      refine Eq.trans ?_ he
      show decide (((nth a i : Nat) : Int) < ((nth b i : Nat) : Int)) = _
      rw [decide_eq_decide]; omega
    · have heq : (!decide (((nth a i : Nat) : Int) = ((nth b i : Nat) : Int))) = false := heq
      rw [Bool.not_eq_false', decide_eq_true_iff] at heq
      rw [if_pos (by omega)] at he
      exact ⟨[0, 1], ⟨i + 1, by omega, by omega, he⟩, And.intro (And.intro rfl (And.intro rfl (And.intro (svI (i64_succ i (by omega))) trivial))) (And.intro rfl (And.intro rfl trivial)), by show a.length - (i + 1) < a.length - i; omega⟩
  · have hge : ¬ (i < a.length ∧ i < b.length) := by
      have hge : (decide ((i : Int) < (a.length : Int)) && decide ((i : Int) < (b.length : Int))) = false := hge
      rw [Bool.and_eq_false_iff, decide_eq_false_iff_not, decide_eq_false_iff_not] at hge
      omega
    rw [ahead_nil hge] at he
    exact fun ρ S w' hi' => ⟨retB he, hi'.below⟩

theorem way_c (must : List Bool) (n : Nat) (hm : must.length = n + 1) (hn : n ≤ 256) (hn1 : 1 ≤ n) (br : List Nat) (hbr : WayOk must n 0 br) (v u : Value) (w : World) (hv : Rd w v 1 bE must) (hu : Rd w u 1 nE br) :
    Calls Try.prog 10 #[v, u] w fun e w' => e = .returned (.bool true) ∧ Below w.heap.size w w' := by
  refine calls_exec (cf := cf) cfok (fn := Try.f10) Try.func10 rfl [.sl 0, .sl 1] [.rd Bool inferInstance 1 bE must, .rd Nat inferInstance 1 nE br] (ρ := fun i => if i = 0 then v else u) (· < w.heap.size) rfl rfl rfl (by simp [svOkL, svOk]) (memRd (fun _ h => h) ⟨hv, hu, trivial⟩) ?_
  have hlen := way_len must n br 0 hbr
  have hne : br ≠ [] := fun h => by rw [h] at hbr; have : 0 = n := hbr; omega
  have hpos : 0 < br.length := by cases br with | nil => exact absurd rfl hne | cons => simp
  have hlast := way_last must n br 0 hbr hne
  have e1 : IntKind.i64.wrap ((br.length : Int) - 1) = ((br.length - 1 : Nat) : Int) := by rw [i64_id _ (by omega) (by omega)]; omega
  have e2 : IntKind.i64.wrap ((must.length : Int) - 1) = ((n : Nat) : Int) := by rw [i64_id _ (by omega) (by omega)]; omega
  refine And.intro (fun _ => ⟨by rw [e1]; omega, by rw [e1]; omega⟩) ?_
  refine And.intro (fun hbad => ?_) (fun _ => ?_)
  · exfalso
    have hbad : (decide ((br.length : Int) = 0) || !decide (((nth br (IntKind.i64.wrap ((br.length : Int) - 1)).toNat : Nat) : Int) = IntKind.i64.wrap ((must.length : Int) - 1))) = true := hbad
    rw [e1, e2, Int.toNat_natCast, hlast, decide_eq_false (show ¬ (br.length : Int) = 0 by omega)] at hbad
    simp at hbad
  refine ⟨{ s : Nat × Nat // s.1 ≤ br.length ∧ WayOk must n s.2 (br.drop s.1) }, fun s => ⟨63, [⟨0, [], .sl 0⟩, ⟨1, [], .sl 1⟩, ⟨5, [], .v (.int .i64 (n : Nat))⟩, ⟨6, [], .v (.int .i64 (s.1.2 : Nat))⟩, ⟨7, [], .v (.int .i64 (s.1.1 : Nat))⟩], [.rd Bool inferInstance 1 bE must, .rd Nat inferInstance 1 nE br], [], dropL nats 2⟩, fun s => br.length - s.1.1, ⟨[0, 1], ⟨(0, 0), by omega, hbr⟩, ?_⟩, fun s => ?_⟩
  · exact And.intro (And.intro rfl (And.intro rfl (And.intro (svI e2) (And.intro rfl (And.intro rfl trivial))))) (And.intro rfl (And.intro rfl trivial))
  obtain ⟨⟨i, last⟩, hi, hwy⟩ := s
  refine And.intro (fun hlt => ?_) (fun hge => ?_)
  · have hlt : i < br.length := by have : ((i : Nat) : Int) < ((br.length : Nat) : Int) := of_decide_eq_true hlt
                                   omega
    have hwy : WayOk must n last (br.drop i) := hwy
    rw [nthN hlt] at hwy
    obtain ⟨w1, w2, w3, w4⟩ := hwy
    refine And.intro (show (0 : Int) ≤ (i : Int) ∧ (i : Int) < (br.length : Int) from ⟨by omega, by omega⟩) ?_
    refine And.intro (fun _ => (show (0 : Int) ≤ (i : Int) ∧ (i : Int) < (br.length : Int) from ⟨by omega, by omega⟩)) ?_
    refine And.intro (fun hbad => ?_) (fun _ => ?_)
    · exfalso
      have hbad : (decide (((nth br i : Nat) : Int) ≤ ((last : Nat) : Int)) || decide (((nth br i : Nat) : Int) > ((n : Nat) : Int))) = true := hbad
      rw [decide_eq_false (by omega), decide_eq_false (by omega)] at hbad
      cases hbad
    refine ⟨{ q : Nat // last < q ∧ q ≤ nth br i }, fun q => ⟨63, [⟨0, [], .sl 0⟩, ⟨1, [], .sl 1⟩, ⟨5, [], .v (.int .i64 (n : Nat))⟩, ⟨6, [], .v (.int .i64 (last : Nat))⟩, ⟨7, [], .v (.int .i64 (i : Nat))⟩, ⟨8, [], .v (.int .i64 (q.1 : Nat))⟩], [.rd Bool inferInstance 1 bE must, .rd Nat inferInstance 1 nE br], [], dropL nats 2⟩, fun q => nth br i - q.1, ⟨[0, 1], ⟨last + 1, by omega, by omega⟩, ?_⟩, fun q => ?_⟩
    · exact And.intro (And.intro rfl (And.intro rfl (And.intro rfl (And.intro rfl (And.intro rfl (And.intro (svI (i64_succ last (by omega))) trivial)))))) (And.intro rfl (And.intro rfl trivial))
    obtain ⟨q, hq1, hq2⟩ := q
    refine And.intro (show (0 : Int) ≤ (i : Int) ∧ (i : Int) < (br.length : Int) from ⟨by omega, by omega⟩) ?_
    refine And.intro (fun hql => ?_) (fun hqg => ?_)
    · have hql : q < nth br i := by have : ((q : Nat) : Int) < ((nth br i : Nat) : Int) := of_decide_eq_true hql
                                    omega
      refine And.intro (show (0 : Int) ≤ (q : Int) ∧ (q : Int) < (must.length : Int) from ⟨by omega, by omega⟩) ?_
      refine And.intro (fun hm => absurd (show nth must q = true from hm) (by rw [w3 q hq1 hql]; decide)) (fun _ => ?_)
      exact ⟨[0, 1], ⟨q + 1, by omega, by omega⟩, And.intro (And.intro rfl (And.intro rfl (And.intro rfl (And.intro rfl (And.intro rfl (And.intro (svI (i64_succ q (by omega))) trivial)))))) (And.intro rfl (And.intro rfl trivial)), by show nth br i - (q + 1) < nth br i - q; omega⟩
    · refine And.intro (show (0 : Int) ≤ (i : Int) ∧ (i : Int) < (br.length : Int) from ⟨by omega, by omega⟩) ?_
      exact ⟨[0, 1], ⟨(i + 1, nth br i), hlt, w4⟩, And.intro (And.intro rfl (And.intro rfl (And.intro rfl (And.intro rfl (And.intro (svI (i64_succ i (by omega))) trivial))))) (And.intro rfl (And.intro rfl trivial)), by show br.length - (i + 1) < br.length - i; omega⟩
  · exact fun ρ S w' hi' => ⟨rfl, hi'.below⟩
end Go.Proofs.Ytiaaiihdamkeaaa
