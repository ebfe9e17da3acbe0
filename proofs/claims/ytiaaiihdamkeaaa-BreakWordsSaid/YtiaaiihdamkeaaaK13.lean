/- The law BreakMore: one more place that must be costs no less. -/
import Derived.Test.YtiaaiihdamkeaaaK12
set_option maxRecDepth 100000
set_option linter.unusedVariables false
namespace Go.Proofs.Ytiaaiihdamkeaaa
open Go Go.Eng Go.RowKit Go.Ar

theorem svB {a b : Bool} (h : a = b) : SV.v (.bool a) = SV.v (.bool b) := by rw [h]
theorem May.len {m m' : List Bool} {lines : List Ln} {ws : List Int} (h : May m lines ws) (e : m'.length = m.length) : May m' lines ws :=
  ⟨by rw [e]; exact h.m, by rw [e]; exact h.l, h.w, h.b, fun i j a b => by rw [e] at b ⊢; exact h.x i j a b⟩
theorem more_law {m : List Bool} {n : Nat} {lines : List Ln} {ws : List Int} (h : May m lines ws) (h' : May (m.set n true) lines ws) (hn : n < m.length) :
    (best h.par 0 0).2 ≤ (best h'.par 0 0).2 ∧ (decide (n = 0) || (wayL h'.par 0 0).any fun x => decide (x = n)) = true := by
  obtain ⟨w1, w2⟩ := may_way h'
  rw [List.length_set] at w1
  have hm := h.m
  have hnt : nth (m.set n true) n = true := by
    unfold nth
    rw [List.getD_eq_getElem?_getD, List.getElem?_set_self hn]; rfl
  constructor
  · have w3 : WayOk m (m.length - 1) 0 (wayL h'.par 0 0) := way_less (fun q hq => by
      by_cases e : n = q
      · rw [← e, hnt] at hq; cases hq
      · unfold nth at hq ⊢
        rw [List.getD_eq_getElem?_getD, List.getElem?_set_ne e] at hq
        rw [List.getD_eq_getElem?_getD]
        exact hq) _ _ w1
    have := (way_least h.par (wayL h'.par 0 0) 0 0 w3 (Nat.zero_le _)).1
    rw [tot_same (p := h.par) (q := h'.par) rfl rfl (show m.length - 1 = (m.set n true).length - 1 by rw [List.length_set])] at this
    rw [w2] at this
    exact this
  · by_cases e : n = 0
    · rw [decide_eq_true e]; rfl
    · have := way_has (.inl hnt) (show n ≤ m.length - 1 by omega) _ 0 w1 (by omega)
      rw [Bool.or_eq_true]
      right
      rw [List.any_eq_true]
      exact ⟨n, this, decide_eq_true rfl⟩
def hasF (n : Nat) (l : List Nat) (j : Nat) : Bool := decide (n = 0) || (l.take j).any fun x => decide (x = n)
theorem hasF_succ {n : Nat} {l : List Nat} {j : Nat} (h : j < l.length) : hasF n l (j + 1) = (hasF n l j || decide (nth l j = n)) := by
  unfold hasF
  rw [List.take_succ_eq_append_getElem h, List.any_append, List.any_cons, List.any_nil, Bool.or_false, Bool.or_assoc]
  unfold nth
  rw [List.getD_eq_getElem?_getD, List.getElem?_eq_getElem h]
  rfl
theorem lawMore_c (must : List Bool) (lines : List Ln) (ws : List Int) (n : Int) (h0 : must.length ≤ 9223372036854775807) (h1 : lines.length ≤ 9223372036854775807) (h2 : ws.length ≤ 9223372036854775807) (mv lv wv : Value) (w : World) (hm : Rd w mv 1 bE must) (hl : Rd w lv 3 lE lines) (hw : Rd w wv 1 iE ws) :
    Calls Try.prog 5 #[mv, lv, wv, .int .i64 n] w fun e w' => e = .returned (.bool true) ∧ Below w.heap.size w w' := by
  refine calls_exec (cf := cf) cfok (fn := Try.f5) Try.func5 rfl [.sl 0, .sl 1, .sl 2, .v (.int .i64 n)] [.rd Bool inferInstance 1 bE must, .rd Ln inferInstance 3 lE lines, .rd Int inferInstance 1 iE ws] (ρ := fun i => match i with | 0 => mv | 1 => lv | _ => wv) (· < w.heap.size) rfl rfl rfl (by simp [svOkL, svOk]) (memRd (fun _ h => h) ⟨hm, hl, hw, trivial⟩) ?_
  refine And.intro (fun h => ?_) (fun h => ?_)
  · refine Or.inl ⟨.bool true, fun ρ S w' _ => works_c w', ?_⟩
    exact fun ρ S w' hi => ⟨rfl, hi.below⟩
  have h : ((((decide ((must.length : Int) > 31) || decide ((lines.length : Int) > 1000)) || decide ((ws.length : Int) > 1000)) || decide (n < 0)) || decide (n ≥ (must.length : Int))) = false := h
  rw [Bool.or_eq_false_iff, Bool.or_eq_false_iff, Bool.or_eq_false_iff, Bool.or_eq_false_iff, decide_eq_false_iff_not, decide_eq_false_iff_not, decide_eq_false_iff_not, decide_eq_false_iff_not, decide_eq_false_iff_not] at h
  obtain ⟨N, rfl⟩ := Int.eq_ofNat_of_zero_le (show 0 ≤ n by omega)
  have hN : N < must.length := by omega
  have hsl : (must.set N true).length = must.length := List.length_set
  by_cases hMay : May must lines ws
  · have hMay' : May (must.set N true) lines ws := hMay.len hsl
    obtain ⟨l1, l2⟩ := more_law hMay hMay' hN
    refine Or.inr (lcall_reps (brkD (wayL hMay.par 0 0) (best hMay.par 0 0).2 0) (fun ρ S w hm => break_ok _ _ _ hMay _ _ _ w S hm.lt (hm.rdS 0 rfl rfl) (hm.rdS 1 rfl rfl) (hm.rdS 2 rfl rfl)) ?_)
    refine ⟨Bool, inferInstance, bE, must, ⟨rfl, rfl, fun i hi => ⟨rfl, rfl⟩⟩, by show must.length * 1 ≤ _; omega, ?_⟩
    refine And.intro (show (0 : Int) ≤ (N : Int) ∧ (N : Int) < (must.length : Int) from ⟨by omega, by omega⟩) ?_
    refine ⟨true, rfl, rfl, ?_⟩
    refine Or.inr (lcall_frzTo [(4, .rd Bool inferInstance 1 bE (must.set N true))] ⟨rfl, rfl, ?_⟩)
    refine lcall_reps (brkD (wayL hMay'.par 0 0) (best hMay'.par 0 0).2 0) (fun ρ S w hm => break_ok _ _ _ hMay' _ _ _ w S hm.lt (hm.rdS 4 rfl rfl) (hm.rdS 1 rfl rfl) (hm.rdS 2 rfl rfl)) ?_
    refine And.intro (fun hh => by cases hh) (fun _ => ?_)
    have hwl := way_len _ _ _ _ (may_way hMay').1
    rw [hsl] at hwl
    generalize wayL hMay'.par 0 0 = way at *
    generalize (best hMay'.par 0 0).2 = y at *
    generalize (best hMay.par 0 0).2 = x at *
    generalize wayL hMay.par 0 0 = way0 at *
    refine ⟨{ j : Nat // j ≤ way.length }, fun j => ⟨103, [⟨3, [], .v (.int .i64 (N : Nat))⟩, ⟨10, [], .v (.int .i64 x)⟩, ⟨13, [], .sl 5⟩, ⟨14, [], .v (.int .i64 y)⟩, ⟨16, [], .v (.bool (hasF N way j.1))⟩, ⟨17, [], .v (.int .i64 (j.1 : Nat))⟩], [.rd Bool inferInstance 1 bE must, .rd Ln inferInstance 3 lE lines, .rd Int inferInstance 1 iE ws, .rd Nat inferInstance 1 nE way0, .rd Bool inferInstance 1 bE (must.set N true), .rd Nat inferInstance 1 nE way], [], dropL nats 6⟩, fun j => way.length - j.1, ⟨[0, 1, 2, 3, 4, 5], ⟨0, by omega⟩, ?_⟩, fun j => ?_⟩
    · refine And.intro (And.intro rfl (And.intro rfl (And.intro rfl (And.intro rfl (And.intro (svB ?_) (And.intro rfl trivial)))))) (And.intro rfl (And.intro rfl (And.intro rfl (And.intro rfl (And.intro rfl (And.intro rfl trivial))))))
      unfold hasF
      rw [List.take_zero, List.any_nil, Bool.or_false, decide_eq_decide]; omega
    obtain ⟨j, hj⟩ := j
    refine And.intro (fun hlt => ?_) (fun hge => ?_)
    · have hlt : j < way.length := by
        have : ((j : Nat) : Int) < ((way.length : Nat) : Int) := of_decide_eq_true hlt
        omega
      refine And.intro (fun _ => (show (0 : Int) ≤ (j : Int) ∧ (j : Int) < (way.length : Int) from ⟨by omega, by omega⟩)) ?_
      refine ⟨[0, 1, 2, 3, 4, 5], ⟨j + 1, hlt⟩, And.intro (And.intro rfl (And.intro rfl (And.intro rfl (And.intro rfl (And.intro (svB ?_) (And.intro (svI (i64_succ j (by omega))) trivial)))))) (And.intro rfl (And.intro rfl (And.intro rfl (And.intro rfl (And.intro rfl (And.intro rfl trivial)))))), by show way.length - (j + 1) < way.length - j; omega⟩
      show (hasF N way j || decide (((nth way j : Nat) : Int) = (N : Int))) = hasF N way (j + 1)
      rw [hasF_succ hlt]
      congr 1
      rw [decide_eq_decide]; omega
    · have hge : j = way.length := by
        have : ¬ ((j : Nat) : Int) < ((way.length : Nat) : Int) := of_decide_eq_false hge
        omega
      subst hge
      refine Or.inl ⟨.bool true, fun _ ρ S w' _ => works_c w', ?_⟩
      refine fun ρ S w' hi => ⟨retB ?_, hi.below⟩
      show ((decide (y ≥ x) && hasF N way way.length) && true) = true
      unfold hasF
      rw [List.take_length, l2, decide_eq_true l1]; rfl
  · have hMay' : ¬ May (must.set N true) lines ws := fun hh => hMay (hh.len hsl.symm)
    refine Or.inr (lcall_reps (brkD [] 0 2) (fun ρ S w hm => break_no _ _ _ hMay h0 h1 h2 _ _ _ w S hm.lt (hm.rdS 0 rfl rfl) (hm.rdS 1 rfl rfl) (hm.rdS 2 rfl rfl)) ?_)
    refine ⟨Bool, inferInstance, bE, must, ⟨rfl, rfl, fun i hi => ⟨rfl, rfl⟩⟩, by show must.length * 1 ≤ _; omega, ?_⟩
    refine And.intro (show (0 : Int) ≤ (N : Int) ∧ (N : Int) < (must.length : Int) from ⟨by omega, by omega⟩) ?_
    refine ⟨true, rfl, rfl, ?_⟩
    refine Or.inr (lcall_frzTo [(4, .rd Bool inferInstance 1 bE (must.set N true))] ⟨rfl, rfl, ?_⟩)
    refine lcall_reps (brkD [] 0 2) (fun ρ S w hm => break_no _ _ _ hMay' (by rw [hsl]; exact h0) h1 h2 _ _ _ w S hm.lt (hm.rdS 4 rfl rfl) (hm.rdS 1 rfl rfl) (hm.rdS 2 rfl rfl)) ?_
    refine And.intro (fun _ => ?_) (fun hh => by cases hh)
    refine Or.inl ⟨.bool true, fun _ ρ S w' _ => works_c w', ?_⟩
    exact fun ρ S w' hi => ⟨rfl, hi.below⟩
end Go.Proofs.Ytiaaiihdamkeaaa
