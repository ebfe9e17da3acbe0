/- The law BreakAll: a paragraph that must be broken everywhere is. -/
import Derived.Test.YtiaaiihdamkeaaaK11
set_option maxRecDepth 100000
set_option linter.unusedVariables false
namespace Go.Proofs.Ytiaaiihdamkeaaa
open Go Go.Eng Go.RowKit Go.Ar

theorem break_ok (must : List Bool) (lines : List Ln) (ws : List Int) (hMay : May must lines ws) (mv lv wv : Value) (w : World) (S : Nat → Prop) (hS : ∀ b, S b → b < w.heap.size)
    (hm : DRep S w (.sl Bool inferInstance 1 bE must) mv) (hl : DRep S w (.sl Ln inferInstance 3 lE lines) lv) (hw : DRep S w (.sl Int inferInstance 1 iE ws) wv) :
    Calls Try.prog 8 #[mv, lv, wv] w (BreakR (brkD (wayL hMay.par 0 0) (best hMay.par 0 0).2 0) S w) := break_p hMay.par hMay rfl mv lv wv w S hS hm hl hw
theorem total_ok (must : List Bool) (lines : List Ln) (ws : List Int) (hMay : May must lines ws) (br : List Nat) (hbr : WayOk must (must.length - 1) 0 br) (mv lv wv bv : Value) (w : World)
    (hm : Rd w mv 1 bE must) (hl : Rd w lv 3 lE lines) (hw : Rd w wv 1 iE ws) (hb : Rd w bv 1 nE br) :
    Calls Try.prog 9 #[mv, lv, wv, bv] w fun e w' => e = .returned (.tuple #[.int .i64 (totF hMay.par 0 0 br), .int .i64 0]) ∧ Below w.heap.size w w' := total_p hMay.par hMay rfl br hbr mv lv wv bv w hm hl hw hb
theorem may_way {must : List Bool} {lines : List Ln} {ws : List Int} (hMay : May must lines ws) : WayOk must (must.length - 1) 0 (wayL hMay.par 0 0) ∧ totF hMay.par 0 0 (wayL hMay.par 0 0) = (best hMay.par 0 0).2 :=
  way_ok hMay.par _ 0 0 (Nat.zero_le _) (Nat.le_refl _)
/-- so many yes ahead -/
def rowT (n i : Nat) : List Bool := List.replicate i true ++ List.replicate (n - i) false
theorem rowT_len {n i : Nat} (h : i ≤ n) : (rowT n i).length = n := by unfold rowT; simp; omega
theorem rowT_set {n i : Nat} (h : i < n) : (rowT n i).set i true = rowT n (i + 1) := by
  unfold rowT
  rw [List.set_append_right _ _ (by simp), List.length_replicate, Nat.sub_self, show n - i = (n - (i + 1)) + 1 by omega, List.replicate_succ, List.set_cons_zero, List.replicate_succ', List.append_assoc]
  rfl
theorem rowT_end (n : Nat) : rowT n n = List.replicate n true := by unfold rowT; rw [Nat.sub_self, List.replicate_zero, List.append_nil]
theorem all_way {N : Nat} {lines : List Ln} {ws : List Int} (hMay : May (List.replicate N true) lines ws) : wayL hMay.par 0 0 = List.range' 1 (N - 1) := by
  have := way_all (fun q hq => by
    have hm := hMay.m
    rw [List.length_replicate] at hq hm
    unfold nth
    rw [List.getD_eq_getElem?_getD, List.getElem?_replicate, if_pos (by omega)]
    rfl) _ 0 (may_way hMay).1
  rw [this, List.length_replicate]
  rfl
abbrev owB (xs : List Bool) : Chunk := .own 4 Bool inferInstance 1 bE xs
theorem owBe {a b : List Bool} (h : a = b) : owB a = owB b := by rw [h]
theorem lawAll_c (lines : List Ln) (ws : List Int) (n : Int) (h1 : lines.length ≤ 9223372036854775807) (h2 : ws.length ≤ 9223372036854775807) (lv wv : Value) (w : World) (hl : Rd w lv 3 lE lines) (hw : Rd w wv 1 iE ws) :
    Calls Try.prog 6 #[lv, wv, .int .i64 n] w fun e w' => e = .returned (.bool true) ∧ Below w.heap.size w w' := by
  refine calls_exec (cf := cf) cfok (fn := Try.f6) Try.func6 rfl [.sl 0, .sl 1, .v (.int .i64 n)] [.rd Ln inferInstance 3 lE lines, .rd Int inferInstance 1 iE ws] (ρ := fun i => if i = 0 then lv else wv) (· < w.heap.size) rfl rfl rfl (by simp [svOkL, svOk]) (memRd (fun _ h => h) ⟨hl, hw, trivial⟩) ?_
  refine And.intro (fun h => ?_) (fun h => ?_)
  · refine Or.inl ⟨.bool true, fun ρ S w' _ => works_c w', ?_⟩
    exact fun ρ S w' hi => ⟨rfl, hi.below⟩
  have h : (((decide ((lines.length : Int) > 1000) || decide ((ws.length : Int) > 1000)) || decide (n < 0)) || decide (n > 31)) = false := h
  rw [Bool.or_eq_false_iff, Bool.or_eq_false_iff, Bool.or_eq_false_iff, decide_eq_false_iff_not, decide_eq_false_iff_not, decide_eq_false_iff_not, decide_eq_false_iff_not] at h
  obtain ⟨N, rfl⟩ := Int.eq_ofNat_of_zero_le (show 0 ≤ n by omega)
  have hN : N ≤ 31 := by omega
  refine ⟨Bool, inferInstance, bE, false, rfl, by omega, by show (1 : Int) * _ ≤ _; omega, by omega, rfl, ?_⟩
  refine ⟨{ i : Nat // i ≤ N }, fun i => ⟨94, [⟨0, [], .sl 0⟩, ⟨1, [], .sl 1⟩, ⟨2, [], .v (.int .i64 (N : Nat))⟩, ⟨7, [], .sl 2⟩, ⟨8, [], .v (.int .i64 (i.1 : Nat))⟩], [.rd Ln inferInstance 3 lE lines, .rd Int inferInstance 1 iE ws, owB (rowT N i.1)], [], dropL nats 3⟩, fun i => N - i.1, ⟨[0, 1, 2], ⟨0, by omega⟩, ?_⟩, fun i => ?_⟩
  · exact And.intro (And.intro rfl (And.intro rfl (And.intro rfl (And.intro rfl (And.intro rfl trivial))))) (And.intro rfl (And.intro rfl (And.intro (owBe (by unfold rowT; rfl)) trivial)))
  obtain ⟨i, hi⟩ := i
  refine And.intro (fun hlt => ?_) (fun hge => ?_)
  · have hlt : i < N := by
      have : ((i : Nat) : Int) < ((N : Nat) : Int) := of_decide_eq_true hlt
      omega
    have hrl := rowT_len (show i ≤ N by omega)
    refine And.intro (show (0 : Int) ≤ (i : Int) ∧ (i : Int) < ((rowT N i).length : Int) from ⟨by omega, by omega⟩) ?_
    refine ⟨true, rfl, rfl, ?_⟩
    exact ⟨[0, 1, 2], ⟨i + 1, hlt⟩, And.intro (And.intro rfl (And.intro rfl (And.intro rfl (And.intro rfl (And.intro (svI (i64_succ i (by omega))) trivial))))) (And.intro rfl (And.intro rfl (And.intro (owBe (rowT_set hlt)) trivial))), by show N - (i + 1) < N - i; omega⟩
  have hge : i = N := by
    have : ¬ ((i : Nat) : Int) < ((N : Nat) : Int) := of_decide_eq_false hge
    omega
  subst hge
  refine Or.inr (lcall_frzTo [(2, .rd Bool inferInstance 1 bE (List.replicate i true))] ⟨rfl, congrArg (Chunk.rd Bool inferInstance 1 bE) (rowT_end i).symm, ?_⟩)
  by_cases hMay : May (List.replicate i true) lines ws
  · obtain ⟨hwok, hwt⟩ := may_way hMay
    rw [all_way hMay] at hwok hwt
    refine lcall_reps (brkD (List.range' 1 (i - 1)) (best hMay.par 0 0).2 0) (fun ρ S w hm => by
      have := break_ok _ _ _ hMay _ _ _ w S hm.lt (hm.rdS 2 rfl rfl) (hm.rdS 0 rfl rfl) (hm.rdS 1 rfl rfl)
      rw [all_way hMay] at this
      exact this) ?_
    refine And.intro (fun hh => by cases hh) (fun _ => ?_)
    have hm2 := hMay.m
    rw [List.length_replicate] at hm2
    have hrl : (List.range' 1 (i - 1)).length = i - 1 := List.length_range'
    refine And.intro (fun hh => ?_) (fun _ => ?_)
    · exfalso
      have hh : (!decide (((List.range' 1 (i - 1)).length : Int) = IntKind.i64.wrap ((i : Int) - 1))) = true := hh
      rw [hrl, i64_id _ (by omega) (by omega), decide_eq_true (by omega)] at hh
      cases hh
    refine ⟨{ j : Nat // j ≤ i - 1 }, fun j => ⟨94, [⟨0, [], .sl 0⟩, ⟨1, [], .sl 1⟩, ⟨7, [], .sl 2⟩, ⟨9, [], .sl 3⟩, ⟨10, [], .v (.int .i64 (best hMay.par 0 0).2)⟩, ⟨12, [], .v (.int .i64 (j.1 : Nat))⟩], [.rd Ln inferInstance 3 lE lines, .rd Int inferInstance 1 iE ws, .rd Bool inferInstance 1 bE (List.replicate i true), .rd Nat inferInstance 1 nE (List.range' 1 (i - 1))], [], dropL nats 4⟩, fun j => i - 1 - j.1, ⟨[0, 1, 2, 3], ⟨0, by omega⟩, ?_⟩, fun j => ?_⟩
    · exact And.intro (And.intro rfl (And.intro rfl (And.intro rfl (And.intro rfl (And.intro rfl (And.intro rfl trivial)))))) (And.intro rfl (And.intro rfl (And.intro rfl (And.intro rfl trivial))))
    obtain ⟨j, hj⟩ := j
    refine And.intro (fun hlt => ?_) (fun hge => ?_)
    · have hlt : j < i - 1 := by
        have : ((j : Nat) : Int) < (((List.range' 1 (i - 1)).length : Nat) : Int) := of_decide_eq_true hlt
        omega
      have hnj : nth (List.range' 1 (i - 1)) j = j + 1 := by
        unfold nth
        rw [List.getD_eq_getElem?_getD, List.getElem?_range' (by omega)]
        show 1 + 1 * j = j + 1
        omega
      refine And.intro (show (0 : Int) ≤ (j : Int) ∧ (j : Int) < ((List.range' 1 (i - 1)).length : Int) from ⟨by omega, by omega⟩) ?_
      refine And.intro (fun hh => ?_) (fun _ => ?_)
      · exfalso
        have hh : (!decide (((nth (List.range' 1 (i - 1)) j : Nat) : Int) = IntKind.i64.wrap ((j : Int) + 1))) = true := hh
        rw [hnj, i64_succ j (by omega), decide_eq_true rfl] at hh
        cases hh
      exact ⟨[0, 1, 2, 3], ⟨j + 1, hlt⟩, And.intro (And.intro rfl (And.intro rfl (And.intro rfl (And.intro rfl (And.intro rfl (And.intro (svI (i64_succ j (by omega))) trivial)))))) (And.intro rfl (And.intro rfl (And.intro rfl (And.intro rfl trivial)))), by show i - 1 - (j + 1) < i - 1 - j; omega⟩
    refine Or.inl ⟨.tuple #[.int .i64 (best hMay.par 0 0).2, .int .i64 0], fun ρ S w hm => by
      have := total_ok _ _ _ hMay _ hwok _ _ _ _ w (hm.rd 2 rfl rfl) (hm.rd 0 rfl rfl) (hm.rd 1 rfl rfl) (hm.rd 3 rfl rfl)
      rw [hwt] at this
      exact this, ?_⟩
    refine Or.inl ⟨.bool true, fun _ ρ S w' _ => works_c w', ?_⟩
    refine fun ρ S w' hi => ⟨retB ?_, hi.below⟩
    show ((decide ((0 : Int) = 0) && decide ((best hMay.par 0 0).2 = (best hMay.par 0 0).2)) && true) = true
    rw [decide_eq_true rfl, decide_eq_true rfl]; rfl
  · refine lcall_reps (brkD [] 0 2) (fun ρ S w hm => break_no _ _ _ hMay (by rw [List.length_replicate]; omega) h1 h2 _ _ _ w S hm.lt (hm.rdS 2 rfl rfl) (hm.rdS 0 rfl rfl) (hm.rdS 1 rfl rfl)) ?_
    refine And.intro (fun _ => ?_) (fun hh => by cases hh)
    refine Or.inl ⟨.bool true, fun _ ρ S w' _ => works_c w', ?_⟩
    exact fun ρ S w' hi => ⟨rfl, hi.below⟩
end Go.Proofs.Ytiaaiihdamkeaaa
