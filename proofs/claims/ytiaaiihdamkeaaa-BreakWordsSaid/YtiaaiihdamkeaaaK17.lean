/- The law BreakWords, walked. -/
import Derived.Test.YtiaaiihdamkeaaaK16
set_option maxRecDepth 100000
set_option linter.unusedVariables false
namespace Go.Proofs.Ytiaaiihdamkeaaa
open Go Go.Eng Go.RowKit Go.Ar

def fitsT (ws : List Int) (width : Int) (i : Nat) : Bool := (ws.take i).all fun x => decide (x ≤ width)
theorem fitsT_succ {ws : List Int} {width : Int} {i : Nat} (h : i < ws.length) : fitsT ws width (i + 1) = (fitsT ws width i && decide (nth ws i ≤ width)) := by
  unfold fitsT
  rw [List.take_succ_eq_append_getElem h, List.all_append, List.all_cons, List.all_nil, Bool.and_true]
  unfold nth
  rw [List.getD_eq_getElem?_getD, List.getElem?_eq_getElem h]
  rfl
theorem fitsT_end (ws : List Int) (width : Int) : fitsT ws width ws.length = fitsF ws width := by unfold fitsT fitsF; rw [List.take_length]
structure Sw (ws : List Int) (width : Int) (way : List Nat) where
  i : Nat
  over : Bool
  last : Nat
  hi : i ≤ way.length
  hw : WayOk (noM ws) ws.length last (way.drop i)
  e : (over || overs ws width last (way.drop i)) = overs ws width 0 way
theorem lawWords_c (ws : List Int) (width : Int) (h0 : ws.length ≤ 9223372036854775807) (v : Value) (w : World) (hv : Rd w v 1 iE ws) :
    Calls Try.prog 4 #[v, .int .i64 width] w fun e w' => e = .returned (.bool true) ∧ Below w.heap.size w w' := by
  refine calls_exec (cf := cf) cfok (fn := Try.f4) Try.func4 rfl [.sl 0, .v (.int .i64 width)] [.rd Int inferInstance 1 iE ws] (ρ := fun _ => v) (· < w.heap.size) rfl rfl rfl (by simp [svOkL, svOk]) (memRd (fun _ h => h) ⟨hv, trivial⟩) ?_
  refine And.intro (fun h => ?_) (fun h => ?_)
  · refine Or.inl ⟨.bool true, fun ρ S w' _ => works_c w', ?_⟩
    exact fun ρ S w' hi => ⟨rfl, hi.below⟩
  have h : (((decide ((ws.length : Int) < 1) || decide ((ws.length : Int) > 30)) || decide (width < 0)) || decide (width > 100000)) = false := h
  rw [Bool.or_eq_false_iff, Bool.or_eq_false_iff, Bool.or_eq_false_iff, decide_eq_false_iff_not, decide_eq_false_iff_not, decide_eq_false_iff_not, decide_eq_false_iff_not] at h
  have h1 : 1 ≤ ws.length ∧ ws.length ≤ 30 := by omega
  have hw : 0 ≤ width ∧ width ≤ 100000 := by omega
  refine ⟨{ i : Nat // i ≤ ws.length ∧ ∀ q, q < i → 0 ≤ nth ws q ∧ nth ws q ≤ 1000 }, fun i => ⟨128, [⟨0, [], .sl 0⟩, ⟨1, [], .v (.int .i64 width)⟩, ⟨5, [], .v (.bool (fitsT ws width i.1))⟩, ⟨6, [], .v (.int .i64 (i.1 : Nat))⟩], [.rd Int inferInstance 1 iE ws], [], dropL nats 1⟩, fun i => ws.length - i.1, ⟨[0], ⟨0, by omega, fun q hq => absurd hq (by omega)⟩, ?_⟩, fun i => ?_⟩
  · exact And.intro (And.intro rfl (And.intro rfl (And.intro rfl (And.intro rfl trivial)))) (And.intro rfl trivial)
  obtain ⟨i, hi, hall⟩ := i
  refine And.intro (fun hlt => ?_) (fun hge => ?_)
  · have hlt : i < ws.length := by
      have : ((i : Nat) : Int) < ((ws.length : Nat) : Int) := of_decide_eq_true hlt
      omega
    refine And.intro (show (0 : Int) ≤ (i : Int) ∧ (i : Int) < (ws.length : Int) from ⟨by omega, by omega⟩) ?_
    refine And.intro (fun _ => (show (0 : Int) ≤ (i : Int) ∧ (i : Int) < (ws.length : Int) from ⟨by omega, by omega⟩)) ?_
    refine And.intro (fun hb => ?_) (fun hb => ?_)
    · refine Or.inl ⟨.bool true, fun ρ S w' _ => works_c w', ?_⟩
      exact fun ρ S w' hi => ⟨rfl, hi.below⟩
    have hb : (decide (nth ws i < 0) || decide (nth ws i > 1000)) = false := hb
    rw [Bool.or_eq_false_iff, decide_eq_false_iff_not, decide_eq_false_iff_not] at hb
    refine And.intro (fun _ => (show (0 : Int) ≤ (i : Int) ∧ (i : Int) < (ws.length : Int) from ⟨by omega, by omega⟩)) ?_
    exact ⟨[0], ⟨i + 1, hlt, fun q hq => by
      by_cases e : q = i
      · rw [e]; omega
      · exact hall q (by omega)⟩, And.intro (And.intro rfl (And.intro rfl (And.intro (svB (fitsT_succ hlt).symm) (And.intro (svI (i64_succ i (by omega))) trivial)))) (And.intro rfl trivial), by show ws.length - (i + 1) < ws.length - i; omega⟩
  have hge : i = ws.length := by
    have : ¬ ((i : Nat) : Int) < ((ws.length : Nat) : Int) := of_decide_eq_false hge
    omega
  subst hge
  have hW : Wd ws := hall
  refine Or.inr (lcall_rep1 (.sl Ln inferInstance 3 lE (tab ws)) (fun ρ S w hm => table_c ws h1.2 hW _ w S hm.lt (hm.rdS 0 rfl rfl)) ?_)
  have e1 : IntKind.i64.wrap ((ws.length : Int) + 1) = ((ws.length + 1 : Nat) : Int) := i64_succ ws.length (by omega)
  refine ⟨Bool, inferInstance, bE, false, rfl, by rw [e1]; omega, by rw [e1]; show (1 : Int) * _ ≤ _; omega, by rw [e1]; omega, rfl, ?_⟩
  refine Or.inr (lcall_frzTo [(2, .rd Bool inferInstance 1 bE (noM ws)), (3, .rd Int inferInstance 1 iE [width])] ⟨rfl, congrArg (Chunk.rd Bool inferInstance 1 bE) (by rw [e1, Int.toNat_natCast]), rfl, ⟨rfl, rfl, rfl, fun y hy => rfl⟩, ?_⟩)
  have hMay := mayW h1 hW hw
  refine lcall_reps (brkD (wayL (mayW h1 hW hw).par 0 0) (best (mayW h1 hW hw).par 0 0).2 0) (fun ρ S w hm => break_ok _ _ _ (mayW h1 hW hw) _ _ _ w S hm.lt (hm.rdS 2 rfl rfl) (hm.rdS 1 rfl rfl) (hm.rdS 3 rfl rfl)) ?_
  obtain ⟨l1, l2⟩ := words_law h1 hW hw
  have hwok := (may_way (mayW h1 hW hw)).1
  rw [show (noM ws).length - 1 = ws.length by rw [List.length_replicate]; omega] at hwok
  generalize wayL (mayW h1 hW hw).par 0 0 = way at *
  generalize (best (mayW h1 hW hw).par 0 0).2 = sum at *
  have hne : 0 < way.length := by
    cases way with
    | nil => have : 0 = ws.length := hwok; omega
    | cons => simp
  have hlen := way_len _ _ _ _ hwok
  refine And.intro (fun hb => ?_) (fun _ => ?_)
  · exfalso
    have hb : (!decide ((0 : Int) = 0) || decide ((way.length : Int) = 0)) = true := hb
    rw [decide_eq_true rfl, decide_eq_false (by omega)] at hb
    cases hb
  refine ⟨Sw ws width way, fun s => ⟨128, [⟨1, [], .v (.int .i64 width)⟩, ⟨5, [], .v (.bool (fitsF ws width))⟩, ⟨7, [], .sl 1⟩, ⟨8, [], .sl 2⟩, ⟨9, [], .sl 4⟩, ⟨10, [], .v (.int .i64 sum)⟩, ⟨12, [], .v (.bool s.over)⟩, ⟨13, [], .v (.int .i64 (s.last : Nat))⟩, ⟨14, [], .v (.int .i64 (s.i : Nat))⟩], [.rd Int inferInstance 1 iE ws, .rd Ln inferInstance 3 lE (tab ws), .rd Bool inferInstance 1 bE (noM ws), .rd Int inferInstance 1 iE [width], .rd Nat inferInstance 1 nE way], [], dropL nats 5⟩, fun s => way.length - s.i, ⟨[0, 1, 2, 3, 4], ⟨0, false, 0, by omega, hwok, rfl⟩, ?_⟩, fun s => ?_⟩
  · exact And.intro (And.intro rfl (And.intro (svB (fitsT_end ws width)) (And.intro rfl (And.intro rfl (And.intro rfl (And.intro rfl (And.intro rfl (And.intro rfl (And.intro rfl trivial))))))))) (And.intro rfl (And.intro rfl (And.intro rfl (And.intro rfl (And.intro rfl trivial)))))
  obtain ⟨i, over, last, hi, hwy, he⟩ := s
  refine And.intro (fun hlt => ?_) (fun hge => ?_)
  · have hlt : i < way.length := by
      have : ((i : Nat) : Int) < ((way.length : Nat) : Int) := of_decide_eq_true hlt
      omega
    rw [nthN hlt] at hwy he
    obtain ⟨w1, w2, w3, w4⟩ := hwy
    have hsq := sq_lt (W := ws.length + 1) (show last < ws.length + 1 by omega) (show nth way i < ws.length + 1 by omega)
    have hsq2 : (ws.length + 1) * (ws.length + 1) ≤ 31 * 31 := Nat.mul_le_mul (by omega) (by omega)
    have hml : ((noM ws).length : Int) = ((ws.length + 1 : Nat) : Int) := by rw [List.length_replicate]
    have ex : IntKind.i64.wrap (IntKind.i64.wrap ((last : Int) * ((noM ws).length : Int)) + ((nth way i : Nat) : Int)) = ((last * (ws.length + 1) + nth way i : Nat) : Int) := by
      rw [hml, ← Int.natCast_mul, i64_id ((last * (ws.length + 1) : Nat) : Int) (by omega) (by omega), ← Int.natCast_add, i64_id _ (by omega) (by omega)]
    refine And.intro (show (0 : Int) ≤ (i : Int) ∧ (i : Int) < (way.length : Int) from ⟨by omega, by omega⟩) ?_
    refine And.intro (show 0 ≤ IntKind.i64.wrap (IntKind.i64.wrap ((last : Int) * ((noM ws).length : Int)) + ((nth way i : Nat) : Int)) ∧ IntKind.i64.wrap (IntKind.i64.wrap ((last : Int) * ((noM ws).length : Int)) + ((nth way i : Nat) : Int)) < (((tab ws).length : Nat) : Int) from by rw [ex, tab_len]; omega) ?_
    refine And.intro (show (0 : Int) ≤ (i : Int) ∧ (i : Int) < (way.length : Int) from ⟨by omega, by omega⟩) ?_
    have hr := lnW_range hW last (nth way i - last) (by omega)
    have hx : nth (tab ws) (IntKind.i64.wrap (IntKind.i64.wrap ((last : Int) * ((noM ws).length : Int)) + ((nth way i : Nat) : Int))).toNat = lnW ws last (nth way i - last) := by
      rw [ex, Int.toNat_natCast, tab_nth ws w1 w2]
    refine ⟨[0, 1, 2, 3, 4], ⟨i + 1, over || decide ((lnW ws last (nth way i - last)).h > width + (lnW ws last (nth way i - last)).k), nth way i, hlt, w4, ?_⟩, And.intro (And.intro rfl (And.intro rfl (And.intro rfl (And.intro rfl (And.intro rfl (And.intro rfl (And.intro (svB ?_) (And.intro rfl (And.intro (svI (i64_succ i (by omega))) trivial))))))))) (And.intro rfl (And.intro rfl (And.intro rfl (And.intro rfl (And.intro rfl trivial))))), by show way.length - (i + 1) < way.length - i; omega⟩
    · rw [← he, Bool.or_assoc]; rfl
    · show (over || decide ((nth (tab ws) (IntKind.i64.wrap (IntKind.i64.wrap ((last : Int) * ((noM ws).length : Int)) + ((nth way i : Nat) : Int))).toNat).h > IntKind.i64.wrap (width + (nth (tab ws) (IntKind.i64.wrap (IntKind.i64.wrap ((last : Int) * ((noM ws).length : Int)) + ((nth way i : Nat) : Int))).toNat).k))) = (over || decide ((lnW ws last (nth way i - last)).h > width + (lnW ws last (nth way i - last)).k))
      rw [hx, i64_id (width + (lnW ws last (nth way i - last)).k) (by omega) (by omega)]
  · have hge : i = way.length := by
      have : ¬ ((i : Nat) : Int) < ((way.length : Nat) : Int) := of_decide_eq_false hge
      omega
    subst hge
    have heo : over = overs ws width 0 way := by
      rw [← he, List.drop_length]
      show over = (over || false)
      rw [Bool.or_false]
    refine Or.inl ⟨.bool true, fun _ ρ S w' _ => works_c w', ?_⟩
    refine fun ρ S w' hi => ⟨retB ?_, hi.below⟩
    show ((decide (over = !fitsF ws width) && decide (decide (sum ≥ 1000000000000) = over)) && true) = true
    rw [heo, l2, l1]
    cases fitsF ws width <;> rfl
end Go.Proofs.Ytiaaiihdamkeaaa
