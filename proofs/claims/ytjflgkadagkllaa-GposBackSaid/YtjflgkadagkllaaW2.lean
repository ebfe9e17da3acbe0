/- calamusmake.Cover, anchor, with, kerns. -/
import Derived.Test.YtjflgkadagkllaaQ5
import Derived.Test.YtjflgkadagkllaaN14
set_option maxRecDepth 100000
set_option linter.unusedVariables false
namespace Go.Proofs.Ytjflgkadagkllaa
open Go Go.Eng Go.RowKit

theorem lt_of_dec {i n : Nat} (h : decide ((i : Int) < (n : Int)) = true) : i < n := by
  have : (i : Int) < (n : Int) := of_decide_eq_true h
  omega
theorem ge_of_dec {i n : Nat} (h : decide ((i : Int) < (n : Int)) = false) : n ≤ i := by
  have : ¬ (i : Int) < (n : Int) := of_decide_eq_false h
  omega
theorem bnds {i n : Nat} (h : i < n) : (0 : Int) ≤ (i : Int) ∧ (i : Int) < (n : Int) := ⟨by omega, by omega⟩
def covP (l : List Int) (i : Nat) : List Int := 1 :: (l.length : Int) :: l.take i
theorem covP_len (l : List Int) (i : Nat) : (covP l i).length ≤ l.length + 2 := by unfold covP; simp; omega
theorem covP_all (l : List Int) : covP l l.length = covW l := by unfold covP covW; rw [List.take_length]
theorem covP_next {l : List Int} {i : Nat} (h : i < l.length) (hu : U16 l) : wsB (covP l i) ++ wsB [IntKind.i64.wrap (nth l i)] = wsB (covP l (i + 1)) := by
  rw [← wsB_app, i64_u16 (hu.nth h)]
  unfold covP
  rw [List.take_succ_eq_append_getElem h, nthE h]; rfl
theorem cover_mk (l : List Int) (hu : U16 l) (hl : l.length ≤ 100000) (v : Value) (w : World) (hv : Rd w v 1 hE l) :
    Calls Try.prog 56 #[v] w fun e w' => ∃ u, e = .returned u ∧ Below w.heap.size w w' ∧ Fresh w w' u 5 1 bE (wsB (covW l)) := by
  refine calls_exec (cf := cf) cfok (fn := Try.f56) Try.func56 rfl [.sl 0] [.rd Int inferInstance 1 hE l] (ρ := fun _ => v) (· < w.heap.size) rfl rfl rfl (by simp [svOkL, svOk]) (memRd (fun _ h => h) ⟨hv, trivial⟩) ?_
  refine Or.inr (lcall_fresh (wsB [1, (l.length : Int)]) (fun ρ S w hm => words_o [1, (l.length : Int)] _ rfl (by simp) _ w (hm.raw 1 rfl rfl [1, (l.length : Int)] _ rfl rfl rfl (fun y hy => rfl))) ?_)
  refine ⟨{ i : Nat // i ≤ l.length }, fun i => ⟨25, [⟨0, [], .sl 0⟩, ⟨3, [], .sl 1⟩, ⟨4, [], .v (.int .i64 (i.1 : Nat))⟩], [.rd Int inferInstance 1 hE l, ow5 (wsB (covP l i.1))], [], dropL nats 2⟩, fun i => l.length - i.1, ⟨[0, 2], ⟨0, by omega⟩, ?_⟩, fun i => ?_⟩
  · exact And.intro (And.intro rfl (And.intro rfl (And.intro rfl trivial))) (And.intro rfl (And.intro rfl trivial))
  obtain ⟨i, hi⟩ := i
  refine And.intro (fun hlt => ?_) (fun hge => ?_)
  rotate_left
  · have hge : l.length ≤ i := ge_of_dec hge
    have e : i = l.length := by omega
    subst e
    rw [covP_all] at *
    exact fun ρ S w' hi => ⟨_, rfl, hi.below, hi.fresh 1 ⟨fun n => [.int .u8 n], fun _ => rfl⟩ rfl rfl⟩
  have hlt : i < l.length := lt_of_dec hlt
  have hcl := covP_len l i
  refine And.intro (bnds hlt) ?_
  refine Or.inr (lcall_fresh (wsB [IntKind.i64.wrap (nth l i)]) (fun ρ S w hm => words_o [IntKind.i64.wrap (nth l i)] _ rfl (by simp) _ w (hm.raw 2 rfl rfl [IntKind.i64.wrap (nth l i)] _ rfl rfl rfl (fun y hy => rfl))) ?_)
  refine ⟨wsB [IntKind.i64.wrap (nth l i)], ⟨rfl, rfl, fun _ _ => ⟨rfl, rfl⟩⟩, ?_, ?_⟩
  · show ((wsB (covP l i)).length + (wsB [IntKind.i64.wrap (nth l i)]).length) * 1 ≤ _
    rw [wsB_len, wsB_len]
    show ((covP l i).length * 2 + 1 * 2) * 1 ≤ _
    omega
  exact ⟨[0, 4], ⟨i + 1, hlt⟩, And.intro (And.intro rfl (And.intro rfl (And.intro (svI (i64_succ i (by omega))) trivial))) (And.intro rfl (And.intro (ow5e (covP_next hlt hu)) trivial)), by show l.length - (i + 1) < l.length - i; omega⟩
theorem anchor_mk (x y : Int) (w : World) :
    Calls Try.prog 61 #[.int .i16 x, .int .i16 y] w fun e w' => ∃ u, e = .returned u ∧ Below w.heap.size w w' ∧ Fresh w w' u 5 1 bE (wsB (anchW x y)) := by
  refine calls_exec (cf := cf) cfok (fn := Try.f61) Try.func61 rfl [.v (.int .i16 x), .v (.int .i16 y)] [] (ρ := fun _ => undef) (· < w.heap.size) rfl rfl rfl (by simp [svOkL, svOk]) (memNil fun _ h => h) ?_
  have e : wsB [1, IntKind.i64.wrap (IntKind.u16.wrap x), IntKind.i64.wrap (IntKind.u16.wrap y)] = wsB (anchW x y) := by
    have e1 := i64_u16 (u16_range x)
    have e2 := i64_u16 (u16_range y)
    unfold u16 at e1 e2
    rw [e1, e2]; rfl
  refine Or.inr (lcall_fresh (wsB (anchW x y)) (fun ρ S w hm => words_o [1, IntKind.i64.wrap (IntKind.u16.wrap x), IntKind.i64.wrap (IntKind.u16.wrap y)] _ e (by simp) _ w (hm.raw 0 rfl rfl [1, IntKind.i64.wrap (IntKind.u16.wrap x), IntKind.i64.wrap (IntKind.u16.wrap y)] _ rfl rfl rfl (fun y hy => rfl))) ?_)
  exact fun ρ S w' hi => ⟨_, rfl, hi.below, hi.fresh 1 ⟨fun n => [.int .u8 n], fun _ => rfl⟩ rfl rfl⟩
/-! ### with -/
abbrev wpE : List Int → List DV := fun p => [.sl Int inferInstance 1 bE (wsB p)]
theorem take_next {ps : List (List Int)} {i : Nat} (h : i < ps.length) : ps.take (i + 1) = ps.take i ++ [nth ps i] := by
  rw [List.take_succ_eq_append_getElem h, nthE h]
theorem flat_next {ps : List (List Int)} {i : Nat} (h : i < ps.length) : (ps.take (i + 1)).flatten = (ps.take i).flatten ++ nth ps i := by
  rw [take_next h, List.flatten_append]; simp
def wiA (ws : List Int) (ps : List (List Int)) (cov : List Int) : Int := 2 * (ws.length : Int) + 2 + 2 * (ps.length : Int) + 2 * (cov.length : Int)
def wi1 (ws : List Int) (ps : List (List Int)) (cov : List Int) (i : Nat) : List Int :=
  [nth ws 0, 2 * (ws.length : Int) + 2 + 2 * (ps.length : Int)] ++ ws.drop 1 ++ offs (wiA ws ps cov) (ps.take i)
def wi2 (ws : List Int) (ps : List (List Int)) (cov : List Int) (i : Nat) : List Int := wi1 ws ps cov ps.length ++ cov ++ (ps.take i).flatten
theorem wi1_len (ws : List Int) (ps : List (List Int)) (cov : List Int) (i : Nat) : (wi1 ws ps cov i).length ≤ 2 + ws.length + ps.length := by
  unfold wi1
  rw [List.length_append, List.length_append, offs_len, List.length_drop, List.length_take]
  simp
  omega
theorem wi1_next {ws : List Int} {ps : List (List Int)} {cov : List Int} {i : Nat} (h : i < ps.length) : wsB (wi1 ws ps cov i) ++ wsB [wiA ws ps cov + 2 * ((ps.take i).flatten.length : Int)] = wsB (wi1 ws ps cov (i + 1)) := by
  rw [← wsB_app]
  unfold wi1
  rw [take_next h, offs_app, List.append_assoc]
theorem wi2_next {ws : List Int} {ps : List (List Int)} {cov : List Int} {i : Nat} (h : i < ps.length) : wsB (wi2 ws ps cov i) ++ wsB (nth ps i) = wsB (wi2 ws ps cov (i + 1)) := by
  rw [← wsB_app]
  unfold wi2
  rw [flat_next h, List.append_assoc, List.append_assoc]
theorem wi2_end (ws : List Int) (ps : List (List Int)) (cov : List Int) : wi2 ws ps cov ps.length = withW ws ps cov := by
  unfold wi2 wi1 withW wiA
  rw [List.take_length]
theorem wi2_zero (ws : List Int) (ps : List (List Int)) (cov : List Int) : wsB (wi1 ws ps cov ps.length) ++ wsB cov = wsB (wi2 ws ps cov 0) := by
  rw [← wsB_app]
  unfold wi2
  simp
theorem wi2_len (ws : List Int) (ps : List (List Int)) (cov : List Int) (i : Nat) : (wi2 ws ps cov i).length ≤ 2 + ws.length + ps.length + cov.length + ps.flatten.length := by
  have h1 := wi1_len ws ps cov ps.length
  have h2 := take_flat_le ps i
  unfold wi2
  rw [List.length_append, List.length_append]
  omega
set_option maxHeartbeats 1000000 in
theorem with_mk (ws : List Int) (ps : List (List Int)) (cov : List Int) (h1 : 0 < ws.length) (h2 : ws.length ≤ 100) (h3 : ps.length ≤ 100000) (h4 : cov.length ≤ 200000) (h5 : ps.flatten.length ≤ 10000000) (v0 v1 v2 : Value) (w : World) (r0 : Rd w v0 1 zE ws) (r1 : Rd w v1 1 wpE ps) (r2 : Rd w v2 1 bE (wsB cov)) :
    Calls Try.prog 55 #[v0, v1, v2] w fun e w' => ∃ u, e = .returned u ∧ Below w.heap.size w w' ∧ Fresh w w' u 5 1 bE (wsB (withW ws ps cov)) := by
  refine calls_exec (cf := cf) cfok (fn := Try.f55) Try.func55 rfl [.sl 0, .sl 1, .sl 2] [.rd Int inferInstance 1 zE ws, .rd (List Int) inferInstance 1 wpE ps, .rd Int inferInstance 1 bE (wsB cov)] (ρ := fun i => match i with | 0 => v0 | 1 => v1 | _ => v2) (· < w.heap.size) rfl rfl rfl (by simp [svOkL, svOk]) (memRd (fun _ h => h) ⟨r0, r1, r2, trivial⟩) ?_
  have es : IntKind.i64.wrap (IntKind.i64.wrap (IntKind.i64.wrap (2 * (ws.length : Int)) + 2) + IntKind.i64.wrap (2 * (ps.length : Int))) = 2 * (ws.length : Int) + 2 + 2 * (ps.length : Int) := by
    rw [i64_id (2 * (ws.length : Int)) (by omega) (by omega), i64_id (2 * (ws.length : Int) + 2) (by omega) (by omega), i64_id (2 * (ps.length : Int)) (by omega) (by omega), i64_id _ (by omega) (by omega)]
  have ea : IntKind.i64.wrap (IntKind.i64.wrap (IntKind.i64.wrap (IntKind.i64.wrap (2 * (ws.length : Int)) + 2) + IntKind.i64.wrap (2 * (ps.length : Int))) + ((wsB cov).length : Int)) = wiA ws ps cov := by
    rw [es, wsB_len, i64_id _ (by omega) (by omega)]
    unfold wiA
    push_cast
    omega
  refine And.intro ⟨by omega, by omega⟩ ?_
  refine Or.inr (lcall_fresh (wsB [nth ws 0, 2 * (ws.length : Int) + 2 + 2 * (ps.length : Int)]) (fun ρ S w hm => words_o [nth ws 0, IntKind.i64.wrap (IntKind.i64.wrap (IntKind.i64.wrap (2 * (ws.length : Int)) + 2) + IntKind.i64.wrap (2 * (ps.length : Int)))] _ (by rw [es]) (by simp) _ w (hm.raw 3 rfl rfl [nth ws 0, IntKind.i64.wrap (IntKind.i64.wrap (IntKind.i64.wrap (2 * (ws.length : Int)) + 2) + IntKind.i64.wrap (2 * (ps.length : Int)))] _ rfl rfl rfl (fun y hy => rfl))) ?_)
  refine And.intro ⟨by omega, by omega, by omega⟩ ?_
  have emid : midL ws 1 ws.length = ws.drop 1 := by
    unfold midL
    rw [List.take_of_length_le (by rw [List.length_drop]; omega)]
  refine Or.inr (lcall_fresh (wsB (ws.drop 1)) (fun ρ S w hm => words_o (midL ws 1 ws.length) _ (by rw [emid]) (by rw [emid, List.length_drop]; omega) _ w (hm.rd 5 rfl rfl)) ?_)
  refine ⟨wsB (ws.drop 1), ⟨rfl, rfl, fun _ _ => ⟨rfl, rfl⟩⟩, ?_, ?_⟩
  · show ((wsB _).length + (wsB (ws.drop 1)).length) * 1 ≤ _
    rw [wsB_len, wsB_len, List.length_drop]
    show (2 * 2 + (ws.length - 1) * 2) * 1 ≤ _
    omega
  have e10 : wsB [nth ws 0, 2 * (ws.length : Int) + 2 + 2 * (ps.length : Int)] ++ wsB (ws.drop 1) = wsB (wi1 ws ps cov 0) := by
    rw [← wsB_app]
    unfold wi1
    rw [List.take_zero]
    show _ = wsB (_ ++ [])
    rw [List.append_nil]
  refine ⟨{ i : Nat // i ≤ ps.length }, fun i => ⟨69, [⟨0, [], .sl 0⟩, ⟨1, [], .sl 1⟩, ⟨2, [], .sl 2⟩, ⟨8, [], .sl 3⟩, ⟨9, [], .v (.int .i64 (wiA ws ps cov + 2 * ((ps.take i.1).flatten.length : Int)))⟩, ⟨10, [], .v (.int .i64 (i.1 : Nat))⟩], [.rd Int inferInstance 1 zE ws, .rd (List Int) inferInstance 1 wpE ps, .rd Int inferInstance 1 bE (wsB cov), ow5 (wsB (wi1 ws ps cov i.1))], [], dropL nats 4⟩, fun i => ps.length - i.1, ⟨[0, 1, 2, 7], ⟨0, by omega⟩, ?_⟩, fun i => ?_⟩
  · exact And.intro (And.intro rfl (And.intro rfl (And.intro rfl (And.intro rfl (And.intro (svI (by rw [ea]; show _ = _ + 2 * ((0 : Nat) : Int); omega)) (And.intro rfl trivial)))))) (And.intro rfl (And.intro rfl (And.intro rfl (And.intro (ow5e e10) trivial))))
  obtain ⟨i, hi⟩ := i
  have hf := take_flat_le ps i
  refine And.intro (fun hlt => ?_) (fun hge => ?_)
  · have hlt : i < ps.length := lt_of_dec hlt
    have hnf := nth_flat_le ps i hlt
    have hwl := wi1_len ws ps cov i
    refine Or.inr (lcall_fresh (wsB [wiA ws ps cov + 2 * ((ps.take i).flatten.length : Int)]) (fun ρ S w hm => words_o [wiA ws ps cov + 2 * ((ps.take i).flatten.length : Int)] _ rfl (by simp) _ w (hm.raw 4 rfl rfl [wiA ws ps cov + 2 * ((ps.take i).flatten.length : Int)] _ rfl rfl rfl (fun y hy => rfl))) ?_)
    refine ⟨wsB [wiA ws ps cov + 2 * ((ps.take i).flatten.length : Int)], ⟨rfl, rfl, fun _ _ => ⟨rfl, rfl⟩⟩, ?_, ?_⟩
    · show ((wsB _).length + (wsB [_]).length) * 1 ≤ _
      rw [wsB_len, wsB_len]
      show ((wi1 ws ps cov i).length * 2 + 1 * 2) * 1 ≤ _
      omega
    refine And.intro (bnds hlt) ?_
    have en : IntKind.i64.wrap (wiA ws ps cov + 2 * ((ps.take i).flatten.length : Int) + ((wsB (nth ps i)).length : Int)) = wiA ws ps cov + 2 * ((ps.take (i + 1)).flatten.length : Int) := by
      rw [wsB_len, flat_next hlt, List.length_append]
      unfold wiA
      rw [i64_id _ (by push_cast; omega) (by push_cast; omega)]
      push_cast
      omega
    exact ⟨[0, 1, 2, 6], ⟨i + 1, hlt⟩, And.intro (And.intro rfl (And.intro rfl (And.intro rfl (And.intro rfl (And.intro (svI en) (And.intro (svI (i64_succ i (by omega))) trivial)))))) (And.intro rfl (And.intro rfl (And.intro rfl (And.intro (ow5e (wi1_next hlt)) trivial)))), by show ps.length - (i + 1) < ps.length - i; omega⟩
  have hge : ps.length ≤ i := ge_of_dec hge
  have ei : i = ps.length := by omega
  subst ei
  have hwl := wi1_len ws ps cov ps.length
  refine ⟨wsB cov, ⟨rfl, rfl, fun _ _ => ⟨rfl, rfl⟩⟩, ?_, ?_⟩
  · show ((wsB _).length + (wsB cov).length) * 1 ≤ _
    rw [wsB_len, wsB_len]
    show ((wi1 ws ps cov ps.length).length * 2 + cov.length * 2) * 1 ≤ _
    omega
  refine ⟨{ i : Nat // i ≤ ps.length }, fun i => ⟨69, [⟨1, [], .sl 1⟩, ⟨8, [], .sl 3⟩, ⟨11, [], .v (.int .i64 (i.1 : Nat))⟩], [.rd Int inferInstance 1 zE ws, .rd (List Int) inferInstance 1 wpE ps, .rd Int inferInstance 1 bE (wsB cov), ow5 (wsB (wi2 ws ps cov i.1))], [], dropL nats 4⟩, fun i => ps.length - i.1, ⟨[0, 1, 2, 4], ⟨0, by omega⟩, ?_⟩, fun i => ?_⟩
  · exact And.intro (And.intro rfl (And.intro rfl (And.intro rfl trivial))) (And.intro rfl (And.intro rfl (And.intro rfl (And.intro (ow5e (wi2_zero ws ps cov)) trivial))))
  obtain ⟨i, hi⟩ := i
  refine And.intro (fun hlt => ?_) (fun hge => ?_)
  · have hlt : i < ps.length := lt_of_dec hlt
    have hnf := nth_flat_le ps i hlt
    have hwl := wi2_len ws ps cov i
    refine And.intro (bnds hlt) ?_
    refine ⟨wsB (nth ps i), ⟨rfl, rfl, fun _ _ => ⟨rfl, rfl⟩⟩, ?_, ?_⟩
    · show ((wsB _).length + (wsB (nth ps i)).length) * 1 ≤ _
      rw [wsB_len, wsB_len]
      show ((wi2 ws ps cov i).length * 2 + (nth ps i).length * 2) * 1 ≤ _
      omega
    exact ⟨[0, 1, 2, 5], ⟨i + 1, hlt⟩, And.intro (And.intro rfl (And.intro rfl (And.intro (svI (i64_succ i (by omega))) trivial))) (And.intro rfl (And.intro rfl (And.intro rfl (And.intro (ow5e (wi2_next hlt)) trivial)))), by show ps.length - (i + 1) < ps.length - i; omega⟩
  have hge : ps.length ≤ i := ge_of_dec hge
  have ei : i = ps.length := by omega
  subst ei
  rw [wi2_end] at *
  exact fun ρ S w' hi => ⟨_, rfl, hi.below, hi.fresh 3 ⟨fun n => [.int .u8 n], fun _ => rfl⟩ rfl rfl⟩
end Go.Proofs.Ytjflgkadagkllaa
