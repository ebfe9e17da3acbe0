/- calamusmake.Cover, anchor, with, kerns. -/
import Derived.Test.YtjflgkadagkllaaGreatQ5
import Derived.Test.YtjflgkadagkllaaGreatN13
set_option maxRecDepth 100000
set_option linter.unusedVariables false
namespace Go.Proofs.YtjflgkadagkllaaGreat
open Go Go.Eng Go.RowKit
theorem lt_of_dec {i n : Nat} (h : decide ((i : Int) < (n : Int)) = true) : i < n := by
 have : (i : Int) < (n : Int) := of_decide_eq_true h
 omega
theorem ge_of_dec {i n : Nat} (h : decide ((i : Int) < (n : Int)) = false) : n <= i := by
 have : ¬ (i : Int) < (n : Int) := of_decide_eq_false h
 omega
theorem bnds {i n : Nat} (h : i < n) : (0 : Int) <= (i : Int) /\ (i : Int) < (n : Int) := ⟨by omega, by omega⟩
def covP (l : List Int) (i : Nat) : List Int := 1 :: (l.length : Int) :: l.take i
theorem covP_len (l : List Int) (i : Nat) : (covP l i).length <= l.length + 2 := by unfold covP; simp; omega
theorem covP_all (l : List Int) : covP l l.length = covW l := by unfold covP covW; rw [List.take_length]
theorem covP_next {l : List Int} {i : Nat} (h : i < l.length) (hu : U16 l) : wsB (covP l i) ++ wsB [IntKind.i64.wrap (nth l i)] = wsB (covP l (i + 1)) := by
 rw [<- wsB_app, i64_u16 (hu.nth h)]
 unfold covP
 rw [List.take_succ_eq_append_getElem h, nthE h]; rfl
theorem cover_mk (l : List Int) (hu : U16 l) (hl : l.length <= 100000) (v : Value) (w : World) (hv : Rd w v 1 hE l) :
 Calls Tryz.prog 23 #[v] w fun e w' => ∃ u, e = .returned u /\ Below w.heap.size w w' /\ Fresh w w' u 5 1 bE (wsB (covW l)) := by
 refine calls_exec (cf := cf) cfok (fn := Tryz.f23) Tryz.func23 rfl [.sl 0] [.rd Int inferInstance 1 hE l] (ρ := fun _ => v) (· < w.heap.size) rfl rfl rfl (by simp [svOkL, svOk]) (memRd (fun _ h => h) ⟨hv, trivial⟩) ?_
 refine Or.inr (lcall_fresh (wsB [1, (l.length : Int)]) (fun ρ S w hm => words_o [1, (l.length : Int)] _ rfl (by simp) _ w (hm.raw 1 rfl rfl [1, (l.length : Int)] _ rfl rfl rfl (fun y hy => rfl))) ?_)
 refine ⟨{ i : Nat // i <= l.length }, fun i => ⟨25, [⟨0, [], .sl 0⟩, ⟨3, [], .sl 1⟩, ⟨4, [], .v (.int .i64 (i.1 : Nat))⟩], [.rd Int inferInstance 1 hE l, ow5 (wsB (covP l i.1))], [], dropL nats 2⟩, fun i => l.length - i.1, ⟨[0, 2], ⟨0, by omega⟩, ?_⟩, fun i => ?_⟩
 · exact aI (aI rfl (aI rfl (aI rfl trivial))) (aI rfl (aI rfl trivial))
 obtain ⟨i, hi⟩ := i
 refine aI (fun hlt => ?_) (fun hge => ?_)
 rotate_left
 · have hge : l.length <= i := ge_of_dec hge
   have e : i = l.length := by omega
   subst e
   rw [covP_all] at *
   exact fun ρ S w' hi => ⟨_, rfl, hi.below, hi.fresh 1 ⟨fun n => [.int .u8 n], fun _ => rfl⟩ rfl rfl⟩
 have hlt : i < l.length := lt_of_dec hlt
 have hcl := covP_len l i
 refine aI (bnds hlt) ?_
 refine Or.inr (lcall_fresh (wsB [IntKind.i64.wrap (nth l i)]) (fun ρ S w hm => words_o [IntKind.i64.wrap (nth l i)] _ rfl (by simp) _ w (hm.raw 2 rfl rfl [IntKind.i64.wrap (nth l i)] _ rfl rfl rfl (fun y hy => rfl))) ?_)
 refine ⟨wsB [IntKind.i64.wrap (nth l i)], ⟨rfl, rfl, fun _ _ => ⟨rfl, rfl⟩⟩, ?_, ?_⟩
 · show ((wsB (covP l i)).length + (wsB [IntKind.i64.wrap (nth l i)]).length) * 1 <= _
   rw [wsB_len, wsB_len]
   show ((covP l i).length * 2 + 1 * 2) * 1 <= _
   omega
 exact ⟨[0, 4], ⟨i + 1, hlt⟩, aI (aI rfl (aI rfl (aI (svI (i64_succ i (by omega))) trivial))) (aI rfl (aI (ow5e (covP_next hlt hu)) trivial)), by show l.length - (i + 1) < l.length - i; omega⟩
theorem anchor_mk (x y : Int) (w : World) :
 Calls Tryz.prog 28 #[.int .i16 x, .int .i16 y] w fun e w' => ∃ u, e = .returned u /\ Below w.heap.size w w' /\ Fresh w w' u 5 1 bE (wsB (anchW x y)) := by
 refine calls_exec (cf := cf) cfok (fn := Tryz.f28) Tryz.func28 rfl [.v (.int .i16 x), .v (.int .i16 y)] [] (ρ := fun _ => undef) (· < w.heap.size) rfl rfl rfl (by simp [svOkL, svOk]) (memNil fun _ h => h) ?_
 have e : wsB [1, IntKind.i64.wrap (IntKind.u16.wrap x), IntKind.i64.wrap (IntKind.u16.wrap y)] = wsB (anchW x y) := by
  have e1 := i64_u16 (u16_range x)
  have e2 := i64_u16 (u16_range y)
  unfold u16 at e1 e2
  rw [e1, e2]; rfl
 refine Or.inr (lcall_fresh (wsB (anchW x y)) (fun ρ S w hm => words_o [1, IntKind.i64.wrap (IntKind.u16.wrap x), IntKind.i64.wrap (IntKind.u16.wrap y)] _ e (by simp) _ w (hm.raw 0 rfl rfl [1, IntKind.i64.wrap (IntKind.u16.wrap x), IntKind.i64.wrap (IntKind.u16.wrap y)] _ rfl rfl rfl (fun y hy => rfl))) ?_)
 exact fun ρ S w' hi => ⟨_, rfl, hi.below, hi.fresh 1 ⟨fun n => [.int .u8 n], fun _ => rfl⟩ rfl rfl⟩
abbrev wpE : List Int -> List DV := fun p => [.sl Int inferInstance 1 bE (wsB p)]
theorem take_next {ps : List (List Int)} {i : Nat} (h : i < ps.length) : ps.take (i + 1) = ps.take i ++ [nth ps i] := by
 rw [List.take_succ_eq_append_getElem h, nthE h]
theorem flat_next {ps : List (List Int)} {i : Nat} (h : i < ps.length) : (ps.take (i + 1)).flatten = (ps.take i).flatten ++ nth ps i := by
 rw [take_next h, List.flatten_append]; simp
def wiA (ws : List Int) (ps : List (List Int)) (cov : List Int) : Int := 2 * (ws.length : Int) + 2 + 2 * (ps.length : Int) + 2 * (cov.length : Int)
def wi1 (ws : List Int) (ps : List (List Int)) (cov : List Int) (i : Nat) : List Int :=
 [nth ws 0, 2 * (ws.length : Int) + 2 + 2 * (ps.length : Int)] ++ ws.drop 1 ++ offs (wiA ws ps cov) (ps.take i)
def wi2 (ws : List Int) (ps : List (List Int)) (cov : List Int) (i : Nat) : List Int := wi1 ws ps cov ps.length ++ cov ++ (ps.take i).flatten
theorem wi1_len (ws : List Int) (ps : List (List Int)) (cov : List Int) (i : Nat) : (wi1 ws ps cov i).length <= 2 + ws.length + ps.length := by
 unfold wi1
 rw [List.length_append, List.length_append, offs_len, List.length_drop, List.length_take]
 simp
 omega
theorem wi1_next {ws : List Int} {ps : List (List Int)} {cov : List Int} {i : Nat} (h : i < ps.length) : wsB (wi1 ws ps cov i) ++ wsB [wiA ws ps cov + 2 * ((ps.take i).flatten.length : Int)] = wsB (wi1 ws ps cov (i + 1)) := by
 rw [<- wsB_app]
 unfold wi1
 rw [take_next h, offs_app, List.append_assoc]
theorem wi2_next {ws : List Int} {ps : List (List Int)} {cov : List Int} {i : Nat} (h : i < ps.length) : wsB (wi2 ws ps cov i) ++ wsB (nth ps i) = wsB (wi2 ws ps cov (i + 1)) := by
 rw [<- wsB_app]
 unfold wi2
 rw [flat_next h, List.append_assoc, List.append_assoc]
theorem wi2_end (ws : List Int) (ps : List (List Int)) (cov : List Int) : wi2 ws ps cov ps.length = withW ws ps cov := by
 unfold wi2 wi1 withW wiA
 rw [List.take_length]
theorem wi2_zero (ws : List Int) (ps : List (List Int)) (cov : List Int) : wsB (wi1 ws ps cov ps.length) ++ wsB cov = wsB (wi2 ws ps cov 0) := by
 rw [<- wsB_app]
 unfold wi2
 simp
theorem wi2_len (ws : List Int) (ps : List (List Int)) (cov : List Int) (i : Nat) : (wi2 ws ps cov i).length <= 2 + ws.length + ps.length + cov.length + ps.flatten.length := by
 have h1 := wi1_len ws ps cov ps.length
 have h2 := take_flat_le ps i
 unfold wi2
 rw [List.length_append, List.length_append]
 omega
set_option maxHeartbeats 1000000 in
theorem with_mk (ws : List Int) (ps : List (List Int)) (cov : List Int) (h1 : 0 < ws.length) (h2 : ws.length <= 100) (h3 : ps.length <= 100000) (h4 : cov.length <= 200000) (h5 : ps.flatten.length <= 10000000) (v0 v1 v2 : Value) (w : World) (r0 : Rd w v0 1 zE ws) (r1 : Rd w v1 1 wpE ps) (r2 : Rd w v2 1 bE (wsB cov)) :
 Calls Tryz.prog 22 #[v0, v1, v2] w fun e w' => ∃ u, e = .returned u /\ Below w.heap.size w w' /\ Fresh w w' u 5 1 bE (wsB (withW ws ps cov)) := by
 refine calls_exec (cf := cf) cfok (fn := Tryz.f22) Tryz.func22 rfl [.sl 0, .sl 1, .sl 2] [.rd Int inferInstance 1 zE ws, .rd (List Int) inferInstance 1 wpE ps, .rd Int inferInstance 1 bE (wsB cov)] (ρ := fun i => match i with | 0 => v0 | 1 => v1 | _ => v2) (· < w.heap.size) rfl rfl rfl (by simp [svOkL, svOk]) (memRd (fun _ h => h) ⟨r0, r1, r2, trivial⟩) ?_
 have es : IntKind.i64.wrap (IntKind.i64.wrap (IntKind.i64.wrap (2 * (ws.length : Int)) + 2) + IntKind.i64.wrap (2 * (ps.length : Int))) = 2 * (ws.length : Int) + 2 + 2 * (ps.length : Int) := by
  rw [i64_id (2 * (ws.length : Int)) (by omega) (by omega), i64_id (2 * (ws.length : Int) + 2) (by omega) (by omega), i64_id (2 * (ps.length : Int)) (by omega) (by omega), i64_id _ (by omega) (by omega)]
 have ea : IntKind.i64.wrap (IntKind.i64.wrap (IntKind.i64.wrap (IntKind.i64.wrap (2 * (ws.length : Int)) + 2) + IntKind.i64.wrap (2 * (ps.length : Int))) + ((wsB cov).length : Int)) = wiA ws ps cov := by
  rw [es, wsB_len, i64_id _ (by omega) (by omega)]
  unfold wiA
  push_cast
  omega
 refine aI ⟨by omega, by omega⟩ ?_
 refine Or.inr (lcall_fresh (wsB [nth ws 0, 2 * (ws.length : Int) + 2 + 2 * (ps.length : Int)]) (fun ρ S w hm => words_o [nth ws 0, IntKind.i64.wrap (IntKind.i64.wrap (IntKind.i64.wrap (2 * (ws.length : Int)) + 2) + IntKind.i64.wrap (2 * (ps.length : Int)))] _ (by rw [es]) (by simp) _ w (hm.raw 3 rfl rfl [nth ws 0, IntKind.i64.wrap (IntKind.i64.wrap (IntKind.i64.wrap (2 * (ws.length : Int)) + 2) + IntKind.i64.wrap (2 * (ps.length : Int)))] _ rfl rfl rfl (fun y hy => rfl))) ?_)
 refine aI ⟨by omega, by omega, by omega⟩ ?_
 have emid : midL ws 1 ws.length = ws.drop 1 := by
  unfold midL
  rw [List.take_of_length_le (by rw [List.length_drop]; omega)]
 refine Or.inr (lcall_fresh (wsB (ws.drop 1)) (fun ρ S w hm => words_o (midL ws 1 ws.length) _ (by rw [emid]) (by rw [emid, List.length_drop]; omega) _ w (hm.rd 5 rfl rfl)) ?_)
 refine ⟨wsB (ws.drop 1), ⟨rfl, rfl, fun _ _ => ⟨rfl, rfl⟩⟩, ?_, ?_⟩
 · show ((wsB _).length + (wsB (ws.drop 1)).length) * 1 <= _
   rw [wsB_len, wsB_len, List.length_drop]
   show (2 * 2 + (ws.length - 1) * 2) * 1 <= _
   omega
 have e10 : wsB [nth ws 0, 2 * (ws.length : Int) + 2 + 2 * (ps.length : Int)] ++ wsB (ws.drop 1) = wsB (wi1 ws ps cov 0) := by
  rw [<- wsB_app]
  unfold wi1
  rw [List.take_zero]
  show _ = wsB (_ ++ [])
  rw [List.append_nil]
 refine ⟨{ i : Nat // i <= ps.length }, fun i => ⟨69, [⟨0, [], .sl 0⟩, ⟨1, [], .sl 1⟩, ⟨2, [], .sl 2⟩, ⟨8, [], .sl 3⟩, ⟨9, [], .v (.int .i64 (wiA ws ps cov + 2 * ((ps.take i.1).flatten.length : Int)))⟩, ⟨10, [], .v (.int .i64 (i.1 : Nat))⟩], [.rd Int inferInstance 1 zE ws, .rd (List Int) inferInstance 1 wpE ps, .rd Int inferInstance 1 bE (wsB cov), ow5 (wsB (wi1 ws ps cov i.1))], [], dropL nats 4⟩, fun i => ps.length - i.1, ⟨[0, 1, 2, 7], ⟨0, by omega⟩, ?_⟩, fun i => ?_⟩
 · exact aI (aI rfl (aI rfl (aI rfl (aI rfl (aI (svI (by rw [ea]; show _ = _ + 2 * ((0 : Nat) : Int); omega)) (aI rfl trivial)))))) (aI rfl (aI rfl (aI rfl (aI (ow5e e10) trivial))))
 obtain ⟨i, hi⟩ := i
 have hf := take_flat_le ps i
 refine aI (fun hlt => ?_) (fun hge => ?_)
 · have hlt : i < ps.length := lt_of_dec hlt
   have hnf := nth_flat_le ps i hlt
   have hwl := wi1_len ws ps cov i
   refine Or.inr (lcall_fresh (wsB [wiA ws ps cov + 2 * ((ps.take i).flatten.length : Int)]) (fun ρ S w hm => words_o [wiA ws ps cov + 2 * ((ps.take i).flatten.length : Int)] _ rfl (by simp) _ w (hm.raw 4 rfl rfl [wiA ws ps cov + 2 * ((ps.take i).flatten.length : Int)] _ rfl rfl rfl (fun y hy => rfl))) ?_)
   refine ⟨wsB [wiA ws ps cov + 2 * ((ps.take i).flatten.length : Int)], ⟨rfl, rfl, fun _ _ => ⟨rfl, rfl⟩⟩, ?_, ?_⟩
   · show ((wsB _).length + (wsB [_]).length) * 1 <= _
     rw [wsB_len, wsB_len]
     show ((wi1 ws ps cov i).length * 2 + 1 * 2) * 1 <= _
     omega
   refine aI (bnds hlt) ?_
   have en : IntKind.i64.wrap (wiA ws ps cov + 2 * ((ps.take i).flatten.length : Int) + ((wsB (nth ps i)).length : Int)) = wiA ws ps cov + 2 * ((ps.take (i + 1)).flatten.length : Int) := by
    rw [wsB_len, flat_next hlt, List.length_append]
    unfold wiA
    rw [i64_id _ (by push_cast; omega) (by push_cast; omega)]
    push_cast
    omega
   exact ⟨[0, 1, 2, 6], ⟨i + 1, hlt⟩, aI (aI rfl (aI rfl (aI rfl (aI rfl (aI (svI en) (aI (svI (i64_succ i (by omega))) trivial)))))) (aI rfl (aI rfl (aI rfl (aI (ow5e (wi1_next hlt)) trivial)))), by show ps.length - (i + 1) < ps.length - i; omega⟩
 have hge : ps.length <= i := ge_of_dec hge
 have ei : i = ps.length := by omega
 subst ei
 have hwl := wi1_len ws ps cov ps.length
 refine ⟨wsB cov, ⟨rfl, rfl, fun _ _ => ⟨rfl, rfl⟩⟩, ?_, ?_⟩
 · show ((wsB _).length + (wsB cov).length) * 1 <= _
   rw [wsB_len, wsB_len]
   show ((wi1 ws ps cov ps.length).length * 2 + cov.length * 2) * 1 <= _
   omega
 refine ⟨{ i : Nat // i <= ps.length }, fun i => ⟨69, [⟨1, [], .sl 1⟩, ⟨8, [], .sl 3⟩, ⟨11, [], .v (.int .i64 (i.1 : Nat))⟩], [.rd Int inferInstance 1 zE ws, .rd (List Int) inferInstance 1 wpE ps, .rd Int inferInstance 1 bE (wsB cov), ow5 (wsB (wi2 ws ps cov i.1))], [], dropL nats 4⟩, fun i => ps.length - i.1, ⟨[0, 1, 2, 4], ⟨0, by omega⟩, ?_⟩, fun i => ?_⟩
 · exact aI (aI rfl (aI rfl (aI rfl trivial))) (aI rfl (aI rfl (aI rfl (aI (ow5e (wi2_zero ws ps cov)) trivial))))
 obtain ⟨i, hi⟩ := i
 refine aI (fun hlt => ?_) (fun hge => ?_)
 · have hlt : i < ps.length := lt_of_dec hlt
   have hnf := nth_flat_le ps i hlt
   have hwl := wi2_len ws ps cov i
   refine aI (bnds hlt) ?_
   refine ⟨wsB (nth ps i), ⟨rfl, rfl, fun _ _ => ⟨rfl, rfl⟩⟩, ?_, ?_⟩
   · show ((wsB _).length + (wsB (nth ps i)).length) * 1 <= _
     rw [wsB_len, wsB_len]
     show ((wi2 ws ps cov i).length * 2 + (nth ps i).length * 2) * 1 <= _
     omega
   exact ⟨[0, 1, 2, 5], ⟨i + 1, hlt⟩, aI (aI rfl (aI rfl (aI (svI (i64_succ i (by omega))) trivial))) (aI rfl (aI rfl (aI rfl (aI (ow5e (wi2_next hlt)) trivial)))), by show ps.length - (i + 1) < ps.length - i; omega⟩
 have hge : ps.length <= i := ge_of_dec hge
 have ei : i = ps.length := by omega
 subst ei
 rw [wi2_end] at *
 exact fun ρ S w' hi => ⟨_, rfl, hi.below, hi.fresh 3 ⟨fun n => [.int .u8 n], fun _ => rfl⟩ rfl rfl⟩
end Go.Proofs.YtjflgkadagkllaaGreat

/- calamusmake.kerns. -/
set_option maxRecDepth 100000
set_option linter.unusedVariables false
namespace Go.Proofs.YtjflgkadagkllaaGreat
open Go Go.Eng Go.RowKit
theorem kgrp_run (A : Int) : ∀ (p r : List Kern), p ≠ [] -> (∀ k ∈ p, k.a = A) -> (∀ k, r.head? = some k -> k.a ≠ A) -> kgrp (p ++ r) = (A, p) :: kgrp r
 | [], r, h, _, _ => absurd rfl h
 | k :: [], r, _, hA, hr => by
  have ha := hA k (List.mem_cons_self ..)
  show kgrp (k :: r) = _
  rw [kgrp]
  match r, hr with
  | [], _ => rw [<- ha]; rfl
  | x :: r', hr =>
   have hx := hr x rfl
   have : ∃ l t, kgrp (x :: r') = (x.a, l) :: t := by
    rw [kgrp]
    split
    · exact ⟨_, _, rfl⟩
    · rename_i A' l t _
      split
      · rename_i e; exact ⟨_, _, by rw [e]⟩
      · exact ⟨_, _, rfl⟩
   obtain ⟨l, t, e⟩ := this
   rw [e]
   simp only
   rw [if_neg (by rw [ha]; exact hx), ha]
 | k :: k2 :: p, r, _, hA, hr => by
  have ha := hA k (List.mem_cons_self ..)
  have ih := kgrp_run A (k2 :: p) r (by simp) (fun x hx => hA x (List.mem_cons_of_mem _ hx)) hr
  show kgrp (k :: ((k2 :: p) ++ r)) = _
  rw [kgrp, ih]
  simp only
  rw [if_pos ha.symm]
abbrev owWp (xs : List (List Int)) : Chunk := .own 26 (List Int) inferInstance 1 wpE xs
theorem owWpe {a b : List (List Int)} (h : a = b) : owWp a = owWp b := by rw [h]
theorem owWe {a b : List Int} (h : a = b) : owW a = owW b := by rw [h]
def kFl (l : List Kern) : List Int := flat2 (fun k => k.b) (fun k => u16 k.x) l
structure KO (ks : List Kern) where
 i : Nat
 done : List (Int × List Kern)
 hi : i <= ks.length
 e : kgrp ks = done ++ kgrp (ks.drop i)
structure KI (ks : List Kern) (i : Nat) where
 k : Nat
 h1 : i <= k
 hk : k <= ks.length
 all : ∀ j, i <= j -> j < k -> (nth ks j).a = (nth ks i).a
def run' (ks : List Kern) (i k : Nat) : List Kern := (ks.drop i).take (k - i)
theorem run_next {ks : List Kern} {i k : Nat} (h1 : i <= k) (h : k < ks.length) : run' ks i (k + 1) = run' ks i k ++ [nth ks k] := by
 unfold run'
 rw [show k + 1 - i = (k - i) + 1 by omega, List.take_succ_eq_append_getElem (by rw [List.length_drop]; omega), List.getElem_drop]
 congr 2
 rw [nthE h]
 congr 1
 omega
theorem run_len {ks : List Kern} {i k : Nat} (h1 : i <= k) (h : k <= ks.length) : (run' ks i k).length = k - i := by
 unfold run'
 rw [List.length_take, List.length_drop]
 omega
theorem run_mem {ks : List Kern} {i k : Nat} (h1 : i <= k) (h : k <= ks.length) {x : Kern} (hx : x ∈ run' ks i k) : ∃ j, i <= j /\ j < k /\ nth ks j = x := by
 obtain ⟨n, hn, e⟩ := List.getElem_of_mem hx
 rw [run_len h1 h] at hn
 refine ⟨i + n, by omega, by omega, ?_⟩
 rw [<- e]
 rw [nthE (by omega : i + n < ks.length)]
 simp only [run', List.getElem_take, List.getElem_drop]
theorem run_app {ks : List Kern} {i k : Nat} (h1 : i <= k) : run' ks i k ++ ks.drop k = ks.drop i := by
 unfold run'
 have : ks.drop k = (ks.drop i).drop (k - i) := by rw [List.drop_drop]; congr 1; omega
 rw [this, List.take_append_drop]
theorem kFl_next {l : List Kern} {k : Kern} (hk : (0 <= k.b /\ k.b <= 65535)) : wsB (kFl l) ++ wsB [IntKind.i64.wrap k.b, IntKind.i64.wrap (IntKind.u16.wrap k.x)] = wsB (kFl (l ++ [k])) := by
 have e2 := i64_u16 (u16_range k.x)
 unfold u16 at e2
 rw [<- wsB_app, i64_u16 hk, e2]
 unfold kFl flat2
 rw [List.flatMap_append]
 rfl
theorem kFl_len (l : List Kern) : (kFl l).length = l.length * 2 := flat2_len _ _ l
theorem kgrp_key : ∀ (ks : List Kern) (p : Int × List Kern), p ∈ kgrp ks -> ∃ k ∈ ks, k.a = p.1
 | [], p, h => (by cases h)
 | k :: r, p, h => by
  rw [kgrp] at h
  split at h
  · rw [List.mem_singleton] at h
    exact ⟨k, List.mem_cons_self .., by rw [h]⟩
  · rename_i A l t hg
    have ih := kgrp_key r
    rw [hg] at ih
    split at h
    · rename_i e
      rcases List.mem_cons.1 h with h | h
      · exact ⟨k, List.mem_cons_self .., by rw [h]; exact e.symm⟩
      · obtain ⟨x, hx, e2⟩ := ih p (List.mem_cons_of_mem _ h)
        exact ⟨x, List.mem_cons_of_mem _ hx, e2⟩
    · rcases List.mem_cons.1 h with h | h
      · exact ⟨k, List.mem_cons_self .., by rw [h]⟩
      · obtain ⟨x, hx, e2⟩ := ih p h
        exact ⟨x, List.mem_cons_of_mem _ hx, e2⟩
set_option maxHeartbeats 2000000 in
theorem kerns_mk (ks : List Kern) (hr : ∀ k ∈ ks, (0 <= k.a /\ k.a <= 65535) /\ (0 <= k.b /\ k.b <= 65535) /\ (-32768 <= k.x /\ k.x <= 32767)) (hl : ks.length <= 100000) (v : Value) (w : World) (hv : Rd w v 3 keE ks) :
 Calls Tryz.prog 27 #[v] w fun e w' => ∃ u, e = .returned u /\ Below w.heap.size w w' /\ Fresh w w' u 5 1 bE (wsB (kerW ks)) := by
 refine calls_exec (cf := cf) cfok (fn := Tryz.f27) Tryz.func27 rfl [.sl 0] [.rd Kern inferInstance 3 keE ks] (ρ := fun _ => v) (· < w.heap.size) rfl rfl rfl (by simp [svOkL, svOk]) (memRd (fun _ h => h) ⟨hv, trivial⟩) ?_
 refine ⟨KO ks, fun z => ⟨75, [⟨0, [], .sl 0⟩, ⟨3, [], .sl 1⟩, ⟨4, [], .sl 2⟩, ⟨5, [], .v (.int .i64 (z.i : Nat))⟩], [.rd Kern inferInstance 3 keE ks, owW (ksOf z.done), owWp (z.done.map fun p => ksetW p.2)], [], dropL nats 3⟩, fun z => ks.length - z.i, ⟨[0, 1000, 1001], ⟨0, [], by omega, rfl⟩, ?_⟩, fun z => ?_⟩
 · exact aI (aI rfl (aI rfl (aI rfl (aI rfl trivial)))) (aI rfl (aI rfl (aI rfl trivial)))
 obtain ⟨i, done, hi, he⟩ := z
 have hg := kgrp_le ks
 have hdl : done.length <= ks.length := by
  have := congrArg List.length he
  rw [List.length_append] at this
  omega
 refine aI (fun hlt => ?_) (fun hge => ?_)
 · have hlt : i < ks.length := lt_of_dec hlt
   refine ⟨KI ks i, fun z => ⟨75, [⟨0, [], .sl 0⟩, ⟨3, [], .sl 1⟩, ⟨4, [], .sl 2⟩, ⟨5, [], .v (.int .i64 (i : Nat))⟩, ⟨6, [], .v (.int .i64 (z.k : Nat))⟩, ⟨7, [], .sl 3⟩], [.rd Kern inferInstance 3 keE ks, owW (ksOf done), owWp (done.map fun p => ksetW p.2), ow5 (wsB (kFl (run' ks i z.k)))], [], dropL nats 4⟩, fun z => ks.length - z.k, ⟨[0, 1, 2, 1000], ⟨i, by omega, by omega, fun j h1 h2 => by omega⟩, ?_⟩, fun z => ?_⟩
   · have e0 : wsB (kFl (run' ks i i)) = [] := by unfold run'; rw [Nat.sub_self, List.take_zero]; rfl
     exact aI (aI rfl (aI rfl (aI rfl (aI rfl (aI rfl (aI rfl trivial)))))) (aI rfl (aI rfl (aI rfl (aI e0 trivial))))
   obtain ⟨k, h1, hk, all⟩ := z
   have hrl := run_len h1 hk
   refine Or.inl ⟨by kernel_rfl, ?_⟩
   refine aI (fun hg => bnds (lt_of_dec hg)) ?_
   refine aI (fun _ => bnds hlt) ?_
   refine aI (fun hc => ?_) (fun hc => ?_)
   · have hc : (decide ((k : Int) < (ks.length : Int)) && decide ((nth ks k).a = (nth ks i).a)) = true := hc
     rw [Bool.and_eq_true, decide_eq_true_iff, decide_eq_true_iff] at hc
     have hkl : k < ks.length := by omega
     have hm := hr _ (nth_mem hkl)
     refine Or.inr (Or.inr (Or.inl ⟨[0, 1, 2, 3, 4, 5, 6, 7, 8, 9, 10, 11, 12, 13, 14, 15], [14, 15], [16, 17], by kernel_rfl, ?_⟩))
     refine aI (bnds hkl) ?_
     refine aI (bnds hkl) ?_
     refine mcall_fresh (wsB [IntKind.i64.wrap (nth ks k).b, IntKind.i64.wrap (IntKind.u16.wrap (nth ks k).x)]) (fun ρ S w hm => words_o [IntKind.i64.wrap (nth ks k).b, IntKind.i64.wrap (IntKind.u16.wrap (nth ks k).x)] _ rfl (by simp) _ w (hm.raw 4 rfl rfl [IntKind.i64.wrap (nth ks k).b, IntKind.i64.wrap (IntKind.u16.wrap (nth ks k).x)] _ rfl rfl rfl (fun y hy => rfl))) ?_
     refine ⟨wsB [IntKind.i64.wrap (nth ks k).b, IntKind.i64.wrap (IntKind.u16.wrap (nth ks k).x)], ⟨rfl, rfl, fun _ _ => ⟨rfl, rfl⟩⟩, ?_, ?_⟩
     · show ((wsB _).length + (wsB [_, _]).length) * 1 <= _
       rw [wsB_len, wsB_len]
       show ((kFl (run' ks i k)).length * 2 + 2 * 2) * 1 <= _
       rw [kFl_len]
       omega
     refine ⟨[0, 1, 2, 6], ⟨k + 1, by omega, hkl, fun j a b => ?_⟩, aI (aI rfl (aI rfl (aI rfl (aI rfl (aI (svI (i64_succ k (by omega))) (aI rfl trivial)))))) (aI rfl (aI rfl (aI rfl (aI (ow5e ?_) trivial)))), by show ks.length - (k + 1) < ks.length - k; omega⟩
     · by_cases e : j = k
       · subst e; exact hc.2
       · exact all j a (by omega)
     · rw [run_next h1 hkl]
       exact kFl_next hm.2.1
   have hc : (decide ((k : Int) < (ks.length : Int)) && decide ((nth ks k).a = (nth ks i).a)) = false := hc
   have hik : i < k := by
    rcases Nat.lt_or_ge i k with h | h
    · exact h
    · have : k = i := by omega
      subst this
      rw [decide_eq_true (by omega : (k : Int) < (ks.length : Int)), decide_eq_true rfl] at hc
      cases hc
   have hgrp : kgrp (ks.drop i) = ((nth ks i).a, run' ks i k) :: kgrp (ks.drop k) := by
    rw [<- run_app h1]
    refine kgrp_run _ _ _ (fun e => by rw [e] at hrl; simp at hrl; omega) (fun x hx => ?_) (fun x hx => ?_)
    · obtain ⟨j, a, b, rfl⟩ := run_mem h1 hk hx
      exact all j a b
    · have hkl : k < ks.length := by
       rcases Nat.lt_or_ge k ks.length with h | h
       · exact h
       · rw [List.drop_eq_nil_of_le h] at hx; cases hx
      rw [dropN hkl] at hx
      have : nth ks k = x := Option.some.inj hx
      rw [decide_eq_true (by omega : (k : Int) < (ks.length : Int)), Bool.true_and, decide_eq_false_iff_not, this] at hc
      exact hc
   refine aI (bnds hlt) ?_
   refine ⟨[(nth ks i).a], ⟨rfl, rfl, fun y hy => by rw [List.mem_singleton] at hy; rw [hy]; rfl⟩, ?_, ?_⟩
   · show ((ksOf done).length + 1) * 2 <= _
     rw [ksOf_len]; omega
   have ekk : IntKind.i64.wrap ((k : Int) - (i : Int)) = ((k - i : Nat) : Int) := by rw [i64_id _ (by omega) (by omega)]; omega
   have ekset : wsB [((k - i : Nat) : Int)] ++ wsB (kFl (run' ks i k)) = wsB (ksetW (run' ks i k)) := by rw [<- wsB_app]; unfold ksetW; rw [hrl]; rfl
   refine Or.inr (lcall_fresh (wsB [((k - i : Nat) : Int)]) (fun ρ S w hm => words_o [IntKind.i64.wrap ((k : Int) - (i : Int))] _ (by rw [ekk]) (by simp) _ w (hm.raw 6 rfl rfl [IntKind.i64.wrap ((k : Int) - (i : Int))] _ rfl rfl rfl (fun y hy => rfl))) ?_)
   refine ⟨wsB (kFl (run' ks i k)), ⟨rfl, rfl, fun _ _ => ⟨rfl, rfl⟩⟩, ?_, ?_⟩
   · show ((wsB [_]).length + (wsB _).length) * 1 <= _
     rw [wsB_len, wsB_len]
     show (1 * 2 + (kFl (run' ks i k)).length * 2) * 1 <= _
     rw [kFl_len]
     omega
   refine ⟨[ksetW (run' ks i k)], ⟨rfl, congrArg (fun z => [DV.sl Int inferInstance 1 bE z]) (ekset.trans rfl), fun y hy => by rw [List.mem_singleton] at hy; rw [hy]; rfl⟩, ?_, ?_⟩
   · show ((done.map fun p => ksetW p.2).length + 1) * 24 <= _
     rw [List.length_map]; omega
   have enext : kgrp ks = (done ++ [((nth ks i).a, run' ks i k)]) ++ kgrp (ks.drop k) := by rw [he, hgrp, List.append_assoc]; rfl
   exact ⟨[0, 5, 10], ⟨k, done ++ [((nth ks i).a, run' ks i k)], hk, enext⟩, aI (aI rfl (aI rfl (aI rfl (aI rfl trivial)))) (aI rfl (aI (owWe (by unfold ksOf; rw [List.map_append]; rfl)) (aI (owWpe (by rw [List.map_append]; rfl)) trivial))), by show ks.length - k < ks.length - i; omega⟩
 · have hge : ks.length <= i := ge_of_dec hge
   rw [List.drop_eq_nil_of_le hge] at he
   have he : kgrp ks = done := by rw [he]; exact List.append_nil _
   have hkl : (ksOf done).length = done.length := ksOf_len _
   refine Or.inr (lcall_fresh (wsB (covW (ksOf done))) (fun ρ S w hm => cover_mk (ksOf done) (fun x hx => ?_) (by rw [hkl]; omega) _ w (hm.own 1 rfl rfl)) ?_)
   · obtain ⟨p, hp, rfl⟩ := List.mem_map.1 hx
     obtain ⟨k, hk, e⟩ := kgrp_key ks p (by rw [he]; exact hp)
     rw [<- e]
     exact (hr k hk).1
   have ew : kerW ks = withW [1, 4, 0, ((ksOf done).length : Int)] (done.map fun p => ksetW p.2) (covW (ksOf done)) := by unfold kerW; rw [he, hkl]
   rw [he] at hg
   have hw := fun v0 v1 v2 w r0 r1 r2 => with_mk [1, 4, 0, ((ksOf done).length : Int)] (done.map fun p => ksetW p.2) (covW (ksOf done)) (by simp) (by simp) (by rw [List.length_map]; omega) (by rw [covW_len, hkl]; omega) (by omega) v0 v1 v2 w r0 r1 r2
   rw [<- ew] at hw
   refine Or.inr (lcall_fresh (wsB (kerW ks)) (fun ρ S w hm => hw _ _ _ w (hm.raw 3 rfl rfl [1, 4, 0, ((ksOf done).length : Int)] _ rfl rfl rfl (fun y hy => rfl)) (hm.own 2 rfl rfl) (hm.own 4 rfl rfl)) ?_)
   exact fun ρ S w' hi => ⟨_, rfl, hi.below, hi.fresh 5 ⟨fun n => [.int .u8 n], fun _ => rfl⟩ rfl rfl⟩
end Go.Proofs.YtjflgkadagkllaaGreat
