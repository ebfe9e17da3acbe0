/- calamusmake.Pos. -/
import Derived.Test.YtjflgkadagkllaaGreatW2
set_option maxRecDepth 100000
set_option linter.unusedVariables false
namespace Go.Proofs.YtjflgkadagkllaaGreat
open Go Go.Eng Go.RowKit
theorem takeN {α : Type} [Inhabited α] {l : List α} {i : Nat} (h : i < l.length) : l.take (i + 1) = l.take i ++ [nth l i] := by
 rw [List.take_succ_eq_append_getElem h, nthE h]
theorem mrec_app : ∀ (d : Int) (l : List Mark) (m : Mark), mrec d (l ++ [m]) = mrec d l ++ [m.c, d + 6 * (l.length : Int)]
 | d, [], m => by show [m.c, d] = [m.c, d + 6 * ((0 : Nat) : Int)]; simp
 | d, x :: r, m => by
  rw [List.cons_append, mrec, mrec_app, mrec, List.cons_append, List.cons_append, List.length_cons]
  have : d + 6 + 6 * (r.length : Int) = d + 6 * ((r.length + 1 : Nat) : Int) := by push_cast; omega
  rw [this]
theorem arec_app : ∀ (e d : Int) (l : List Anchor) (a : Anchor), arec e d (l ++ [a]) = arec e d l ++ [if a.has then e + d + 2 * ((aPts l).flatten.length : Int) else 0]
 | e, d, [], a => by
  show arec e d [a] = [if a.has then e + d + 2 * ((0 : Nat) : Int) else 0]
  rw [arec]
  cases a.has
  · rfl
  · simp [arec]
 | e, d, x :: r, a => by
  have e1 : (aPts (x :: r)).flatten.length = (if x.has then anchW x.x x.y else []).length + (aPts r).flatten.length := by
   show ((if x.has then anchW x.x x.y else []) :: aPts r).flatten.length = _
   rw [List.flatten_cons, List.length_append]
  rw [List.cons_append, arec, arec, e1]
  cases x.has
  · rw [if_neg (by decide), if_neg (by decide), arec_app, List.cons_append]
    simp
  · rw [if_pos rfl, if_pos rfl, arec_app, List.cons_append]
    have e3 : (if true = true then anchW x.x x.y else []).length = 3 := rfl
    rw [e3]
    cases a.has
    · rfl
    · simp only [if_true]
      push_cast
      rw [show e + (d + 6) + 2 * ((aPts r).flatten.length : Int) = e + d + 2 * (3 + ((aPts r).flatten.length : Int)) by omega]
theorem aPts_app (l : List Anchor) (a : Anchor) : (aPts (l ++ [a])).flatten = (aPts l).flatten ++ (if a.has then anchW a.x a.y else []) := by
 unfold aPts
 rw [List.map_append, List.flatten_append]
 simp
theorem mPts_app (l : List Mark) (m : Mark) : (mPts (l ++ [m])).flatten = (mPts l).flatten ++ anchW m.x m.y := by
 unfold mPts
 rw [List.map_append, List.flatten_append]
 simp
theorem mPts_len (ms : List Mark) (i : Nat) (h : i <= ms.length) : (mPts (ms.take i)).flatten.length = 3 * i := by
 have e : mPts (ms.take i) = (mPts ms).take i := by unfold mPts; rw [List.map_take]
 rw [e, mPts_take ms i h]
def clsI (n i : Nat) : Int := if i = 0 then 1 else (n : Int)
structure PosOk (p : PosU) : Prop where
 m : p.marks.length <= 10000
 b : p.bases.length <= 10000
 k : p.kerns.length <= 10000
 n : an0 p.bases <= 10000
 t : (ansOf p.bases).length <= 10000
abbrev posC (p : PosU) : List Chunk := SPos p.kerns p.marks p.bases ++ [.bx 42 [.sl 0, .sl 1, .sl 2]]
def arr1 (ms : List Mark) (i : Nat) : List Int := [(ms.length : Int)] ++ mrec (2 + 4 * (ms.length : Int)) (ms.take i)
def pts1 (ms : List Mark) (i : Nat) : List Int := (mPts (ms.take i)).flatten
def tab1 (n : Nat) (bs : List Base) (j : Nat) : List Int := [(bs.length : Int)] ++ arec (2 + 2 * (n : Int) * (bs.length : Int)) 0 ((ansOf bs).take j)
def dot1 (bs : List Base) (j : Nat) : List Int := (aPts ((ansOf bs).take j)).flatten
theorem arr1_next {ms : List Mark} {i : Nat} (h : i < ms.length) (hc : 0 <= (nth ms i).c /\ (nth ms i).c <= 65535) : wsB (arr1 ms i) ++ wsB [IntKind.i64.wrap (nth ms i).c, 2 + 4 * (ms.length : Int) + 6 * (i : Int)] = wsB (arr1 ms (i + 1)) := by
 rw [<- wsB_app, i64_u16 hc]
 unfold arr1
 rw [takeN h, mrec_app, List.length_take, Nat.min_eq_left (by omega), List.append_assoc]
theorem pts1_next {ms : List Mark} {i : Nat} (h : i < ms.length) : wsB (pts1 ms i) ++ wsB (anchW (nth ms i).x (nth ms i).y) = wsB (pts1 ms (i + 1)) := by
 rw [<- wsB_app]
 unfold pts1
 rw [takeN h, mPts_app]
theorem arr1_end (ms : List Mark) : wsB (arr1 ms ms.length) ++ wsB (pts1 ms ms.length) = wsB (arrW ms) := by
 rw [<- wsB_app]
 unfold arr1 pts1 arrW
 rw [List.take_length]
theorem arr1_len (ms : List Mark) (i : Nat) : (arr1 ms i).length <= 1 + 2 * ms.length := by
 unfold arr1
 rw [List.length_append, mrec_len, List.length_take]
 simp
 omega
theorem pts1_len {ms : List Mark} {i : Nat} (h : i <= ms.length) : (pts1 ms i).length = 3 * i := mPts_len ms i h
theorem gs_nextM {ms : List Mark} {i : Nat} (h : i < ms.length) : gsM (ms.take i) ++ [(nth ms i).g] = gsM (ms.take (i + 1)) := by
 unfold gsM
 rw [takeN h, List.map_append]; rfl
theorem gs_nextB {bs : List Base} {i : Nat} (h : i < bs.length) : gsB (bs.take i) ++ [(nth bs i).g] = gsB (bs.take (i + 1)) := by
 unfold gsB
 rw [takeN h, List.map_append]; rfl
theorem tab1_next {n : Nat} {bs : List Base} {i k : Nat} (hn : ∀ b ∈ bs, b.an.length = n) (hi : i < bs.length) (hk : k < n) : tab1 n bs (i * n + k + 1) = tab1 n bs (i * n + k) ++ [if (nth (nth bs i).an k).has then 2 + 2 * (n : Int) * (bs.length : Int) + 2 * ((dot1 bs (i * n + k)).length : Int) else 0] := by
 have h := idx_lt hi hk
 rw [<- ans_len bs n hn] at h
 unfold tab1
 rw [takeN h, arec_app, ans_nth bs n i k hn hi hk, List.append_assoc]
 unfold dot1
 rw [Int.add_zero]
theorem dot1_next {n : Nat} {bs : List Base} {i k : Nat} (hn : ∀ b ∈ bs, b.an.length = n) (hi : i < bs.length) (hk : k < n) : dot1 bs (i * n + k + 1) = dot1 bs (i * n + k) ++ (if (nth (nth bs i).an k).has then anchW (nth (nth bs i).an k).x (nth (nth bs i).an k).y else []) := by
 have h := idx_lt hi hk
 rw [<- ans_len bs n hn] at h
 unfold dot1
 rw [takeN h, aPts_app, ans_nth bs n i k hn hi hk]
theorem tab1_len (n : Nat) (bs : List Base) (j : Nat) : (tab1 n bs j).length <= 1 + (ansOf bs).length := by
 unfold tab1
 rw [List.length_append, arec_len, List.length_take]
 simp
 omega
theorem dot1_len (bs : List Base) (j : Nat) : (dot1 bs j).length <= 3 * (ansOf bs).length := by
 have := aPts_le ((ansOf bs).take j)
 rw [List.length_take] at this
 unfold dot1
 omega
theorem tab1_end {n : Nat} {bs : List Base} (hn : ∀ b ∈ bs, b.an.length = n) : wsB (tab1 n bs (bs.length * n)) ++ wsB (dot1 bs (bs.length * n)) = wsB (tabW n bs) := by
 rw [<- wsB_app]
 unfold tab1 dot1 tabW
 rw [List.take_of_length_le (by rw [ans_len bs n hn, Nat.mul_comm]; exact Nat.le_refl _)]
set_option maxHeartbeats 4000000 in
theorem pos_mk (ty : Int) (p : PosU) (hr : PRng p) (ho : PosOk p) (hb : ty ≠ 2 -> p.bases ≠ [] /\ ∀ b ∈ p.bases, b.an.length = an0 p.bases) (v1 v2 v3 : Value) (w : World) (r1 : Rd w v1 3 keE p.kerns) (r2 : Rd w v2 4 maE p.marks) (r3 : Rd w v3 2 baE p.bases) :
 Calls Tryz.prog 12 #[.int .u16 ty, .agg #[v1, v2, v3]] w fun e w' => ∃ u, e = .returned u /\ Below w.heap.size w w' /\ Fresh w w' u 5 1 bE (wsB (posW ty p)) := by
 obtain ⟨l1, l2, l3, l4, l5⟩ := ho
 refine calls_exec (cf := cf) cfok (fn := Tryz.f12) Tryz.func12 rfl [.v (.int .u16 ty), .agg [.sl 0, .sl 1, .sl 2]] (SPos p.kerns p.marks p.bases) (ρ := fun i => match i with | 0 => v1 | 1 => v2 | _ => v3) (· < w.heap.size) rfl rfl rfl (by simp [svOkL, svOk]) (memRd (fun _ h => h) ⟨r1, r2, r3, trivial⟩) ?_
 refine aI (fun h2 => ?_) (fun h2 => ?_)
 · have h2 : ty = 2 := of_decide_eq_true h2
   have e : posW ty p = kerW p.kerns := by unfold posW; rw [if_pos h2]
   refine Or.inr (lcall_fresh (wsB (posW ty p)) (fun ρ S w hm => by rw [e]; exact kerns_mk p.kerns hr.k (by omega) _ w (hm.rd 0 rfl rfl)) ?_)
   exact fun ρ S w' hi => ⟨_, rfl, hi.below, hi.fresh 4 ⟨fun n => [.int .u8 n], fun _ => rfl⟩ rfl rfl⟩
 have h2 : ty ≠ 2 := of_decide_eq_false h2
 obtain ⟨hb0, hbn⟩ := hb h2
 have eW : posW ty p = marW (an0 p.bases) p.marks p.bases := by unfold posW; rw [if_neg h2]
 rw [eW]
 have hrm := hr.m
 have hrb := hr.b
 clear hr eW r1 r2 r3
 generalize hN : an0 p.bases = n at *
 have hbp := List.length_pos_iff.2 hb0
 refine ⟨{ i : Nat // i <= p.bases.length }, fun i => ⟨191, [⟨3, [], .bx 3 0⟩, ⟨5, [], nilS⟩, ⟨6, [], .sl 4⟩, ⟨7, [], .v (.int .i64 (clsI n i.1))⟩, ⟨8, [], .v (.int .i64 (i.1 : Nat))⟩], posC p ++ [owW (gsB (p.bases.take i.1))], [], dropL nats 5⟩, fun i => p.bases.length - i.1, ⟨[0, 1, 2, 3, 1000], ⟨0, by omega⟩, ?_⟩, fun i => ?_⟩
 · exact aI (aI rfl (aI rfl (aI rfl (aI rfl (aI rfl trivial))))) (aI rfl (aI rfl (aI rfl (aI (aI rfl rfl) (aI rfl trivial)))))
 obtain ⟨i, hi⟩ := i
 refine aI (fun hlt => ?_) (fun hge => ?_)
 · have hlt : i < p.bases.length := lt_of_dec hlt
   refine aI (bnds hlt) ?_
   refine ⟨[(nth p.bases i).g], ⟨rfl, rfl, fun y hy => by rw [List.mem_singleton] at hy; rw [hy]; rfl⟩, ?_, ?_⟩
   · show ((gsB (p.bases.take i)).length + 1) * 2 <= _
     unfold gsB
     rw [List.length_map, List.length_take]; omega
   refine aI (bnds hlt) ?_
   have ec : (((nth p.bases i).an.length : Nat) : Int) = clsI n (i + 1) := by rw [hbn _ (nth_mem hlt)]; rfl
   exact ⟨[0, 1, 2, 3, 6], ⟨i + 1, hlt⟩, aI (aI rfl (aI rfl (aI rfl (aI (svI ec) (aI (svI (i64_succ i (by omega))) trivial))))) (aI rfl (aI rfl (aI rfl (aI (aI rfl rfl) (aI (owWe (gs_nextB hlt)) trivial))))), by show p.bases.length - (i + 1) < p.bases.length - i; omega⟩
 have hge : p.bases.length <= i := ge_of_dec hge
 have ei : i = p.bases.length := by omega
 subst ei
 have ecl : clsI n p.bases.length = (n : Int) := by unfold clsI; rw [if_neg (by omega)]
 rw [ecl, List.take_length]
 refine Or.inr (lcall_fresh (wsB [(p.marks.length : Int)]) (fun ρ S w hm => words_o [(p.marks.length : Int)] _ rfl (by simp) _ w (hm.raw 5 rfl rfl [(p.marks.length : Int)] _ rfl rfl rfl (fun y hy => rfl))) ?_)
 refine ⟨{ i : Nat // i <= p.marks.length }, fun i => ⟨191, [⟨3, [], .bx 3 0⟩, ⟨5, [], .sl 5⟩, ⟨6, [], .sl 4⟩, ⟨7, [], .v (.int .i64 (n : Int))⟩, ⟨9, [], .sl 6⟩, ⟨10, [], .sl 7⟩, ⟨11, [], .v (.int .i64 (i.1 : Nat))⟩], posC p ++ [owW (gsB p.bases), owW (gsM (p.marks.take i.1)), ow5 (wsB (arr1 p.marks i.1)), ow5 (wsB (pts1 p.marks i.1))], [], dropL nats 8⟩, fun i => p.marks.length - i.1, ⟨[0, 1, 2, 3, 4, 1000, 6, 7], ⟨0, by omega⟩, ?_⟩, fun i => ?_⟩
 · exact aI (aI rfl (aI rfl (aI rfl (aI rfl (aI rfl (aI rfl (aI rfl trivial))))))) (aI rfl (aI rfl (aI rfl (aI (aI rfl rfl) (aI rfl (aI rfl (aI rfl (aI ⟨rfl, rfl, rfl, rfl, fun y hy => by cases hy⟩ trivial))))))))
 obtain ⟨i, hi⟩ := i
 have hal := arr1_len p.marks i
 have hpl := pts1_len hi
 refine aI (fun hlt => ?_) (fun hge => ?_)
 · have hlt : i < p.marks.length := lt_of_dec hlt
   have hmr := hrm _ (nth_mem hlt)
   refine aI (bnds hlt) ?_
   refine ⟨[(nth p.marks i).g], ⟨rfl, rfl, fun y hy => by rw [List.mem_singleton] at hy; rw [hy]; rfl⟩, ?_, ?_⟩
   · show ((gsM (p.marks.take i)).length + 1) * 2 <= _
     unfold gsM
     rw [List.length_map, List.length_take]; omega
   have ew : IntKind.i64.wrap (IntKind.i64.wrap (2 + IntKind.i64.wrap (4 * (p.marks.length : Int))) + ((wsB (pts1 p.marks i)).length : Int)) = 2 + 4 * (p.marks.length : Int) + 6 * (i : Int) := by
    rw [wsB_len, hpl, i64_id (4 * (p.marks.length : Int)) (by omega) (by omega), i64_id (2 + 4 * (p.marks.length : Int)) (by omega) (by omega), i64_id _ (by omega) (by omega)]
    push_cast
    omega
   refine Or.inr (lcall_fresh (wsB [IntKind.i64.wrap (nth p.marks i).c, 2 + 4 * (p.marks.length : Int) + 6 * (i : Int)]) (fun ρ S w hm => words_o [IntKind.i64.wrap (nth p.marks i).c, IntKind.i64.wrap (IntKind.i64.wrap (2 + IntKind.i64.wrap (4 * (p.marks.length : Int))) + ((wsB (pts1 p.marks i)).length : Int))] _ (by rw [ew]) (by simp) _ w (hm.raw 11 rfl rfl [IntKind.i64.wrap (nth p.marks i).c, IntKind.i64.wrap (IntKind.i64.wrap (2 + IntKind.i64.wrap (4 * (p.marks.length : Int))) + ((wsB (pts1 p.marks i)).length : Int))] _ rfl rfl rfl (fun y hy => rfl))) ?_)
   refine ⟨wsB [IntKind.i64.wrap (nth p.marks i).c, 2 + 4 * (p.marks.length : Int) + 6 * (i : Int)], ⟨rfl, rfl, fun _ _ => ⟨rfl, rfl⟩⟩, ?_, ?_⟩
   · show ((wsB _).length + (wsB [_, _]).length) * 1 <= _
     rw [wsB_len, wsB_len]
     show ((arr1 p.marks i).length * 2 + 2 * 2) * 1 <= _
     omega
   refine Or.inr (lcall_fresh (wsB (anchW (nth p.marks i).x (nth p.marks i).y)) (fun ρ S w hm => anchor_mk _ _ w) ?_)
   refine ⟨wsB (anchW (nth p.marks i).x (nth p.marks i).y), ⟨rfl, rfl, fun _ _ => ⟨rfl, rfl⟩⟩, ?_, ?_⟩
   · show ((wsB _).length + (wsB (anchW _ _)).length) * 1 <= _
     rw [wsB_len, wsB_len]
     show ((pts1 p.marks i).length * 2 + 3 * 2) * 1 <= _
     omega
   exact ⟨[0, 1, 2, 3, 4, 10, 13, 15], ⟨i + 1, hlt⟩, aI (aI rfl (aI rfl (aI rfl (aI rfl (aI rfl (aI rfl (aI (svI (i64_succ i (by omega))) trivial))))))) (aI rfl (aI rfl (aI rfl (aI (aI rfl rfl) (aI rfl (aI (owWe (gs_nextM hlt)) (aI (ow5e (arr1_next hlt hmr.2.1)) (aI (ow5e (pts1_next hlt)) trivial)))))))), by show p.marks.length - (i + 1) < p.marks.length - i; omega⟩
 have hge : p.marks.length <= i := ge_of_dec hge
 have ei : i = p.marks.length := by omega
 subst ei
 refine ⟨wsB (pts1 p.marks p.marks.length), ⟨rfl, rfl, fun _ _ => ⟨rfl, rfl⟩⟩, ?_, ?_⟩
 · show ((wsB _).length + (wsB (pts1 _ _)).length) * 1 <= _
   rw [wsB_len, wsB_len]
   show ((arr1 p.marks p.marks.length).length * 2 + (pts1 p.marks p.marks.length).length * 2) * 1 <= _
   omega
 refine Or.inr (lcall_fresh (wsB [(p.bases.length : Int)]) (fun ρ S w hm => words_o [(p.bases.length : Int)] _ rfl (by simp) _ w (hm.raw 9 rfl rfl [(p.bases.length : Int)] _ rfl rfl rfl (fun y hy => rfl))) ?_)
 have hnm : n * p.bases.length = (ansOf p.bases).length := (ans_len p.bases n hbn).symm
 have hnm' : (n : Int) * (p.bases.length : Int) = ((ansOf p.bases).length : Int) := by rw [<- hnm]; push_cast; rfl
 refine ⟨{ i : Nat // i <= p.bases.length }, fun i => ⟨191, [⟨3, [], .bx 3 0⟩, ⟨5, [], .sl 5⟩, ⟨6, [], .sl 4⟩, ⟨7, [], .v (.int .i64 (n : Int))⟩, ⟨9, [], .sl 6⟩, ⟨13, [], .sl 7⟩, ⟨14, [], .sl 8⟩, ⟨15, [], .v (.int .i64 (i.1 : Nat))⟩], posC p ++ [owW (gsB p.bases), owW (gsM p.marks), ow5 (wsB (arrW p.marks)), ow5 (wsB (tab1 n p.bases (i.1 * n))), ow5 (wsB (dot1 p.bases (i.1 * n)))], [], dropL nats 9⟩, fun i => p.bases.length - i.1, ⟨[0, 1, 2, 3, 4, 5, 8, 10, 11], ⟨0, by omega⟩, ?_⟩, fun i => ?_⟩
 · have z1 : wsB [(p.bases.length : Int)] = wsB (tab1 n p.bases (0 * n)) := by unfold tab1; rw [Nat.zero_mul, List.take_zero]; rfl
   have z2 : wsB (dot1 p.bases (0 * n)) = [] := by unfold dot1; rw [Nat.zero_mul, List.take_zero]; rfl
   have z3 : owW (gsM (p.marks.take p.marks.length)) = owW (gsM p.marks) := by rw [List.take_length]
   exact aI (aI rfl (aI rfl (aI rfl (aI rfl (aI rfl (aI rfl (aI rfl (aI rfl trivial)))))))) (aI rfl (aI rfl (aI rfl (aI (aI rfl rfl) (aI rfl (aI z3 (aI (ow5e (arr1_end p.marks)) (aI (ow5e z1) (aI ⟨rfl, rfl, congrArg List.length z2, by rw [z2]; rfl, fun y hy => by rw [z2] at hy; cases hy⟩ trivial)))))))))
 obtain ⟨i, hi⟩ := i
 refine aI (fun hlt => ?_) (fun hge => ?_)
 · have hlt : i < p.bases.length := lt_of_dec hlt
   refine ⟨{ k : Nat // k <= n }, fun k => ⟨191, [⟨3, [], .bx 3 0⟩, ⟨5, [], .sl 5⟩, ⟨6, [], .sl 4⟩, ⟨7, [], .v (.int .i64 (n : Int))⟩, ⟨9, [], .sl 6⟩, ⟨13, [], .sl 7⟩, ⟨14, [], .sl 8⟩, ⟨15, [], .v (.int .i64 (i : Nat))⟩, ⟨16, [], .v (.int .i64 (k.1 : Nat))⟩], posC p ++ [owW (gsB p.bases), owW (gsM p.marks), ow5 (wsB (arrW p.marks)), ow5 (wsB (tab1 n p.bases (i * n + k.1))), ow5 (wsB (dot1 p.bases (i * n + k.1)))], [], dropL nats 9⟩, fun k => n - k.1, ⟨[0, 1, 2, 3, 4, 5, 6, 7, 8], ⟨0, by omega⟩, ?_⟩, fun k => ?_⟩
   · exact aI (aI rfl (aI rfl (aI rfl (aI rfl (aI rfl (aI rfl (aI rfl (aI rfl (aI rfl trivial))))))))) (aI rfl (aI rfl (aI rfl (aI (aI rfl rfl) (aI rfl (aI rfl (aI rfl (aI rfl (aI rfl trivial)))))))))
   obtain ⟨k, hk⟩ := k
   have htl := tab1_len n p.bases (i * n + k)
   have hdl := dot1_len p.bases (i * n + k)
   refine aI (fun hkl => ?_) (fun hkg => ?_)
   · have hkl : k < n := lt_of_dec hkl
     have hkb : k < (nth p.bases i).an.length := by rw [hbn _ (nth_mem hlt)]; exact hkl
     have tn := tab1_next hbn hlt hkl
     have dn := dot1_next hbn hlt hkl
     refine aI (bnds hlt) ?_
     refine aI (bnds hkb) ?_
     refine aI (fun hh => ?_) (fun hh => ?_)
     · have hh : (!(nth (nth p.bases i).an k).has) = true := hh
       rw [Bool.not_eq_true'] at hh
       rw [hh] at tn dn
       simp only [Bool.false_eq_true, if_false] at tn dn
       rw [List.append_nil] at dn
       refine ⟨wsB [0], ⟨rfl, rfl, fun y hy => rfl⟩, ?_, ?_⟩
       · show ((wsB _).length + 2) * 1 <= _
         rw [wsB_len]
         show ((tab1 n p.bases (i * n + k)).length * 2 + 2) * 1 <= _
         omega
       exact ⟨[0, 1, 2, 3, 4, 5, 6, 12, 8], ⟨k + 1, hkl⟩, aI (aI rfl (aI rfl (aI rfl (aI rfl (aI rfl (aI rfl (aI rfl (aI rfl (aI (svI (i64_succ k (by omega))) trivial))))))))) (aI rfl (aI rfl (aI rfl (aI (aI rfl rfl) (aI rfl (aI rfl (aI rfl (aI (ow5e (by rw [<- wsB_app, <- Nat.add_assoc, tn])) (aI (ow5e (by rw [<- Nat.add_assoc, dn])) trivial))))))))), by show n - (k + 1) < n - k; omega⟩
     · have hh : (!(nth (nth p.bases i).an k).has) = false := hh
       rw [Bool.not_eq_false'] at hh
       rw [hh] at tn dn
       simp only [if_true] at tn dn
       have ew : IntKind.i64.wrap (IntKind.i64.wrap (2 + IntKind.i64.wrap (IntKind.i64.wrap (2 * (n : Int)) * (p.bases.length : Int))) + ((wsB (dot1 p.bases (i * n + k))).length : Int)) = 2 + 2 * (n : Int) * (p.bases.length : Int) + 2 * ((dot1 p.bases (i * n + k)).length : Int) := by
        rw [i64_id (2 * (n : Int)) (by omega) (by omega), Int.mul_assoc, hnm', i64_id (2 * ((ansOf p.bases).length : Int)) (by omega) (by omega), i64_id (2 + 2 * ((ansOf p.bases).length : Int)) (by omega) (by omega), wsB_len, i64_id _ (by omega) (by omega)]
        push_cast
        omega
       refine Or.inr (lcall_fresh (wsB [2 + 2 * (n : Int) * (p.bases.length : Int) + 2 * ((dot1 p.bases (i * n + k)).length : Int)]) (fun ρ S w hm => words_o [IntKind.i64.wrap (IntKind.i64.wrap (2 + IntKind.i64.wrap (IntKind.i64.wrap (2 * (n : Int)) * (p.bases.length : Int))) + ((wsB (dot1 p.bases (i * n + k))).length : Int))] _ (by rw [ew]) (by simp) _ w (hm.raw 11 rfl rfl [IntKind.i64.wrap (IntKind.i64.wrap (2 + IntKind.i64.wrap (IntKind.i64.wrap (2 * (n : Int)) * (p.bases.length : Int))) + ((wsB (dot1 p.bases (i * n + k))).length : Int))] _ rfl rfl rfl (fun y hy => rfl))) ?_)
       refine ⟨wsB [2 + 2 * (n : Int) * (p.bases.length : Int) + 2 * ((dot1 p.bases (i * n + k)).length : Int)], ⟨rfl, rfl, fun _ _ => ⟨rfl, rfl⟩⟩, ?_, ?_⟩
       · show ((wsB _).length + (wsB [_]).length) * 1 <= _
         rw [wsB_len, wsB_len]
         show ((tab1 n p.bases (i * n + k)).length * 2 + 1 * 2) * 1 <= _
         omega
       refine Or.inr (lcall_fresh (wsB (anchW (nth (nth p.bases i).an k).x (nth (nth p.bases i).an k).y)) (fun ρ S w hm => anchor_mk _ _ w) ?_)
       refine ⟨wsB (anchW (nth (nth p.bases i).an k).x (nth (nth p.bases i).an k).y), ⟨rfl, rfl, fun _ _ => ⟨rfl, rfl⟩⟩, ?_, ?_⟩
       · show ((wsB _).length + (wsB (anchW _ _)).length) * 1 <= _
         rw [wsB_len, wsB_len]
         show ((dot1 p.bases (i * n + k)).length * 2 + 3 * 2) * 1 <= _
         omega
       exact ⟨[0, 1, 2, 3, 4, 5, 6, 13, 15], ⟨k + 1, hkl⟩, aI (aI rfl (aI rfl (aI rfl (aI rfl (aI rfl (aI rfl (aI rfl (aI rfl (aI (svI (i64_succ k (by omega))) trivial))))))))) (aI rfl (aI rfl (aI rfl (aI (aI rfl rfl) (aI rfl (aI rfl (aI rfl (aI (ow5e (by rw [<- wsB_app, <- Nat.add_assoc, tn])) (aI (ow5e (by rw [<- wsB_app, <- Nat.add_assoc, dn])) trivial))))))))), by show n - (k + 1) < n - k; omega⟩
   have hkg : n <= k := ge_of_dec hkg
   have ek : k = n := by omega
   subst ek
   have es : i * k + k = (i + 1) * k := by rw [Nat.add_mul, Nat.one_mul]
   exact ⟨[0, 1, 2, 3, 4, 5, 6, 7, 8], ⟨i + 1, hlt⟩, aI (aI rfl (aI rfl (aI rfl (aI rfl (aI rfl (aI rfl (aI rfl (aI (svI (i64_succ i (by omega))) trivial)))))))) (aI rfl (aI rfl (aI rfl (aI (aI rfl rfl) (aI rfl (aI rfl (aI rfl (aI (ow5e (by rw [es])) (aI (ow5e (by rw [es])) trivial))))))))), by show p.bases.length - (i + 1) < p.bases.length - i; omega⟩
 have hge : p.bases.length <= i := ge_of_dec hge
 have ei : i = p.bases.length := by omega
 subst ei
 have htl := tab1_len n p.bases (p.bases.length * n)
 have hdl := dot1_len p.bases (p.bases.length * n)
 have te := tab1_end hbn
 refine ⟨wsB (dot1 p.bases (p.bases.length * n)), ⟨rfl, rfl, fun _ _ => ⟨rfl, rfl⟩⟩, ?_, ?_⟩
 · show ((wsB _).length + (wsB (dot1 _ _)).length) * 1 <= _
   rw [wsB_len, wsB_len]
   show ((tab1 n p.bases (p.bases.length * n)).length * 2 + (dot1 p.bases (p.bases.length * n)).length * 2) * 1 <= _
   omega
 have lm : (gsM p.marks).length = p.marks.length := List.length_map _
 have lb : (gsB p.bases).length = p.bases.length := List.length_map _
 have lt := tabW_len n p.bases
 have ld := aPts_le (ansOf p.bases)
 refine Or.inr (lcall_fresh (wsB (covW (gsM p.marks))) (fun ρ S w hm => cover_mk (gsM p.marks) (fun x hx => by
  obtain ⟨m, hm, rfl⟩ := List.mem_map.1 hx
  exact (hrm m hm).1) (by omega) _ w (hm.own 5 rfl rfl)) ?_)
 refine Or.inr (lcall_fresh (wsB (covW (gsB p.bases))) (fun ρ S w hm => cover_mk (gsB p.bases) (fun x hx => by
  obtain ⟨m, hm, rfl⟩ := List.mem_map.1 hx
  exact hrb m hm) (by omega) _ w (hm.own 4 rfl rfl)) ?_)
 have c1 : ((wsB (covW (gsM p.marks))).length : Int) = 2 * ((covW (gsM p.marks)).length : Int) := by rw [wsB_len]; push_cast; omega
 have c2 : ((wsB (covW (gsB p.bases))).length : Int) = 2 * ((covW (gsB p.bases)).length : Int) := by rw [wsB_len]; push_cast; omega
 have c3 : ((wsB (arrW p.marks)).length : Int) = 2 * ((arrW p.marks).length : Int) := by rw [wsB_len]; push_cast; omega
 have d1 := covW_len (gsM p.marks)
 have d2 := covW_len (gsB p.bases)
 have d3 := arrW_len p.marks
 have w1 : IntKind.i64.wrap (12 + ((wsB (covW (gsM p.marks))).length : Int)) = 12 + 2 * ((covW (gsM p.marks)).length : Int) := by rw [c1, i64_id _ (by omega) (by omega)]
 have w2 : IntKind.i64.wrap (12 + 2 * ((covW (gsM p.marks)).length : Int) + ((wsB (covW (gsB p.bases))).length : Int)) = 12 + 2 * ((covW (gsM p.marks)).length : Int) + 2 * ((covW (gsB p.bases)).length : Int) := by rw [c2, i64_id _ (by omega) (by omega)]
 have c3' : ((wsB (arr1 p.marks p.marks.length) ++ wsB (pts1 p.marks p.marks.length)).length : Int) = 2 * ((arrW p.marks).length : Int) := by rw [arr1_end]; exact c3
 have w3 : IntKind.i64.wrap (12 + 2 * ((covW (gsM p.marks)).length : Int) + 2 * ((covW (gsB p.bases)).length : Int) + ((wsB (arrW p.marks)).length : Int)) = 12 + 2 * ((covW (gsM p.marks)).length : Int) + 2 * ((covW (gsB p.bases)).length : Int) + 2 * ((arrW p.marks).length : Int) := by rw [c3, i64_id _ (by omega) (by omega)]
 refine Or.inr (lcall_fresh (wsB [1, 12, 12 + 2 * ((covW (gsM p.marks)).length : Int), (n : Int), 12 + 2 * ((covW (gsM p.marks)).length : Int) + 2 * ((covW (gsB p.bases)).length : Int), 12 + 2 * ((covW (gsM p.marks)).length : Int) + 2 * ((covW (gsB p.bases)).length : Int) + 2 * ((arrW p.marks).length : Int)]) (fun ρ S w hm => words_o [1, 12, IntKind.i64.wrap (12 + ((wsB (covW (gsM p.marks))).length : Int)), (n : Int), IntKind.i64.wrap (IntKind.i64.wrap (12 + ((wsB (covW (gsM p.marks))).length : Int)) + ((wsB (covW (gsB p.bases))).length : Int)), IntKind.i64.wrap (IntKind.i64.wrap (IntKind.i64.wrap (12 + ((wsB (covW (gsM p.marks))).length : Int)) + ((wsB (covW (gsB p.bases))).length : Int)) + ((wsB (arrW p.marks)).length : Int))] _ (by rw [w1, w2, w3]) (by simp) _ w (hm.raw 12 rfl rfl [1, 12, IntKind.i64.wrap (12 + ((wsB (covW (gsM p.marks))).length : Int)), (n : Int), IntKind.i64.wrap (IntKind.i64.wrap (12 + ((wsB (covW (gsM p.marks))).length : Int)) + ((wsB (covW (gsB p.bases))).length : Int)), IntKind.i64.wrap (IntKind.i64.wrap (IntKind.i64.wrap (12 + ((wsB (covW (gsM p.marks))).length : Int)) + ((wsB (covW (gsB p.bases))).length : Int)) + ((wsB (arrW p.marks)).length : Int))] _ rfl rfl rfl (fun y hy => rfl))) ?_)
 refine ⟨wsB (covW (gsM p.marks)), ⟨rfl, rfl, fun _ _ => ⟨rfl, rfl⟩⟩, ?_, ?_⟩
 · show ((wsB _).length + (wsB (covW _)).length) * 1 <= _
   rw [wsB_len, wsB_len]
   show (6 * 2 + (covW (gsM p.marks)).length * 2) * 1 <= _
   omega
 refine ⟨wsB (covW (gsB p.bases)), ⟨rfl, rfl, fun _ _ => ⟨rfl, rfl⟩⟩, ?_, ?_⟩
 · show ((wsB _ ++ wsB _).length + (wsB (covW _)).length) * 1 <= _
   rw [List.length_append, wsB_len, wsB_len, wsB_len]
   show (6 * 2 + (covW (gsM p.marks)).length * 2 + (covW (gsB p.bases)).length * 2) * 1 <= _
   omega
 refine ⟨wsB (arrW p.marks), ⟨rfl, rfl, fun _ _ => ⟨rfl, rfl⟩⟩, ?_, ?_⟩
 · show ((wsB _ ++ wsB _ ++ wsB _).length + (wsB (arrW _)).length) * 1 <= _
   rw [List.length_append, List.length_append, wsB_len, wsB_len, wsB_len, wsB_len]
   show (6 * 2 + (covW (gsM p.marks)).length * 2 + (covW (gsB p.bases)).length * 2 + (arrW p.marks).length * 2) * 1 <= _
   omega
 refine ⟨wsB (tab1 n p.bases (p.bases.length * n)) ++ wsB (dot1 p.bases (p.bases.length * n)), ⟨rfl, rfl, fun _ _ => ⟨rfl, rfl⟩⟩, ?_, ?_⟩
 · show ((wsB _ ++ wsB _ ++ wsB _ ++ wsB _).length + (wsB (tab1 _ _ _) ++ wsB _).length) * 1 <= _
   rw [List.length_append, List.length_append, List.length_append, List.length_append, wsB_len, wsB_len, wsB_len, wsB_len, wsB_len, wsB_len]
   show (6 * 2 + (covW (gsM p.marks)).length * 2 + (covW (gsB p.bases)).length * 2 + (arrW p.marks).length * 2 + ((tab1 n p.bases (p.bases.length * n)).length * 2 + (dot1 p.bases (p.bases.length * n)).length * 2)) * 1 <= _
   omega
 have eall : wsB [1, 12, 12 + 2 * ((covW (gsM p.marks)).length : Int), (n : Int), 12 + 2 * ((covW (gsM p.marks)).length : Int) + 2 * ((covW (gsB p.bases)).length : Int), 12 + 2 * ((covW (gsM p.marks)).length : Int) + 2 * ((covW (gsB p.bases)).length : Int) + 2 * ((arrW p.marks).length : Int)] ++ wsB (covW (gsM p.marks)) ++ wsB (covW (gsB p.bases)) ++ wsB (arrW p.marks) ++ (wsB (tab1 n p.bases (p.bases.length * n)) ++ wsB (dot1 p.bases (p.bases.length * n))) = wsB (marW n p.marks p.bases) := by
  rw [te, <- wsB_app, <- wsB_app, <- wsB_app, <- wsB_app]; rfl
 rw [<- eall]
 exact fun ρ S w' hi => ⟨_, rfl, hi.below, hi.fresh 17 ⟨fun n => [.int .u8 n], fun _ => rfl⟩ rfl rfl⟩
end Go.Proofs.YtjflgkadagkllaaGreat
