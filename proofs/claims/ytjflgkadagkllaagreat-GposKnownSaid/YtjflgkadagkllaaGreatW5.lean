/- calamusmake.Table, of positionings. -/
import Derived.Test.YtjflgkadagkllaaGreatW4
set_option maxRecDepth 100000
set_option linter.unusedVariables false
namespace Go.Proofs.YtjflgkadagkllaaGreat
open Go Go.Eng Go.RowKit
theorem frec_app : ∀ (d : Int) (l : List Feat) (f : Feat), frec d (l ++ [f]) = frec d l ++ [f.a * 256 + f.b, f.c * 256 + f.d, d + 2 * ((fbodies l).flatten.length : Int)]
 | d, [], f => by
  show [f.a * 256 + f.b, f.c * 256 + f.d, d] = [f.a * 256 + f.b, f.c * 256 + f.d, d + 2 * ((0 : Nat) : Int)]
  simp
 | d, x :: r, f => by
  have e : (fbodies (x :: r)).flatten.length = (fbody x).length + (fbodies r).flatten.length := by
   show (fbody x :: fbodies r).flatten.length = _
   rw [List.flatten_cons, List.length_append]
  rw [List.cons_append, frec, frec_app, frec, e, List.cons_append, List.cons_append, List.cons_append]
  have : d + 2 * ((fbody x).length : Int) + 2 * ((fbodies r).flatten.length : Int) = d + 2 * (((fbody x).length + (fbodies r).flatten.length : Nat) : Int) := by push_cast; omega
  rw [this]
def fh (fs : List Feat) (i : Nat) : List Int := [(fs.length : Int)] ++ frec (2 + 6 * (fs.length : Int)) (fs.take i)
def fr (fs : List Feat) (i : Nat) : List Int := (fbodies (fs.take i)).flatten
theorem fh_next {fs : List Feat} {i : Nat} (h : i < fs.length) : fh fs (i + 1) = fh fs i ++ [(nth fs i).a * 256 + (nth fs i).b, (nth fs i).c * 256 + (nth fs i).d] ++ [2 + 6 * (fs.length : Int) + 2 * ((fr fs i).length : Int)] := by
 unfold fh fr
 rw [takeN h, frec_app, List.append_assoc, List.append_assoc]; rfl
theorem fr_next {fs : List Feat} {i : Nat} (h : i < fs.length) : fr fs (i + 1) = fr fs i ++ [0, ((nth fs i).ks.length : Int)] ++ (nth fs i).ks := by
 unfold fr
 rw [takeN h]
 unfold fbodies
 rw [List.map_append, List.flatten_append, List.append_assoc]
 simp [fbody]
theorem f_end (fs : List Feat) : fh fs fs.length ++ fr fs fs.length = featW fs := by
 unfold fh fr featW
 rw [List.take_length]
theorem fh_len (fs : List Feat) (i : Nat) : (fh fs i).length <= 1 + 3 * fs.length := by
 unfold fh
 rw [List.length_append, frec_len, List.length_take]
 simp
 omega
theorem fr_len {fs : List Feat} {i : Nat} : (fr fs i).length <= (fbodies fs).flatten.length := by
 unfold fr fbodies
 rw [List.map_take]
 exact take_flat_le _ _
theorem fr_one {fs : List Feat} {i : Nat} (h : i < fs.length) : (fr fs i).length + 2 + (nth fs i).ks.length <= (fbodies fs).flatten.length := by
 have := fr_len (fs := fs) (i := i + 1)
 rw [fr_next h, List.length_append, List.length_append] at this
 exact this
theorem tag_eq {f : Feat} {L : Int} (h : FOk L f) : [f.a, f.b, f.c, f.d] = wsB [f.a * 256 + f.b, f.c * 256 + f.d] := by
 have ha := h.a
 have hb := h.b
 have hc := h.c
 have hd := h.d
 show _ = [hiB (f.a * 256 + f.b), loB (f.a * 256 + f.b), hiB (f.c * 256 + f.d), loB (f.c * 256 + f.d)]
 rw [hiB_val (by omega), loB_val (by omega), hiB_val (by omega), loB_val (by omega)]
 congr 1
 · omega
 · congr 1
   · omega
   · congr 1
     · omega
     · congr 1
       omega
def bods (ls : List LkU) : List (List Int) := (ls.map toLw).map lbody
def sbs (l : LkU) : List (List Int) := l.poss.map (posW l.ty)
theorem bods_len (ls : List LkU) : (bods ls).length = ls.length := by unfold bods; rw [List.length_map, List.length_map]
theorem bods_nth {ls : List LkU} {i : Nat} (h : i < ls.length) : nth (bods ls) i = lbody (toLw (nth ls i)) := by
 unfold bods
 rw [nth_map _ (by rw [List.length_map]; exact h), nth_map _ h]
def lh (ls : List LkU) (i : Nat) : List Int := [(ls.length : Int)] ++ offs (2 + 2 * (ls.length : Int)) ((bods ls).take i)
def lb (ls : List LkU) (i : Nat) : List Int := ((bods ls).take i).flatten
def b1 (ls : List LkU) (i m : Nat) : List Int := lb ls i ++ [(nth ls i).ty, (nth ls i).flag, ((nth ls i).poss.length : Int)] ++ offs (6 + 2 * ((nth ls i).poss.length : Int)) ((sbs (nth ls i)).take m)
def b2 (ls : List LkU) (i m : Nat) : List Int := b1 ls i (nth ls i).poss.length ++ ((sbs (nth ls i)).take m).flatten
theorem sbs_len (l : LkU) : (sbs l).length = l.poss.length := List.length_map _
theorem lh_next {ls : List LkU} {i : Nat} (h : i < ls.length) : wsB (lh ls i) ++ wsB [2 + 2 * (ls.length : Int) + 2 * ((lb ls i).length : Int)] = wsB (lh ls (i + 1)) := by
 rw [<- wsB_app]
 unfold lh lb
 rw [take_next (by rw [bods_len]; exact h), offs_app, List.append_assoc]
theorem lb_next {ls : List LkU} {i : Nat} (h : i < ls.length) : b2 ls i (nth ls i).poss.length = lb ls (i + 1) := by
 have e : ((sbs (nth ls i)).take (nth ls i).poss.length) = sbs (nth ls i) := List.take_of_length_le (by rw [sbs_len]; exact Nat.le_refl _)
 have e2 : (toLw (nth ls i)).subs = sbs (nth ls i) := rfl
 unfold b2 b1
 rw [e]
 unfold lb
 rw [flat_next (by rw [bods_len]; exact h), bods_nth h]
 unfold lbody
 rw [e2, sbs_len, List.append_assoc, List.append_assoc]
 show _ = _ ++ (_ ++ _ ++ _)
 rw [List.append_assoc]
 rfl
theorem b1_next {ls : List LkU} {i m : Nat} (h : m < (nth ls i).poss.length) : wsB (b1 ls i m) ++ wsB [6 + 2 * ((nth ls i).poss.length : Int) + 2 * (((sbs (nth ls i)).take m).flatten.length : Int)] = wsB (b1 ls i (m + 1)) := by
 rw [<- wsB_app]
 unfold b1
 rw [take_next (by rw [sbs_len]; exact h), offs_app, List.append_assoc]
theorem b2_next {ls : List LkU} {i m : Nat} (h : m < (nth ls i).poss.length) : wsB (b2 ls i m) ++ wsB (nth (sbs (nth ls i)) m) = wsB (b2 ls i (m + 1)) := by
 rw [<- wsB_app]
 unfold b2
 rw [flat_next (by rw [sbs_len]; exact h), List.append_assoc]
theorem l_end (ls : List LkU) : wsB (lh ls ls.length) ++ wsB (lb ls ls.length) = wsB (looksW (ls.map toLw)) := by
 rw [<- wsB_app]
 unfold lh lb looksW
 rw [List.take_of_length_le (by rw [bods_len]; exact Nat.le_refl _), List.length_map]
 rfl
theorem lh_len (ls : List LkU) (i : Nat) : (lh ls i).length <= 1 + ls.length := by
 unfold lh
 rw [List.length_append, offs_len, List.length_take, bods_len]
 simp
 omega
theorem lb_len (ls : List LkU) (i : Nat) : (lb ls i).length <= (bods ls).flatten.length := take_flat_le _ _
theorem b2_len {ls : List LkU} {i : Nat} (h : i < ls.length) (m : Nat) : (b2 ls i m).length <= (bods ls).flatten.length := by
 have h1 := lb_len ls (i + 1)
 rw [<- lb_next h] at h1
 have h2 := take_flat_le (sbs (nth ls i)) m
 have e : ((sbs (nth ls i)).take (nth ls i).poss.length) = sbs (nth ls i) := List.take_of_length_le (by rw [sbs_len]; exact Nat.le_refl _)
 unfold b2 at *
 rw [e, List.length_append] at h1
 rw [List.length_append]
 omega
theorem b1_len {ls : List LkU} {i : Nat} (h : i < ls.length) (m : Nat) : (b1 ls i m).length <= (bods ls).flatten.length := by
 have h1 := b2_len h 0
 unfold b2 at h1
 have : (b1 ls i m).length <= (b1 ls i (nth ls i).poss.length).length := by
  unfold b1
  rw [List.length_append, List.length_append, List.length_append, List.length_append, offs_len, offs_len, List.length_take, List.length_take, sbs_len]
  omega
 rw [List.length_append] at h1
 omega
theorem sbs_flat_le {ls : List LkU} {i : Nat} (h : i < ls.length) : (sbs (nth ls i)).flatten.length <= (bods ls).flatten.length /\ (nth ls i).poss.length <= (bods ls).flatten.length := by
 have h1 := b2_len h (nth ls i).poss.length
 have e : ((sbs (nth ls i)).take (nth ls i).poss.length) = sbs (nth ls i) := List.take_of_length_le (by rw [sbs_len]; exact Nat.le_refl _)
 unfold b2 b1 at h1
 rw [e, List.length_append, List.length_append, offs_len, sbs_len] at h1
 omega
theorem sb_next {l : LkU} {q : Nat} (h : q < l.poss.length) : (l.poss.take q).map (posW l.ty) ++ [posW l.ty (nth l.poss q)] = (l.poss.take (q + 1)).map (posW l.ty) := by
 rw [takeN h, List.map_append]; rfl
structure TOk (ls : List LkU) : Prop where
 s : ∀ l ∈ ls, l.subs = []
 p : ∀ l ∈ ls, ∀ p ∈ l.poss, PRng p /\ PosOk p /\ (l.ty ≠ 2 -> p.bases ≠ [] /\ ∀ b ∈ p.bases, b.an.length = an0 p.bases)
 w : ∀ l ∈ ls, (0 <= l.ty /\ l.ty <= 65535) /\ (0 <= l.flag /\ l.flag <= 65535)
set_option maxHeartbeats 4000000 in
theorem table_mk (ls : List LkU) (fs : List Feat) (L : Int) (ht : TOk ls) (hf : ∀ f ∈ fs, FOk L f) (hsz : (tableW (ls.map toLw) fs).length <= 40000) (v0 v1 : Value) (w : World) (r0 : Rd w v0 4 luE ls) (r1 : Rd w v1 5 fE fs) :
 Calls Tryz.prog 5 #[v0, v1] w fun e w' => ∃ u, e = .returned u /\ Below w.heap.size w w' /\ Fresh w w' u 5 1 bE (wsB (tableW (ls.map toLw) fs)) := by
 have hfl := featW_len fs
 have hll := looksW_len (ls.map toLw)
 have htl := tableW_len (ls.map toLw) fs
 rw [List.length_map] at hll
 have hbd : ((ls.map toLw).map lbody) = bods ls := rfl
 rw [hbd] at hll
 refine calls_exec (cf := cf) cfok (fn := Tryz.f5) Tryz.func5 rfl [.sl 0, .sl 1] [.rd LkU inferInstance 4 luE ls, .rd Feat inferInstance 5 fE fs] (ρ := fun i => match i with | 0 => v0 | _ => v1) (· < w.heap.size) rfl rfl rfl (by simp [svOkL, svOk]) (memRd (fun _ h => h) ⟨r0, r1, trivial⟩) ?_
 refine Or.inr (lcall_fresh (wsB [(fs.length : Int)]) (fun ρ S w hm => words_o [(fs.length : Int)] _ rfl (by simp) _ w (hm.raw 2 rfl rfl [(fs.length : Int)] _ rfl rfl rfl (fun y hy => rfl))) ?_)
 refine ⟨{ i : Nat // i <= fs.length }, fun i => ⟨230, [⟨0, [], .sl 0⟩, ⟨1, [], .sl 1⟩, ⟨5, [], .sl 2⟩, ⟨6, [], .sl 3⟩, ⟨7, [], .v (.int .i64 (i.1 : Nat))⟩], [.rd LkU inferInstance 4 luE ls, .rd Feat inferInstance 5 fE fs, ow5 (wsB (fh fs i.1)), ow5 (wsB (fr fs i.1))], [], dropL nats 4⟩, fun i => fs.length - i.1, ⟨[0, 1, 3, 4], ⟨0, by omega⟩, ?_⟩, fun i => ?_⟩
 · exact aI (aI rfl (aI rfl (aI rfl (aI rfl (aI rfl trivial))))) (aI rfl (aI rfl (aI rfl (aI ⟨rfl, rfl, rfl, rfl, fun y hy => by cases hy⟩ trivial))))
 obtain ⟨i, hi⟩ := i
 have hfh := fh_len fs i
 have hfr := fr_len (fs := fs) (i := i)
 refine aI (fun hlt => ?_) (fun hge => ?_)
 · have hlt : i < fs.length := lt_of_dec hlt
   have hfo := hf _ (nth_mem hlt)
   have hf1 := fr_one hlt
   refine Or.inr (Or.inr (Or.inl ⟨[0, 1, 2, 3, 4, 5, 6, 7, 8, 9, 10, 11, 12, 13, 14, 15, 16, 17, 18, 19, 20, 21, 22, 23, 24, 25], [25], [26, 27], by kernel_rfl, ?_⟩))
   refine aI (bnds hlt) ?_
   refine aI (bnds hlt) ?_
   refine aI (bnds hlt) ?_
   refine aI (bnds hlt) ?_
   refine ⟨[(nth fs i).a, (nth fs i).b, (nth fs i).c, (nth fs i).d], ⟨rfl, rfl, fun y hy => rfl⟩, ?_, ?_⟩
   · show ((wsB (fh fs i)).length + 4) * 1 <= _
     rw [wsB_len]; omega
   have ew : IntKind.i64.wrap (IntKind.i64.wrap (2 + IntKind.i64.wrap (6 * (fs.length : Int))) + ((wsB (fr fs i)).length : Int)) = 2 + 6 * (fs.length : Int) + 2 * ((fr fs i).length : Int) := by
    rw [i64_id (6 * (fs.length : Int)) (by omega) (by omega), i64_id (2 + 6 * (fs.length : Int)) (by omega) (by omega), wsB_len, i64_id _ (by omega) (by omega)]
    push_cast
    omega
   refine Or.inr (lcall_fresh (wsB [2 + 6 * (fs.length : Int) + 2 * ((fr fs i).length : Int)]) (fun ρ S w hm => words_o [IntKind.i64.wrap (IntKind.i64.wrap (2 + IntKind.i64.wrap (6 * (fs.length : Int))) + ((wsB (fr fs i)).length : Int))] _ (by rw [ew]) (by simp) _ w (hm.raw 6 rfl rfl [IntKind.i64.wrap (IntKind.i64.wrap (2 + IntKind.i64.wrap (6 * (fs.length : Int))) + ((wsB (fr fs i)).length : Int))] _ rfl rfl rfl (fun y hy => rfl))) ?_)
   refine ⟨wsB [2 + 6 * (fs.length : Int) + 2 * ((fr fs i).length : Int)], ⟨rfl, rfl, fun _ _ => ⟨rfl, rfl⟩⟩, ?_, ?_⟩
   · show ((wsB (fh fs i) ++ [_, _, _, _]).length + (wsB [_]).length) * 1 <= _
     rw [List.length_append, wsB_len, wsB_len]
     show ((fh fs i).length * 2 + 4 + 1 * 2) * 1 <= _
     omega
   refine aI (bnds hlt) ?_
   refine Or.inr (lcall_fresh (wsB [0, ((nth fs i).ks.length : Int)]) (fun ρ S w hm => words_o [0, ((nth fs i).ks.length : Int)] _ rfl (by simp) _ w (hm.raw 10 rfl rfl [0, ((nth fs i).ks.length : Int)] _ rfl rfl rfl (fun y hy => rfl))) ?_)
   refine ⟨wsB [0, ((nth fs i).ks.length : Int)], ⟨rfl, rfl, fun _ _ => ⟨rfl, rfl⟩⟩, ?_, ?_⟩
   · show ((wsB (fr fs i)).length + (wsB [_, _]).length) * 1 <= _
     rw [wsB_len, wsB_len]
     show ((fr fs i).length * 2 + 2 * 2) * 1 <= _
     omega
   refine aI (bnds hlt) ?_
   refine Or.inr (lcall_fresh (wsB (nth fs i).ks) (fun ρ S w hm => words_o (nth fs i).ks _ rfl (by omega) _ w (hm.rd 13 rfl rfl)) ?_)
   refine ⟨wsB (nth fs i).ks, ⟨rfl, rfl, fun _ _ => ⟨rfl, rfl⟩⟩, ?_, ?_⟩
   · show ((wsB (fr fs i) ++ wsB [_, _]).length + (wsB (nth fs i).ks).length) * 1 <= _
     rw [List.length_append, wsB_len, wsB_len, wsB_len]
     show ((fr fs i).length * 2 + 2 * 2 + (nth fs i).ks.length * 2) * 1 <= _
     omega
   exact ⟨[0, 1, 8, 15], ⟨i + 1, hlt⟩, aI (aI rfl (aI rfl (aI rfl (aI rfl (aI (svI (i64_succ i (by omega))) trivial))))) (aI rfl (aI rfl (aI (ow5e (by rw [tag_eq hfo, <- wsB_app, <- wsB_app, fh_next hlt])) (aI (ow5e (by rw [<- wsB_app, <- wsB_app, fr_next hlt])) trivial)))), by show fs.length - (i + 1) < fs.length - i; omega⟩
 have hge : fs.length <= i := ge_of_dec hge
 have ei : i = fs.length := by omega
 subst ei
 refine ⟨wsB (fr fs fs.length), ⟨rfl, rfl, fun _ _ => ⟨rfl, rfl⟩⟩, ?_, ?_⟩
 · show ((wsB (fh fs fs.length)).length + (wsB (fr fs fs.length)).length) * 1 <= _
   rw [wsB_len, wsB_len]
   omega
 have eF : wsB (fh fs fs.length) ++ wsB (fr fs fs.length) = wsB (featW fs) := by rw [<- wsB_app, f_end]
 refine Or.inr (lcall_fresh (wsB [(ls.length : Int)]) (fun ρ S w hm => words_o [(ls.length : Int)] _ rfl (by simp) _ w (hm.raw 5 rfl rfl [(ls.length : Int)] _ rfl rfl rfl (fun y hy => rfl))) ?_)
 have hbl := bods_len ls
 refine ⟨{ i : Nat // i <= ls.length }, fun i => ⟨230, [⟨0, [], .sl 0⟩, ⟨5, [], .sl 2⟩, ⟨8, [], .sl 3⟩, ⟨9, [], .sl 4⟩, ⟨10, [], .v (.int .i64 (i.1 : Nat))⟩], [.rd LkU inferInstance 4 luE ls, .rd Feat inferInstance 5 fE fs, ow5 (wsB (featW fs)), ow5 (wsB (lh ls i.1)), ow5 (wsB (lb ls i.1))], [], dropL nats 5⟩, fun i => ls.length - i.1, ⟨[0, 1, 4, 6, 7], ⟨0, by omega⟩, ?_⟩, fun i => ?_⟩
 · have q1 : wsB [(ls.length : Int)] = wsB (lh ls 0) := by unfold lh; rw [List.take_zero]; rfl
   have q2 : wsB (lb ls 0) = [] := by unfold lb; rw [List.take_zero]; rfl
   refine aI (aI rfl (aI rfl (aI rfl (aI rfl (aI rfl trivial))))) ?_
   refine aI rfl <| aI rfl (aI (ow5e eF) (aI (ow5e q1) (aI ?_ trivial)))
   exact ⟨rfl, rfl, congrArg List.length q2, by rw [q2]; rfl, fun y hy => by rw [q2] at hy; cases hy⟩
 obtain ⟨i, hi⟩ := i
 have hlh := lh_len ls i
 have hlb := lb_len ls i
 refine aI (fun hlt => ?_) (fun hge => ?_)
 · have hlt : i < ls.length := lt_of_dec hlt
   have hsub := ht.s _ (nth_mem hlt)
   have hpp := ht.p _ (nth_mem hlt)
   have hww := ht.w _ (nth_mem hlt)
   obtain ⟨hsf, hpf⟩ := sbs_flat_le hlt
   have ew : IntKind.i64.wrap (IntKind.i64.wrap (2 + IntKind.i64.wrap (2 * (ls.length : Int))) + ((wsB (lb ls i)).length : Int)) = 2 + 2 * (ls.length : Int) + 2 * ((lb ls i).length : Int) := by
    rw [i64_id (2 * (ls.length : Int)) (by omega) (by omega), i64_id (2 + 2 * (ls.length : Int)) (by omega) (by omega), wsB_len, i64_id _ (by omega) (by omega)]
    push_cast
    omega
   refine Or.inr (lcall_fresh (wsB [2 + 2 * (ls.length : Int) + 2 * ((lb ls i).length : Int)]) (fun ρ S w hm => words_o [IntKind.i64.wrap (IntKind.i64.wrap (2 + IntKind.i64.wrap (2 * (ls.length : Int))) + ((wsB (lb ls i)).length : Int))] _ (by rw [ew]) (by simp) _ w (hm.raw 5 rfl rfl [IntKind.i64.wrap (IntKind.i64.wrap (2 + IntKind.i64.wrap (2 * (ls.length : Int))) + ((wsB (lb ls i)).length : Int))] _ rfl rfl rfl (fun y hy => rfl))) ?_)
   refine ⟨wsB [2 + 2 * (ls.length : Int) + 2 * ((lb ls i).length : Int)], ⟨rfl, rfl, fun _ _ => ⟨rfl, rfl⟩⟩, ?_, ?_⟩
   · show ((wsB (lh ls i)).length + (wsB [_]).length) * 1 <= _
     rw [wsB_len, wsB_len]
     show ((lh ls i).length * 2 + 1 * 2) * 1 <= _
     omega
   refine ⟨Unit, fun _ => ⟨230, [⟨0, [], .sl 0⟩, ⟨5, [], .sl 2⟩, ⟨8, [], .sl 3⟩, ⟨9, [], .sl 4⟩, ⟨10, [], .v (.int .i64 (i : Nat))⟩, ⟨11, [], nilS⟩, ⟨12, [], .v (.int .i64 0)⟩], [.rd LkU inferInstance 4 luE ls, .rd Feat inferInstance 5 fE fs, ow5 (wsB (featW fs)), ow5 (wsB (lh ls (i + 1))), ow5 (wsB (lb ls i))], [], dropL nats 5⟩, fun _ => 0, ⟨[0, 1, 2, 7, 4], (), ?_⟩, fun _ => ?_⟩
   · exact aI (aI rfl (aI rfl (aI rfl (aI rfl (aI rfl (aI rfl (aI rfl trivial))))))) (aI rfl (aI rfl (aI rfl (aI (ow5e (lh_next hlt)) (aI rfl trivial)))))
   refine aI (bnds hlt) ?_
   refine aI (fun h => ?_) (fun _ => ?_)
   · have h : (0 : Int) < ((nth ls i).subs.length : Int) := of_decide_eq_true h
     rw [hsub] at h
     simp at h
   refine ⟨{ q : Nat // q <= (nth ls i).poss.length }, fun q => ⟨230, [⟨0, [], .sl 0⟩, ⟨5, [], .sl 2⟩, ⟨8, [], .sl 3⟩, ⟨9, [], .sl 4⟩, ⟨10, [], .v (.int .i64 (i : Nat))⟩, ⟨11, [], .sl 5⟩, ⟨13, [], .v (.int .i64 (q.1 : Nat))⟩], [.rd LkU inferInstance 4 luE ls, .rd Feat inferInstance 5 fE fs, ow5 (wsB (featW fs)), ow5 (wsB (lh ls (i + 1))), ow5 (wsB (lb ls i)), owWp (((nth ls i).poss.take q.1).map (posW (nth ls i).ty))], [], dropL nats 6⟩, fun q => (nth ls i).poss.length - q.1, ⟨[0, 1, 2, 3, 4, 1000], ⟨0, by omega⟩, ?_⟩, fun q => ?_⟩
   · exact aI (aI rfl (aI rfl (aI rfl (aI rfl (aI rfl (aI rfl (aI rfl trivial))))))) (aI rfl (aI rfl (aI rfl (aI rfl (aI rfl (aI rfl trivial))))))
   obtain ⟨q, hq⟩ := q
   refine aI (bnds hlt) ?_
   refine aI (fun hql => ?_) (fun hqg => ?_)
   · have hql : q < (nth ls i).poss.length := lt_of_dec hql
     obtain ⟨pr, po, pb⟩ := hpp _ (nth_mem hql)
     refine Or.inr (Or.inr (Or.inl ⟨[0, 1, 2, 3, 4, 5, 6, 7, 8, 9, 10, 11, 12, 13, 14, 15], [14, 15], [16, 17], by kernel_rfl, ?_⟩))
     refine aI (bnds hlt) ?_
     refine aI (bnds hlt) ?_
     refine aI (bnds hql) ?_
     refine mcall_fresh (wsB (posW (nth ls i).ty (nth (nth ls i).poss q))) (fun ρ S w hm => pos_mk (nth ls i).ty (nth (nth ls i).poss q) pr po pb _ _ _ w (hm.rd 8 rfl rfl) (hm.rd 9 rfl rfl) (hm.rd 10 rfl rfl)) ?_
     refine ⟨[posW (nth ls i).ty (nth (nth ls i).poss q)], ⟨rfl, rfl, fun y hy => by rw [List.mem_singleton] at hy; rw [hy]; rfl⟩, ?_, ?_⟩
     · show ((((nth ls i).poss.take q).map (posW (nth ls i).ty)).length + 1) * 24 <= _
       rw [List.length_map, List.length_take]; omega
     exact ⟨[0, 1, 2, 3, 4, 13], ⟨q + 1, hql⟩, aI (aI rfl (aI rfl (aI rfl (aI rfl (aI rfl (aI rfl (aI (svI (i64_succ q (by omega))) trivial))))))) (aI rfl (aI rfl (aI rfl (aI rfl (aI rfl (aI (owWpe (sb_next hql)) trivial)))))), by show (nth ls i).poss.length - (q + 1) < (nth ls i).poss.length - q; omega⟩
   have hqg : (nth ls i).poss.length <= q := ge_of_dec hqg
   have eq : q = (nth ls i).poss.length := by omega
   subst eq
   have eS : (((nth ls i).poss.take (nth ls i).poss.length).map (posW (nth ls i).ty)) = sbs (nth ls i) := by rw [List.take_length]; rfl
   have eSl := sbs_len (nth ls i)
   rw [eS]
   refine Or.inr (Or.inr (Or.inl ⟨[0, 1, 2, 3, 4, 5, 6, 7, 8, 9, 10, 11, 12, 13, 14, 15, 16], [15, 16], [17, 18], by kernel_rfl, ?_⟩))
   refine aI (bnds hlt) ?_
   refine aI (bnds hlt) ?_
   have e3 : [IntKind.i64.wrap (nth ls i).ty, IntKind.i64.wrap (nth ls i).flag, ((sbs (nth ls i)).length : Int)] = [(nth ls i).ty, (nth ls i).flag, ((nth ls i).poss.length : Int)] := by rw [i64_u16 hww.1, i64_u16 hww.2, eSl]
   refine mcall_fresh (wsB [(nth ls i).ty, (nth ls i).flag, ((nth ls i).poss.length : Int)]) (fun ρ S w hm => words_o [IntKind.i64.wrap (nth ls i).ty, IntKind.i64.wrap (nth ls i).flag, ((sbs (nth ls i)).length : Int)] _ (by rw [e3]) (by simp) _ w (hm.raw 7 rfl rfl [IntKind.i64.wrap (nth ls i).ty, IntKind.i64.wrap (nth ls i).flag, ((sbs (nth ls i)).length : Int)] _ rfl rfl rfl (fun y hy => rfl))) ?_
   refine ⟨wsB [(nth ls i).ty, (nth ls i).flag, ((nth ls i).poss.length : Int)], ⟨rfl, rfl, fun _ _ => ⟨rfl, rfl⟩⟩, ?_, ?_⟩
   · show ((wsB (lb ls i)).length + (wsB [_, _, _]).length) * 1 <= _
     rw [wsB_len, wsB_len]
     show ((lb ls i).length * 2 + 3 * 2) * 1 <= _
     omega
   have e14 : IntKind.i64.wrap (6 + IntKind.i64.wrap (2 * ((sbs (nth ls i)).length : Int))) = 6 + 2 * ((nth ls i).poss.length : Int) := by
    rw [eSl, i64_id (2 * ((nth ls i).poss.length : Int)) (by omega) (by omega), i64_id _ (by omega) (by omega)]
   have eb1 : wsB (lb ls i) ++ wsB [(nth ls i).ty, (nth ls i).flag, ((nth ls i).poss.length : Int)] = wsB (b1 ls i 0) := by
    rw [<- wsB_app]
    unfold b1
    rw [List.take_zero]
    show _ = wsB (_ ++ [])
    rw [List.append_nil]
   refine ⟨{ q : Nat // q <= (nth ls i).poss.length }, fun q => ⟨230, [⟨0, [], .sl 0⟩, ⟨5, [], .sl 2⟩, ⟨8, [], .sl 3⟩, ⟨9, [], .sl 4⟩, ⟨10, [], .v (.int .i64 (i : Nat))⟩, ⟨11, [], .sl 5⟩, ⟨14, [], .v (.int .i64 (6 + 2 * ((nth ls i).poss.length : Int) + 2 * (((sbs (nth ls i)).take q.1).flatten.length : Int)))⟩, ⟨15, [], .v (.int .i64 (q.1 : Nat))⟩], [.rd LkU inferInstance 4 luE ls, .rd Feat inferInstance 5 fE fs, ow5 (wsB (featW fs)), ow5 (wsB (lh ls (i + 1))), ow5 (wsB (b1 ls i q.1)), owWp (sbs (nth ls i))], [], dropL nats 6⟩, fun q => (nth ls i).poss.length - q.1, ⟨[0, 1, 2, 3, 9, 5], ⟨0, by omega⟩, ?_⟩, fun q => ?_⟩
   · exact aI (aI rfl (aI rfl (aI rfl (aI rfl (aI rfl (aI rfl (aI (svI (by rw [e14]; show _ = _ + 2 * ((0 : Nat) : Int); omega)) (aI rfl trivial)))))))) (aI rfl (aI rfl (aI rfl (aI rfl (aI (ow5e eb1) (aI rfl trivial))))))
   obtain ⟨q, hq⟩ := q
   have hf := take_flat_le (sbs (nth ls i)) q
   refine aI (fun hql => ?_) (fun hqg => ?_)
   · have hql0 : q < (sbs (nth ls i)).length := lt_of_dec hql
     have hql : q < (nth ls i).poss.length := by omega
     have hnf := nth_flat_le (sbs (nth ls i)) q hql0
     have hb1 := b1_len hlt q
     refine Or.inr (lcall_fresh (wsB [6 + 2 * ((nth ls i).poss.length : Int) + 2 * (((sbs (nth ls i)).take q).flatten.length : Int)]) (fun ρ S w hm => words_o [6 + 2 * ((nth ls i).poss.length : Int) + 2 * (((sbs (nth ls i)).take q).flatten.length : Int)] _ rfl (by simp) _ w (hm.raw 6 rfl rfl [6 + 2 * ((nth ls i).poss.length : Int) + 2 * (((sbs (nth ls i)).take q).flatten.length : Int)] _ rfl rfl rfl (fun y hy => rfl))) ?_)
     refine ⟨wsB [6 + 2 * ((nth ls i).poss.length : Int) + 2 * (((sbs (nth ls i)).take q).flatten.length : Int)], ⟨rfl, rfl, fun _ _ => ⟨rfl, rfl⟩⟩, ?_, ?_⟩
     · show ((wsB (b1 ls i q)).length + (wsB [_]).length) * 1 <= _
       rw [wsB_len, wsB_len]
       show ((b1 ls i q).length * 2 + 1 * 2) * 1 <= _
       omega
     refine aI (bnds hql0) ?_
     have en : IntKind.i64.wrap (6 + 2 * ((nth ls i).poss.length : Int) + 2 * (((sbs (nth ls i)).take q).flatten.length : Int) + ((wsB (nth (sbs (nth ls i)) q)).length : Int)) = 6 + 2 * ((nth ls i).poss.length : Int) + 2 * (((sbs (nth ls i)).take (q + 1)).flatten.length : Int) := by
      rw [wsB_len, flat_next hql0, List.length_append, i64_id _ (by push_cast; omega) (by push_cast; omega)]
      push_cast
      omega
     exact ⟨[0, 1, 2, 3, 8, 5], ⟨q + 1, hql⟩, aI (aI rfl (aI rfl (aI rfl (aI rfl (aI rfl (aI rfl (aI (svI en) (aI (svI (i64_succ q (by omega))) trivial)))))))) (aI rfl (aI rfl (aI rfl (aI rfl (aI (ow5e (b1_next hql)) (aI rfl trivial)))))), by show (nth ls i).poss.length - (q + 1) < (nth ls i).poss.length - q; omega⟩
   have hqg : (sbs (nth ls i)).length <= q := ge_of_dec hqg
   have eq : q = (nth ls i).poss.length := by omega
   subst eq
   have eb2 : b1 ls i (nth ls i).poss.length = b2 ls i 0 := by unfold b2; rw [List.take_zero]; simp
   refine ⟨{ q : Nat // q <= (nth ls i).poss.length }, fun q => ⟨230, [⟨0, [], .sl 0⟩, ⟨5, [], .sl 2⟩, ⟨8, [], .sl 3⟩, ⟨9, [], .sl 4⟩, ⟨10, [], .v (.int .i64 (i : Nat))⟩, ⟨11, [], .sl 5⟩, ⟨16, [], .v (.int .i64 (q.1 : Nat))⟩], [.rd LkU inferInstance 4 luE ls, .rd Feat inferInstance 5 fE fs, ow5 (wsB (featW fs)), ow5 (wsB (lh ls (i + 1))), ow5 (wsB (b2 ls i q.1)), owWp (sbs (nth ls i))], [], dropL nats 6⟩, fun q => (nth ls i).poss.length - q.1, ⟨[0, 1, 2, 3, 4, 5], ⟨0, by omega⟩, ?_⟩, fun q => ?_⟩
   · exact aI (aI rfl (aI rfl (aI rfl (aI rfl (aI rfl (aI rfl (aI rfl trivial))))))) (aI rfl (aI rfl (aI rfl (aI rfl (aI (ow5e (by rw [eb2])) (aI rfl trivial))))))
   obtain ⟨q, hq2⟩ := q
   refine aI (fun hql => ?_) (fun hqg => ?_)
   · have hql0 : q < (sbs (nth ls i)).length := lt_of_dec hql
     have hql : q < (nth ls i).poss.length := by omega
     have hnf := nth_flat_le (sbs (nth ls i)) q hql0
     have hb2 := b2_len hlt q
     refine aI (bnds hql0) ?_
     refine ⟨wsB (nth (sbs (nth ls i)) q), ⟨rfl, rfl, fun _ _ => ⟨rfl, rfl⟩⟩, ?_, ?_⟩
     · show ((wsB (b2 ls i q)).length + (wsB (nth (sbs (nth ls i)) q)).length) * 1 <= _
       rw [wsB_len, wsB_len]
       omega
     exact ⟨[0, 1, 2, 3, 7, 5], ⟨q + 1, hql⟩, aI (aI rfl (aI rfl (aI rfl (aI rfl (aI rfl (aI rfl (aI (svI (i64_succ q (by omega))) trivial))))))) (aI rfl (aI rfl (aI rfl (aI rfl (aI (ow5e (b2_next hql)) (aI rfl trivial)))))), by show (nth ls i).poss.length - (q + 1) < (nth ls i).poss.length - q; omega⟩
   have hqg : (sbs (nth ls i)).length <= q := ge_of_dec hqg
   have eq : q = (nth ls i).poss.length := by omega
   subst eq
   exact ⟨[0, 1, 2, 3, 4], ⟨i + 1, hlt⟩, aI (aI rfl (aI rfl (aI rfl (aI rfl (aI (svI (i64_succ i (by omega))) trivial))))) (aI rfl (aI rfl (aI rfl (aI rfl (aI (ow5e (by rw [lb_next hlt])) trivial))))), by show ls.length - (i + 1) < ls.length - i; omega⟩
 have hge : ls.length <= i := ge_of_dec hge
 have ei : i = ls.length := by omega
 subst ei
 refine ⟨wsB (lb ls ls.length), ⟨rfl, rfl, fun _ _ => ⟨rfl, rfl⟩⟩, ?_, ?_⟩
 · show ((wsB (lh ls ls.length)).length + (wsB (lb ls ls.length)).length) * 1 <= _
   rw [wsB_len, wsB_len]
   omega
 have eL := l_end ls
 have e10 : IntKind.i64.wrap (10 + ((wsB (featW fs)).length : Int)) = 10 + 2 * ((featW fs).length : Int) := by
  rw [wsB_len, i64_id _ (by omega) (by omega)]
  push_cast
  omega
 refine Or.inr (lcall_fresh (wsB [1, 0, 10, 10, 10 + 2 * ((featW fs).length : Int)]) (fun ρ S w hm => words_o [1, 0, 10, 10, IntKind.i64.wrap (10 + ((wsB (featW fs)).length : Int))] _ (by rw [e10]) (by simp) _ w (hm.raw 6 rfl rfl [1, 0, 10, 10, IntKind.i64.wrap (10 + ((wsB (featW fs)).length : Int))] _ rfl rfl rfl (fun y hy => rfl))) ?_)
 refine ⟨wsB (featW fs), ⟨rfl, rfl, fun _ _ => ⟨rfl, rfl⟩⟩, ?_, ?_⟩
 · show ((wsB [_, _, _, _, _]).length + (wsB (featW fs)).length) * 1 <= _
   rw [wsB_len, wsB_len]
   show (5 * 2 + (featW fs).length * 2) * 1 <= _
   omega
 refine ⟨wsB (lh ls ls.length) ++ wsB (lb ls ls.length), ⟨rfl, rfl, fun _ _ => ⟨rfl, rfl⟩⟩, ?_, ?_⟩
 · rw [eL]
   show ((wsB [_, _, _, _, _] ++ wsB (featW fs)).length + (wsB (looksW (ls.map toLw))).length) * 1 <= _
   rw [List.length_append, wsB_len, wsB_len, wsB_len]
   show (5 * 2 + (featW fs).length * 2 + (looksW (ls.map toLw)).length * 2) * 1 <= _
   omega
 have eall : wsB [1, 0, 10, 10, 10 + 2 * ((featW fs).length : Int)] ++ wsB (featW fs) ++ (wsB (lh ls ls.length) ++ wsB (lb ls ls.length)) = wsB (tableW (ls.map toLw) fs) := by
  rw [eL, <- wsB_app, <- wsB_app]; rfl
 rw [<- eall]
 exact fun ρ S w' hi => ⟨_, rfl, hi.below, hi.fresh 9 ⟨fun n => [.int .u8 n], fun _ => rfl⟩ rfl rfl⟩
end Go.Proofs.YtjflgkadagkllaaGreat
