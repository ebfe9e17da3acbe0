/- The law GposBack. -/
import Derived.Test.YtjflgkadagkllaaGreatW5
import Derived.Test.YtjflgkadagkllaaGreatP11
set_option maxRecDepth 100000
set_option linter.unusedVariables false
namespace Go.Proofs.YtjflgkadagkllaaGreat
open Go Go.Eng Go.RowKit
structure LWf (ls : List LkU) : Prop where
 r : LksR ls
 b : LksB ls
 o : ∀ l ∈ ls, ∀ p ∈ l.poss, lenOk p /\ PRng p
 w : ∀ l ∈ ls, (0 <= l.ty /\ l.ty <= 65535) /\ (0 <= l.flag /\ l.flag <= 65535)
structure FWf (fs : List Feat) : Prop where
 n : fs.length <= 140737488351232
 t : ∀ f ∈ fs, ((0 <= f.a /\ f.a <= 255) /\ (0 <= f.b /\ f.b <= 255) /\ (0 <= f.c /\ f.c <= 255) /\ (0 <= f.d /\ f.d <= 255)) /\ f.ks.length <= 140737488351232
theorem looks_rightR {ls : List LkU} {g : Int} (hw : LWf ls) (h : rLooks ls g = true) : ls.length <= 256 /\ ∀ l ∈ ls, LRt g l := by
 unfold rLooks at h
 rw [Bool.and_eq_true, decide_eq_true_iff] at h
 refine ⟨by omega, fun l hl => ?_⟩
 obtain ⟨i, hi, rfl⟩ := mem_nth hl
 have h2 := allN_of h.2 i hi
 rw [Bool.or_eq_false_iff, Bool.not_eq_false'] at h2
 obtain ⟨h3, h4⟩ := h2
 unfold cL at h3
 simp only [Bool.or_eq_false_iff, Bool.not_eq_false', decide_eq_true_iff, decide_eq_false_iff_not] at h3
 obtain ⟨⟨⟨f1, f2⟩, _⟩, ⟨f3, f4⟩, f5⟩ := h3
 have hwl := hw.w _ hl
 refine ⟨hwl.1, ⟨hwl.2.1, by omega, f2⟩, ⟨by omega, by omega⟩, fun p hp => ?_, List.eq_nil_of_length_eq_zero (by omega)⟩
 obtain ⟨k, hk, rfl⟩ := mem_nth hp
 have h5 := allN_of h4 k hk
 rw [Bool.not_eq_false'] at h5
 obtain ⟨o1, o2⟩ := hw.o _ hl _ hp
 exact pos_right h5 o2 o1
theorem feats_rightR {fs : List Feat} {n : Int} (hw : FWf fs) (h : rFeats fs n = true) : fs.length <= 512 /\ ∀ f ∈ fs, FOk n f := by
 unfold rFeats at h
 rw [Bool.and_eq_true, decide_eq_true_iff] at h
 refine ⟨by omega, fun f hf => ?_⟩
 obtain ⟨i, hi, rfl⟩ := mem_nth hf
 have h2 := allN_of h.2 i hi
 rw [Bool.not_eq_false'] at h2
 obtain ⟨⟨a, b, c, d⟩, hk⟩ := hw.t _ hf
 have key : ∀ k, k < (nth fs i).ks.length -> (0 <= nth (nth fs i).ks k /\ nth (nth fs i).ks k < n) /\ (0 < k -> nth (nth fs i).ks (k - 1) < nth (nth fs i).ks k) := by
  intro k hkl
  have h3 := allN_of h2 k hkl
  unfold cF at h3
  simp only [Bool.or_eq_false_iff, Bool.and_eq_false_iff, decide_eq_false_iff_not] at h3
  refine ⟨by omega, fun h0 => ?_⟩
  rcases h3.2 with hh | hh
  · omega
  · rw [pre_eq h0 (by omega)] at hh
    omega
 refine ⟨a, b, c, d, fun x hx => ?_, fun k h0 hkl => (key k hkl).2 h0⟩
 obtain ⟨k, hkl, rfl⟩ := mem_nth hx
 exact (key k hkl).1
theorem ans_le (bs : List Base) : (ansOf bs).length + bs.length = (bs.map bWt).sum := by
 unfold ansOf
 induction bs with
 | nil => rfl
 | cons b r ih =>
  rw [List.flatMap_cons, List.length_append, List.length_cons, List.map_cons, List.sum_cons, <- ih]
  unfold bWt
  omega
theorem pos_ok {p : PosU} (h : pWt p <= 1000) : PosOk p := by
 have e := ans_le p.bases
 unfold pWt at h
 have hn : an0 p.bases <= 10000 := by
  unfold an0
  cases hb : p.bases with
  | nil => show ([] : List Anchor).length <= 10000; simp
  | cons b r =>
   have : b.an.length <= (p.bases.map bWt).sum := by
    rw [hb, List.map_cons, List.sum_cons]
    unfold bWt
    omega
   show b.an.length <= 10000
   omega
 exact ⟨by omega, by omega, by omega, hn, by omega⟩
theorem to_from {g : Int} {l : LkU} (h : LRt g l) : toL (fromL l) = l := by
 have hp : (l.poss.map (fromP l.ty)).map toP = l.poss := by
  rw [List.map_map]
  have : ∀ p ∈ l.poss, (toP ∘ fromP l.ty) p = p := by
   intro p hp
   show toP (fromP l.ty p) = p
   unfold fromP
   rcases h.p p hp with ⟨h2, hk⟩ | ⟨_, h2, hm⟩
   · rw [if_pos h2]
     cases p
     have e1 := hk.nm
     have e2 := hk.nb
     simp only at e1 e2
     subst e1 e2
     rfl
   · rw [if_neg h2]
     cases p
     have e1 := hm.nk
     simp only at e1
     subst e1
     rfl
  have e := List.map_congr_left (g := id) this
  rw [e, List.map_id]
 have hs := h.s
 cases l
 simp only at hs
 subst hs
 unfold toL fromL
 simp only
 rw [hp]
theorem to_froms {g : Int} {ls : List LkU} (h : ∀ l ∈ ls, LRt g l) : (ls.map fromL).map toL = ls := by
 rw [List.map_map]
 have e := List.map_congr_left (g := id) (fun l hl => show (toL ∘ fromL) l = id l from to_from (h l hl))
 rw [e, List.map_id]
set_option maxHeartbeats 2000000 in
theorem gback_c (ls : List LkU) (fs : List Feat) (g : Int) (hls : LWf ls) (hfs : FWf fs) (v0 v1 : Value) (w : World) (r0 : Rd w v0 4 luE ls) (r1 : Rd w v1 5 fE fs) : Calls Tryz.prog 6 #[v0, v1, .int .i64 g] w fun e w' => e = .returned (.bool true) /\ Below w.heap.size w w' := by
 refine calls_exec (cf := cf) cfok (fn := Tryz.f6) Tryz.func6 rfl [.sl 0, .sl 1, .v (.int .i64 g)] [.rd LkU inferInstance 4 luE ls, .rd Feat inferInstance 5 fE fs] (ρ := fun i => match i with | 0 => v0 | _ => v1) (· < w.heap.size) rfl rfl rfl (by simp [svOkL, svOk]) (memRd (fun _ h => h) ⟨r0, r1, trivial⟩) ?_
 refine Or.inl ⟨.int .i64 (weightF ls 1000), fun ρ S w hm => weight_c ls 1000 hls.b _ w (hm.rd 0 rfl rfl), ?_⟩
 refine Or.inl ⟨.bool (rLooks ls g), fun hg ρ S w hm => right_looks ls g (fun l hl p hp => (hls.o l hl p hp).1) _ w (hm.rd 0 rfl rfl), ?_⟩
 refine Or.inl ⟨.bool (rFeats fs (ls.length : Int)), fun hg ρ S w hm => right_feats fs (ls.length : Int) (fun f hf => (hfs.t f hf).2) _ w (hm.rd 1 rfl rfl), ?_⟩
 refine aI (fun hc => ?_) (fun hc => ?_)
 · refine Or.inl ⟨.bool true, fun ρ S w hm => works_c w, ?_⟩
   exact fun ρ S w' hi => ⟨rfl, hi.below⟩
 have hc : ((((decide (weightF ls 1000 > 1000) || decide ((fs.length : Int) > 20)) || decide (g > 65535)) || !rLooks ls g) || !rFeats fs (ls.length : Int)) = false := hc
 simp only [Bool.or_eq_false_iff, Bool.not_eq_false', decide_eq_false_iff_not] at hc
 obtain ⟨⟨⟨⟨c1, c2⟩, c3⟩, c4⟩, c5⟩ := hc
 obtain ⟨hn, hR⟩ := looks_rightR hls c4
 obtain ⟨_, hF⟩ := feats_rightR hfs c5
 have hwt := weight_le (top := 1000) hls.r (fun l hl => (hR l hl).s) (by omega) (by omega) (by omega)
 refine ⟨{ i : Nat // i <= fs.length /\ ∀ j, j < i -> (nth fs j).ks.length <= 20 }, fun i => ⟨76, [⟨0, [], .sl 0⟩, ⟨1, [], .sl 1⟩, ⟨2, [], .v (.int .i64 g)⟩, ⟨7, [], .v (.int .i64 (i.1 : Nat))⟩], [.rd LkU inferInstance 4 luE ls, .rd Feat inferInstance 5 fE fs], [], dropL nats 2⟩, fun i => fs.length - i.1, ⟨[0, 1], ⟨0, by omega, fun j hj => absurd hj (Nat.not_lt_zero _)⟩, ?_⟩, fun i => ?_⟩
 · exact aI (aI rfl (aI rfl (aI rfl (aI rfl trivial)))) (aI rfl (aI rfl trivial))
 obtain ⟨i, hi, hall⟩ := i
 refine aI (fun hlt => ?_) (fun hge => ?_)
 · have hlt : i < fs.length := lt_of_dec hlt
   refine aI (bnds hlt) ?_
   refine aI (fun h20 => ?_) (fun h20 => ?_)
   · refine Or.inl ⟨.bool true, fun ρ S w hm => works_c w, ?_⟩
     exact fun ρ S w' hi => ⟨rfl, hi.below⟩
   have h20 : ¬ ((nth fs i).ks.length : Int) > 20 := of_decide_eq_false h20
   refine ⟨[0, 1], ⟨i + 1, hlt, fun j hj => ?_⟩, aI (aI rfl (aI rfl (aI rfl (aI (svI (i64_succ i (by omega))) trivial)))) (aI rfl (aI rfl trivial)), by show fs.length - (i + 1) < fs.length - i; omega⟩
   by_cases e : j = i
   · subst e; omega
   · exact hall j (by omega)
 have hge : fs.length <= i := ge_of_dec hge
 have hk20 : ∀ f ∈ fs, f.ks.length <= 20 := by
  intro f hf
  obtain ⟨j, hj, rfl⟩ := mem_nth hf
  exact hall j (by omega)
 have hsz := table_size hR (by omega) (by omega) hk20
 have hX := back_plain hR (by omega) hn hF (by omega) hk20
 have hwm : ∀ l ∈ ls, ∀ p ∈ l.poss, pWt p <= 1000 := by
  intro l hl p hp
  have a := wtot_mem hl
  have b := pWt_mem hp
  unfold lWt at a
  omega
 have hT : TOk ls := ⟨fun l hl => (hR l hl).s, fun l hl p hp => ⟨(hls.o l hl p hp).2, pos_ok (hwm l hl p hp), fun hne => by
  rcases (hR l hl).p p hp with h | h
  · exact absurd h.1 hne
  · exact ⟨h.2.2.nb, h.2.2.bn⟩⟩, hls.w⟩
 have hsz2 : (wsB (tableW (ls.map toLw) fs)).length <= 40000 := by rw [wsB_len]; omega
 have hB := wsB_byt (tableW (ls.map toLw) fs)
 have htm := fun v0 v1 w r0 r1 => table_mk ls fs (ls.length : Int) hT hF (by omega) v0 v1 w r0 r1
 generalize wsB (tableW (ls.map toLw) fs) = b at *
 refine Or.inr (lcall_fresh b (fun ρ S w hm => htm _ _ w (hm.rd 0 rfl rfl) (hm.rd 1 rfl rfl)) ?_)
 refine Or.inr (lcall_frzTo [(2, .rd Int inferInstance 1 bE b)] ⟨rfl, rfl, ?_⟩)
 refine lcall_sub [2] (open_s b (by omega)) rfl rfl rfl rfl rfl (aI rfl trivial) ?_
 refine subSt_out [.rd LkU inferInstance 4 luE ls, .rd Feat inferInstance 5 fE fs, .rd Int inferInstance 1 bE b, .bx 121 [.v (.bool false)], .rd Int inferInstance 1 bE b, .bx 124 [.bx 3 0, .sl 4]] [2, 3, 4, 5] rfl rfl ?_
 refine Or.inr (lcall_sub [3, 4, 5] (parse_s b g hB (by omega) _ hX) rfl rfl rfl rfl rfl (aI (aI rfl rfl) (aI rfl (aI (aI rfl rfl) trivial))) ?_)
 refine subSt_out [.rd LkU inferInstance 4 luE ls, .rd Feat inferInstance 5 fE fs, .rd Int inferInstance 1 bE b, .dead, .rd Int inferInstance 1 bE b, .dead, owLk (ls.map fromL), owF fs] [3, 4, 5, 6, 7] rfl rfl ?_
 have hq : ∀ {S : Nat -> Prop} {w : World} {v : Value}, DRep S w (.sl Lk inferInstance 4 lkE (ls.map fromL)) v -> DRep S w (.sl LkU inferInstance 4 luE ls) v := fun h => by
  have := rep_looks h
  rwa [to_froms hR] at this
 refine Or.inl ⟨.bool true, fun hg ρ S w hm => samelooks_c ls (by omega) (fun l hl => ⟨(hR l hl).s, by have := (hR l hl).n; omega, fun p hp => (hls.o l hl p hp).1⟩) _ _ w (hm.rd 0 rfl rfl) (hq (hm.own 6 rfl rfl)), ?_⟩
 refine Or.inl ⟨.bool true, fun hg ρ S w hm => samefeats_c fs (by omega) (fun f hf => by have := hk20 f hf; omega) _ _ w (hm.rd 1 rfl rfl) (hm.own 7 rfl rfl), ?_⟩
 refine Or.inl ⟨.bool true, fun _ ρ S w hm => works_c w, ?_⟩
 exact fun ρ S w' hi => ⟨rfl, hi.below⟩
end Go.Proofs.YtjflgkadagkllaaGreat
