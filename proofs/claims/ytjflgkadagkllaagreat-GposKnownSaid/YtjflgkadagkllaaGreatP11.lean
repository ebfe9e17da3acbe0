/- calamuskit.SameBytes, SamePos, SameLookups, SameFeatures: of the same. -/
import Derived.Test.YtjflgkadagkllaaGreatN13
set_option maxRecDepth 100000
set_option linter.unusedVariables false
namespace Go.Proofs.YtjflgkadagkllaaGreat
open Go Go.Eng Go.RowKit
theorem sameb_c (xs : List Int) (v u : Value) (w : World) (hv : Rd w v 1 bE xs) (hu : Rd w u 1 bE xs) :
 Calls Tryz.prog 21 #[v, u] w fun e w' => e = .returned (.bool true) /\ Below w.heap.size w w' := by
 refine calls_exec (cf := cf) cfok (fn := Tryz.f21) Tryz.func21 rfl [.sl 0, .sl 1] [.rd Int inferInstance 1 bE xs, .rd Int inferInstance 1 bE xs] (ρ := fun i => if i = 0 then v else u) (· < w.heap.size) rfl rfl rfl (by simp [svOkL, svOk]) (memRd (fun _ h => h) ⟨hv, hu, trivial⟩) ?_
 refine ⟨.string (strOfNums xs), pure_bytes ttok' xs rfl rfl rfl rfl rfl ⟨rfl, rfl, fun i _ => ⟨rfl, rfl⟩⟩, ?_⟩
 refine ⟨.string (strOfNums xs), pure_bytes ttok' xs rfl rfl rfl rfl rfl ⟨rfl, rfl, fun i _ => ⟨rfl, rfl⟩⟩, ?_⟩
 exact fun ρ S w' hi => ⟨by rw [show ((strOfNums xs).toList == (strOfNums xs).toList) = true from by simp]; rfl, hi.below⟩
theorem neqII (n : Int) : (!decide (n = n)) = false := by rw [decide_eq_true rfl]; rfl
abbrev SPos2 (p : PosU) : List Chunk := SPos p.kerns p.marks p.bases ++ SPos p.kerns p.marks p.bases ++ [.bx 42 [.sl 0, .sl 1, .sl 2], .bx 42 [.sl 3, .sl 4, .sl 5]]
set_option maxHeartbeats 2000000 in
theorem samepos_c (p : PosU) (hl : lenOk p) (v1 v2 v3 u1 u2 u3 : Value) (w : World) (r1 : Rd w v1 3 keE p.kerns) (r2 : Rd w v2 4 maE p.marks) (r3 : Rd w v3 2 baE p.bases) (q1 : Rd w u1 3 keE p.kerns) (q2 : Rd w u2 4 maE p.marks) (q3 : Rd w u3 2 baE p.bases) :
 Calls Tryz.prog 42 #[.agg #[v1, v2, v3], .agg #[u1, u2, u3]] w fun e w' => e = .returned (.bool true) /\ Below w.heap.size w w' := by
 obtain ⟨l1, l2, l3, l4⟩ := hl
 refine calls_exec (cf := cf) cfok (fn := Tryz.f42) Tryz.func42 rfl [.agg [.sl 0, .sl 1, .sl 2], .agg [.sl 3, .sl 4, .sl 5]] (SPos p.kerns p.marks p.bases ++ SPos p.kerns p.marks p.bases) (ρ := fun i => match i with | 0 => v1 | 1 => v2 | 2 => v3 | 3 => u1 | 4 => u2 | _ => u3) (· < w.heap.size) rfl rfl rfl (by simp [svOkL, svOk]) (memRd (fun _ h => h) ⟨r1, r2, r3, q1, q2, q3, trivial⟩) ?_
 refine aI (fun h => ?_) (fun _ => ?_)
 · have h : (((!decide ((p.kerns.length : Int) = (p.kerns.length : Int))) || !decide ((p.marks.length : Int) = (p.marks.length : Int))) || !decide ((p.bases.length : Int) = (p.bases.length : Int))) = true := h
   rw [neqII, neqII, neqII] at h; cases h
 refine ⟨{ i : Nat // i <= p.kerns.length }, fun i => ⟨137, [⟨2, [], .bx 6 0⟩, ⟨3, [], .bx 7 0⟩, ⟨5, [], .v (.int .i64 (i.1 : Nat))⟩], SPos2 p, [], dropL nats 8⟩, fun i => p.kerns.length - i.1, ⟨[0, 1, 2, 3, 4, 5, 6, 7], ⟨0, by omega⟩, ?_⟩, fun i => ?_⟩
 · exact aI (aI rfl (aI rfl (aI rfl trivial))) (aI rfl (aI rfl (aI rfl (aI rfl (aI rfl (aI rfl (aI (aI rfl rfl) (aI (aI rfl rfl) trivial))))))))
 obtain ⟨i, hi⟩ := i
 refine aI (fun hlt => ?_) (fun hge => ?_)
 · have hlt : i < p.kerns.length := by
    have : ((i : Nat) : Int) < ((p.kerns.length : Nat) : Int) := of_decide_eq_true hlt
    omega
   have bi : (0 : Int) <= (i : Int) /\ (i : Int) < (p.kerns.length : Int) := ⟨by omega, by omega⟩
   refine Or.inl ⟨by kernel_rfl, ?_⟩
   refine aI bi ?_
   refine aI bi ?_
   refine ⟨_, pure_aggEq (op := .neq) (.inr rfl) (l1 := [.int .u16 (nth p.kerns i).a, .int .u16 (nth p.kerns i).b, .int .i16 (nth p.kerns i).x]) (l2 := [.int .u16 (nth p.kerns i).a, .int .u16 (nth p.kerns i).b, .int .i16 (nth p.kerns i).x]) true rfl rfl (fun _ => rfl) (fun _ => rfl) eqg135 (fun w => eq135 _ _ _ w), ?_⟩
   refine aI (fun h => by cases h) (fun _ => ?_)
   exact ⟨[0, 1, 2, 3, 4, 5, 6, 7], ⟨i + 1, hlt⟩, aI (aI rfl (aI rfl (aI (svI (i64_succ i (by omega))) trivial))) (aI rfl (aI rfl (aI rfl (aI rfl (aI rfl (aI rfl (aI (aI rfl rfl) (aI (aI rfl rfl) trivial)))))))), by show _ - (i + 1) < _ - i; omega⟩
 refine ⟨{ i : Nat // i <= p.marks.length }, fun i => ⟨137, [⟨2, [], .bx 6 0⟩, ⟨3, [], .bx 7 0⟩, ⟨6, [], .v (.int .i64 (i.1 : Nat))⟩], SPos2 p, [], dropL nats 8⟩, fun i => p.marks.length - i.1, ⟨[0, 1, 2, 3, 4, 5, 6, 7], ⟨0, by omega⟩, ?_⟩, fun i => ?_⟩
 · exact aI (aI rfl (aI rfl (aI rfl trivial))) (aI rfl (aI rfl (aI rfl (aI rfl (aI rfl (aI rfl (aI (aI rfl rfl) (aI (aI rfl rfl) trivial))))))))
 obtain ⟨i, hi⟩ := i
 refine aI (fun hlt => ?_) (fun hge => ?_)
 · have hlt : i < p.marks.length := by
    have : ((i : Nat) : Int) < ((p.marks.length : Nat) : Int) := of_decide_eq_true hlt
    omega
   have bi : (0 : Int) <= (i : Int) /\ (i : Int) < (p.marks.length : Int) := ⟨by omega, by omega⟩
   refine Or.inl ⟨by kernel_rfl, ?_⟩
   refine aI bi ?_
   refine aI bi ?_
   refine ⟨_, pure_aggEq (op := .neq) (.inr rfl) (l1 := [.int .u16 (nth p.marks i).g, .int .u16 (nth p.marks i).c, .int .i16 (nth p.marks i).x, .int .i16 (nth p.marks i).y]) (l2 := [.int .u16 (nth p.marks i).g, .int .u16 (nth p.marks i).c, .int .i16 (nth p.marks i).x, .int .i16 (nth p.marks i).y]) true rfl rfl (fun _ => rfl) (fun _ => rfl) eqg59 (fun w => eq59 _ _ _ _ w), ?_⟩
   refine aI (fun h => by cases h) (fun _ => ?_)
   exact ⟨[0, 1, 2, 3, 4, 5, 6, 7], ⟨i + 1, hlt⟩, aI (aI rfl (aI rfl (aI (svI (i64_succ i (by omega))) trivial))) (aI rfl (aI rfl (aI rfl (aI rfl (aI rfl (aI rfl (aI (aI rfl rfl) (aI (aI rfl rfl) trivial)))))))), by show _ - (i + 1) < _ - i; omega⟩
 refine ⟨{ i : Nat // i <= p.bases.length }, fun i => ⟨137, [⟨2, [], .bx 6 0⟩, ⟨3, [], .bx 7 0⟩, ⟨7, [], .v (.int .i64 (i.1 : Nat))⟩], SPos2 p, [], dropL nats 8⟩, fun i => p.bases.length - i.1, ⟨[0, 1, 2, 3, 4, 5, 6, 7], ⟨0, by omega⟩, ?_⟩, fun i => ?_⟩
 · exact aI (aI rfl (aI rfl (aI rfl trivial))) (aI rfl (aI rfl (aI rfl (aI rfl (aI rfl (aI rfl (aI (aI rfl rfl) (aI (aI rfl rfl) trivial))))))))
 obtain ⟨i, hi⟩ := i
 refine aI (fun hlt => ?_) (fun hge => ?_)
 rotate_left
 · exact fun ρ S w' hi => ⟨rfl, hi.below⟩
 have hlt : i < p.bases.length := by
  have : ((i : Nat) : Int) < ((p.bases.length : Nat) : Int) := of_decide_eq_true hlt
  omega
 have bi : (0 : Int) <= (i : Int) /\ (i : Int) < (p.bases.length : Int) := ⟨by omega, by omega⟩
 have hbl := l4 _ (nth_mem hlt)
 refine Or.inl ⟨by kernel_rfl, ?_⟩
 refine aI bi ?_
 refine aI bi ?_
 refine aI (fun _ => bi) ?_
 refine aI (fun _ => bi) ?_
 refine aI (fun h => ?_) (fun _ => ?_)
 · have h : ((!decide ((nth p.bases i).g = (nth p.bases i).g)) || !decide (((nth p.bases i).an.length : Int) = ((nth p.bases i).an.length : Int))) = true := h
   rw [neqII, neqII] at h; cases h
 refine ⟨{ k : Nat // k <= (nth p.bases i).an.length }, fun k => ⟨137, [⟨2, [], .bx 6 0⟩, ⟨3, [], .bx 7 0⟩, ⟨7, [], .v (.int .i64 (i : Nat))⟩, ⟨8, [], .v (.int .i64 (k.1 : Nat))⟩], SPos2 p, [], dropL nats 8⟩, fun k => (nth p.bases i).an.length - k.1, ⟨[0, 1, 2, 3, 4, 5, 6, 7], ⟨0, by omega⟩, ?_⟩, fun k => ?_⟩
 · exact aI (aI rfl (aI rfl (aI rfl (aI rfl trivial)))) (aI rfl (aI rfl (aI rfl (aI rfl (aI rfl (aI rfl (aI (aI rfl rfl) (aI (aI rfl rfl) trivial))))))))
 obtain ⟨k, hk⟩ := k
 refine aI bi ?_
 refine aI (fun hkl => ?_) (fun hkg => ?_)
 · have hkl : k < (nth p.bases i).an.length := by
    have : ((k : Nat) : Int) < (((nth p.bases i).an.length : Nat) : Int) := of_decide_eq_true hkl
    omega
   have bk : (0 : Int) <= (k : Int) /\ (k : Int) < ((nth p.bases i).an.length : Int) := ⟨by omega, by omega⟩
   refine Or.inl ⟨by kernel_rfl, ?_⟩
   refine aI bi ?_
   refine aI bk ?_
   refine aI bi ?_
   refine aI bk ?_
   refine ⟨_, pure_aggEq (op := .neq) (.inr rfl) (l1 := [.bool (nth (nth p.bases i).an k).has, .int .i16 (nth (nth p.bases i).an k).x, .int .i16 (nth (nth p.bases i).an k).y]) (l2 := [.bool (nth (nth p.bases i).an k).has, .int .i16 (nth (nth p.bases i).an k).x, .int .i16 (nth (nth p.bases i).an k).y]) true rfl rfl (fun _ => rfl) (fun _ => rfl) eqg64 (fun w => eq64 _ _ _ w), ?_⟩
   refine aI (fun h => by cases h) (fun _ => ?_)
   exact ⟨[0, 1, 2, 3, 4, 5, 6, 7], ⟨k + 1, hkl⟩, aI (aI rfl (aI rfl (aI rfl (aI (svI (i64_succ k (by omega))) trivial)))) (aI rfl (aI rfl (aI rfl (aI rfl (aI rfl (aI rfl (aI (aI rfl rfl) (aI (aI rfl rfl) trivial)))))))), by show _ - (k + 1) < _ - k; omega⟩
 exact ⟨[0, 1, 2, 3, 4, 5, 6, 7], ⟨i + 1, hlt⟩, aI (aI rfl (aI rfl (aI (svI (i64_succ i (by omega))) trivial))) (aI rfl (aI rfl (aI rfl (aI rfl (aI rfl (aI rfl (aI (aI rfl rfl) (aI (aI rfl rfl) trivial)))))))), by show _ - (i + 1) < _ - i; omega⟩
set_option maxHeartbeats 2000000 in
theorem samelooks_c (ls : List LkU) (hn : ls.length <= 140737488351232) (hl : ∀ l ∈ ls, l.subs = [] /\ l.poss.length <= 140737488351232 /\ ∀ p ∈ l.poss, lenOk p) (v u : Value) (w : World) (r : Rd w v 4 luE ls) (q : Rd w u 4 luE ls) :
 Calls Tryz.prog 18 #[v, u] w fun e w' => e = .returned (.bool true) /\ Below w.heap.size w w' := by
 refine calls_exec (cf := cf) cfok (fn := Tryz.f18) Tryz.func18 rfl [.sl 0, .sl 1] [.rd LkU inferInstance 4 luE ls, .rd LkU inferInstance 4 luE ls] (ρ := fun i => match i with | 0 => v | _ => u) (· < w.heap.size) rfl rfl rfl (by simp [svOkL, svOk]) (memRd (fun _ h => h) ⟨r, q, trivial⟩) ?_
 refine aI (fun h => ?_) (fun _ => ?_)
 · have h : (!decide ((ls.length : Int) = (ls.length : Int))) = true := h
   rw [neqII] at h; cases h
 refine ⟨{ i : Nat // i <= ls.length }, fun i => ⟨129, [⟨0, [], .sl 0⟩, ⟨1, [], .sl 1⟩, ⟨5, [], .v (.int .i64 (i.1 : Nat))⟩], [.rd LkU inferInstance 4 luE ls, .rd LkU inferInstance 4 luE ls], [], dropL nats 2⟩, fun i => ls.length - i.1, ⟨[0, 1], ⟨0, by omega⟩, ?_⟩, fun i => ?_⟩
 · exact aI (aI rfl (aI rfl (aI rfl trivial))) (aI rfl (aI rfl trivial))
 obtain ⟨i, hi⟩ := i
 refine aI (fun hlt => ?_) (fun hge => ?_)
 rotate_left
 · exact fun ρ S w' hi => ⟨rfl, hi.below⟩
 have hlt : i < ls.length := by
  have : ((i : Nat) : Int) < ((ls.length : Nat) : Int) := of_decide_eq_true hlt
  omega
 have bi : (0 : Int) <= (i : Int) /\ (i : Int) < (ls.length : Int) := ⟨by omega, by omega⟩
 obtain ⟨hsub, hpl, hpo⟩ := hl _ (nth_mem hlt)
 refine Or.inl ⟨by kernel_rfl, ?_⟩
 refine aI bi ?_
 refine aI bi ?_
 refine aI (fun _ => bi) ?_
 refine aI (fun _ => bi) ?_
 refine aI (fun _ => bi) ?_
 refine aI (fun _ => bi) ?_
 refine aI (fun _ => bi) ?_
 refine aI (fun _ => bi) ?_
 refine aI (fun h => ?_) (fun _ => ?_)
 · have h : ((((!decide ((nth ls i).ty = (nth ls i).ty)) || !decide ((nth ls i).flag = (nth ls i).flag)) || !decide (((nth ls i).subs.length : Int) = ((nth ls i).subs.length : Int))) || !decide (((nth ls i).poss.length : Int) = ((nth ls i).poss.length : Int))) = true := h
   rw [neqII, neqII, neqII, neqII] at h; cases h
 refine ⟨Unit, fun _ => ⟨129, [⟨0, [], .sl 0⟩, ⟨1, [], .sl 1⟩, ⟨5, [], .v (.int .i64 (i : Nat))⟩, ⟨6, [], .v (.int .i64 0)⟩], [.rd LkU inferInstance 4 luE ls, .rd LkU inferInstance 4 luE ls], [], dropL nats 2⟩, fun i => 0, ⟨[0, 1], (), ?_⟩, fun _ => ?_⟩
 · exact aI (aI rfl (aI rfl (aI rfl (aI rfl trivial)))) (aI rfl (aI rfl trivial))
 refine aI bi ?_
 refine aI (fun h => ?_) (fun _ => ?_)
 · have h : (0 : Int) < ((nth ls i).subs.length : Int) := of_decide_eq_true h
   rw [hsub] at h
   simp at h
 refine ⟨{ k : Nat // k <= (nth ls i).poss.length }, fun k => ⟨129, [⟨0, [], .sl 0⟩, ⟨1, [], .sl 1⟩, ⟨5, [], .v (.int .i64 (i : Nat))⟩, ⟨7, [], .v (.int .i64 (k.1 : Nat))⟩], [.rd LkU inferInstance 4 luE ls, .rd LkU inferInstance 4 luE ls], [], dropL nats 2⟩, fun k => (nth ls i).poss.length - k.1, ⟨[0, 1], ⟨0, by omega⟩, ?_⟩, fun k => ?_⟩
 · exact aI (aI rfl (aI rfl (aI rfl (aI rfl trivial)))) (aI rfl (aI rfl trivial))
 obtain ⟨k, hk⟩ := k
 refine aI bi ?_
 refine aI (fun hkl => ?_) (fun hkg => ?_)
 · have hkl : k < (nth ls i).poss.length := by
    have : ((k : Nat) : Int) < (((nth ls i).poss.length : Nat) : Int) := of_decide_eq_true hkl
    omega
   have bk : (0 : Int) <= (k : Int) /\ (k : Int) < ((nth ls i).poss.length : Int) := ⟨by omega, by omega⟩
   refine Or.inl ⟨by kernel_rfl, ?_⟩
   refine aI bi ?_
   refine aI bk ?_
   refine aI bi ?_
   refine aI bk ?_
   refine ⟨.bool true, fun ρ S w' hm => ?_, ?_⟩
   · exact samepos_c (nth (nth ls i).poss k) (hpo _ (nth_mem hkl)) _ _ _ _ _ _ w' (hm.rd 4 rfl rfl) (hm.rd 5 rfl rfl) (hm.rd 6 rfl rfl) (hm.rd 8 rfl rfl) (hm.rd 9 rfl rfl) (hm.rd 10 rfl rfl)
   refine aI (fun h => by cases h) (fun _ => ?_)
   exact ⟨[0, 1], ⟨k + 1, hkl⟩, aI (aI rfl (aI rfl (aI rfl (aI (svI (i64_succ k (by omega))) trivial)))) (aI rfl (aI rfl trivial)), by show _ - (k + 1) < _ - k; omega⟩
 exact ⟨[0, 1], ⟨i + 1, hlt⟩, aI (aI rfl (aI rfl (aI (svI (i64_succ i (by omega))) trivial))) (aI rfl (aI rfl trivial)), by show _ - (i + 1) < _ - i; omega⟩
theorem eqg40 : Tryz.prog.eqGuardType Tryz.prog.depth 55 = false := by kernel_rfl
theorem eq40 (a b c d : Int) (w : World) : (Op.equalIn 10000 55 (.agg [.int .u8 a, .int .u8 b, .int .u8 c, .int .u8 d].toArray) (.agg [.int .u8 a, .int .u8 b, .int .u8 c, .int .u8 d].toArray)).run Tryz.prog w = .ok true w := by
 obtain ⟨i, hi⟩ : ∃ i, Tryz.prog.info? 5 = some i := ⟨_, rfl⟩
 rw [show (10000 : Nat) = 9999 + 1 from rfl, run_equalIn_array (n := 4) (e := 5) w 9999 _ _ Tryz.underlying55 hi, show Tryz.prog.cellsOf 5 = 1 by kernel_rfl]
 have q : ∀ (x : Int) (w : World), (Op.equalIn 9999 5 (.int .u8 x) (.int .u8 x)).run Tryz.prog w = .ok true w := fun x w => by
  rw [run_equalIn_int w 9998 5 .u8 .u8 x x Tryz.underlying5]
  simp
 show (Op.eqItems 9999 5 1 _ _ [0, 1, 2, 3]).run Tryz.prog w = _
 simp [Op.eqItems, part, isAgg, run_underlying Tryz.underlying5, q]
theorem samefeats_c (fs : List Feat) (hn : fs.length <= 140737488351232) (hl : ∀ f ∈ fs, f.ks.length <= 1000000) (v u : Value) (w : World) (r : Rd w v 5 fE fs) (q : Rd w u 5 fE fs) :
 Calls Tryz.prog 19 #[v, u] w fun e w' => e = .returned (.bool true) /\ Below w.heap.size w w' := by
 refine calls_exec (cf := cf) cfok (fn := Tryz.f19) Tryz.func19 rfl [.sl 0, .sl 1] [.rd Feat inferInstance 5 fE fs, .rd Feat inferInstance 5 fE fs] (ρ := fun i => match i with | 0 => v | _ => u) (· < w.heap.size) rfl rfl rfl (by simp [svOkL, svOk]) (memRd (fun _ h => h) ⟨r, q, trivial⟩) ?_
 refine aI (fun h => ?_) (fun _ => ?_)
 · have h : (!decide ((fs.length : Int) = (fs.length : Int))) = true := h
   rw [neqII] at h; cases h
 refine ⟨{ i : Nat // i <= fs.length }, fun i => ⟨42, [⟨0, [], .sl 0⟩, ⟨1, [], .sl 1⟩, ⟨5, [], .v (.int .i64 (i.1 : Nat))⟩], [.rd Feat inferInstance 5 fE fs, .rd Feat inferInstance 5 fE fs], [], dropL nats 2⟩, fun i => fs.length - i.1, ⟨[0, 1], ⟨0, by omega⟩, ?_⟩, fun i => ?_⟩
 · exact aI (aI rfl (aI rfl (aI rfl trivial))) (aI rfl (aI rfl trivial))
 obtain ⟨i, hi⟩ := i
 refine aI (fun hlt => ?_) (fun hge => ?_)
 rotate_left
 · exact fun ρ S w' hi => ⟨rfl, hi.below⟩
 have hlt : i < fs.length := by
  have : ((i : Nat) : Int) < ((fs.length : Nat) : Int) := of_decide_eq_true hlt
  omega
 have bi : (0 : Int) <= (i : Int) /\ (i : Int) < (fs.length : Int) := ⟨by omega, by omega⟩
 have hkl := hl _ (nth_mem hlt)
 refine Or.inl ⟨by kernel_rfl, ?_⟩
 refine aI bi ?_
 refine aI bi ?_
 refine ⟨_, pure_aggEq (op := .neq) (.inr rfl) (l1 := [.int .u8 (nth fs i).a, .int .u8 (nth fs i).b, .int .u8 (nth fs i).c, .int .u8 (nth fs i).d]) (l2 := [.int .u8 (nth fs i).a, .int .u8 (nth fs i).b, .int .u8 (nth fs i).c, .int .u8 (nth fs i).d]) true rfl rfl (fun _ => rfl) (fun _ => rfl) eqg40 (fun w => eq40 _ _ _ _ w), ?_⟩
 refine aI (fun _ => bi) ?_
 refine aI (fun _ => bi) ?_
 refine ⟨.bool true, fun hg ρ S w' hm => ?_, ?_⟩
 · have := samez_c (nth fs i).ks (nth fs i).ks _ _ w' (by omega) (hm.cnd 2 rfl rfl (aI hg trivial)) (hm.cnd 3 rfl rfl (aI hg trivial))
   rw [decide_eq_true rfl] at this
   exact this
 refine aI (fun h => by cases h) (fun _ => ?_)
 exact ⟨[0, 1], ⟨i + 1, hlt⟩, aI (aI rfl (aI rfl (aI (svI (i64_succ i (by omega))) trivial))) (aI rfl (aI rfl trivial)), by show _ - (i + 1) < _ - i; omega⟩
end Go.Proofs.YtjflgkadagkllaaGreat
