/- calamusmake.Words, bin.Open as one's own, the reps of what is read; works. -/
import Derived.Test.YtjflgkadagkllaaGreatN12
import Derived.ChangeKeysEq
import Derived.ProofKit
set_option maxRecDepth 100000
set_option linter.unusedVariables false
namespace Go.Proofs.YtjflgkadagkllaaGreat
open Go Go.Eng Go.RowKit
def hiB (n : Int) : Int := IntKind.u8.wrap (shrV IntKind.i64 n 8)
def loB (n : Int) : Int := IntKind.u8.wrap n
def wsB (xs : List Int) : List Int := xs.flatMap fun n => [hiB n, loB n]
theorem wsB_len (xs : List Int) : (wsB xs).length = xs.length * 2 := flatMap_len _ 2 xs (fun _ _ => rfl)
theorem wsB_take {xs : List Int} {i : Nat} (h : i < xs.length) : wsB (xs.take i) ++ [hiB (nth xs i), loB (nth xs i)] = wsB (xs.take (i + 1)) := by
 unfold wsB
 rw [List.take_succ_eq_append_getElem h, List.flatMap_append, nthE h]; rfl
abbrev ow5 (xs : List Int) : Chunk := .own 5 Int inferInstance 1 bE xs
theorem ow5e {a b : List Int} (h : a = b) : ow5 a = ow5 b := by rw [h]
theorem words_mk (xs : List Int) (hl : xs.length <= 1000000) (v : Value) (w : World) (hv : Rd w v 1 zE xs) :
 Calls Tryz.prog 9 #[v] w fun e w' => ∃ u, e = .returned u /\ Below w.heap.size w w' /\ Fresh w w' u 5 1 bE (wsB xs) := by
 refine calls_exec (cf := cf) cfok (fn := Tryz.f9) Tryz.func9 rfl [.sl 0] [.rd Int inferInstance 1 zE xs] (ρ := fun _ => v) (· < w.heap.size) rfl rfl rfl (by simp [svOkL, svOk]) (memRd (fun _ h => h) ⟨hv, trivial⟩) ?_
 refine ⟨{ i : Nat // i <= xs.length }, fun i => ⟨26, [⟨0, [], .sl 0⟩, ⟨3, [], .sl 1⟩, ⟨4, [], .v (.int .i64 (i.1 : Nat))⟩], [.rd Int inferInstance 1 zE xs, ow5 (wsB (xs.take i.1))], [], dropL nats 2⟩, fun i => xs.length - i.1, ⟨[0, 1000], ⟨0, by omega⟩, ?_⟩, fun i => ?_⟩
 · exact aI (aI rfl (aI rfl (aI rfl trivial))) (aI rfl (aI rfl trivial))
 obtain ⟨i, hi⟩ := i
 refine aI (fun hlt => ?_) (fun hge => ?_)
 rotate_left
 · have hge : i = xs.length := by
    have : ¬ ((i : Nat) : Int) < ((xs.length : Nat) : Int) := of_decide_eq_false hge
    omega
   subst hge
   rw [List.take_length] at *
   exact fun ρ S w' hi => ⟨_, rfl, hi.below, hi.fresh 1 ⟨fun n => [.int .u8 n], fun _ => rfl⟩ rfl rfl⟩
 have hlt : i < xs.length := by
  have : ((i : Nat) : Int) < ((xs.length : Nat) : Int) := of_decide_eq_true hlt
  omega
 have bi : (0 : Int) <= (i : Int) /\ (i : Int) < (xs.length : Int) := ⟨by omega, by omega⟩
 refine Or.inr (Or.inr (Or.inl ⟨[0, 1, 2, 3, 4, 5, 6, 7, 8, 9, 10, 11, 12], [12], [13, 14], by kernel_rfl, ?_⟩))
 refine aI bi ?_
 refine aI (show (0 : Int) <= 8 by omega) ?_
 refine aI bi ?_
 refine ⟨[hiB (nth xs i), loB (nth xs i)], ⟨rfl, rfl, fun y hy => rfl⟩, ?_, ?_⟩
 · show ((wsB (xs.take i)).length + 2) * 1 <= _
   rw [wsB_len, List.length_take]; omega
 exact ⟨[0, 3], ⟨i + 1, hlt⟩, aI (aI rfl (aI rfl (aI (svI (i64_succ i (by omega))) trivial))) (aI rfl (aI (ow5e (wsB_take hlt)) trivial)), by show xs.length - (i + 1) < xs.length - i; omega⟩
theorem open_s (b : List Int) (hb : b.length <= 1000000) : LCall Tryz.prog ⟨0, [], [.rd Int inferInstance 1 bE b], [], []⟩ 17 [.sl 0]
 (fun st' s => st'.ch = [.rd Int inferInstance 1 bE b, .bx 121 [.v (.bool false)], .rd Int inferInstance 1 bE b, .bx 124 [.bx 1 0, .sl 2]] /\ s = .bx 3 0) := by
 refine lcall_exec (cf := cf) cfok (fn := Tryz.f17) Tryz.func17 rfl _ _ [.rd Int inferInstance 1 bE b, .bx 121 [.v (.bool false)], .rd Int inferInstance 1 bE b, .bx 124 [.bx 1 0, .sl 2]] (.bx 3 0) rfl rfl (by simp [svOkL, svOk]) rfl (by exact ⟨⟨Nat.le_refl _, rfl⟩, trivial⟩) rfl rfl ?_
 refine Or.inr (lcall_then (lcall_fresh b (fun ρ S w hm => clone_c b _ w hb (hm.rd 0 rfl rfl)) ⟨[(2, .rd Int inferInstance 1 bE b)], rfl, rfl, fun _ => ?_⟩))
 exact ⟨[0, 1, 2, 3], rfl, rfl, rfl, (aI rfl (aI (aI rfl rfl) (aI rfl (aI (aI rfl rfl) trivial)))), rfl⟩
theorem DRep.mapS {S : Nat -> Prop} {w : World} {α β : Type} [ia : Inhabited α] [ib : Inhabited β] (f : α -> β) {sz : Nat} {ea : α -> List DV} {eb : β -> List DV} {xs : List α} {v : Value}
 (h : ∀ x ∈ xs, (ea x).length = (eb (f x)).length /\ ∀ (j : Nat) (d d' : DV), (ea x)[j]? = some d -> (eb (f x))[j]? = some d' -> ∀ u, DRep S w d u -> DRep S w d' u) (hr : DRep S w (.sl α ia sz ea xs) v) : DRep S w (.sl β ib sz eb (xs.map f)) v := by
 cases hr with
 | sl ad c b o cell hc hne hcell hrep =>
  have key : ∀ (i j : Nat) (d' : DV), i < (xs.map f).length -> (eb (nth (xs.map f) i))[j]? = some d' -> ∃ d, i < xs.length /\ (ea (nth xs i))[j]? = some d /\ ∀ u, DRep S w d u -> DRep S w d' u := by
   intro i j d' hi hd
   have hi : i < xs.length := by simpa using hi
   rw [nth_map f hi] at hd
   obtain ⟨h1, h2⟩ := h _ (nth_mem hi)
   have hj : j < (ea (nth xs i)).length := by
    rw [h1]
    rcases Nat.lt_or_ge j (eb (f (nth xs i))).length with h | h
    · exact h
    · rw [List.getElem?_eq_none h] at hd; cases hd
   exact ⟨_, hi, List.getElem?_eq_getElem hj, fun u hu => h2 j _ _ (List.getElem?_eq_getElem hj) hd u hu⟩
  have := DRep.sl (S := S) (w := w) (α := β) (inh := ib) (sz := sz) (enc := eb) (xs := xs.map f) ad c b o cell (by rw [List.length_map]; exact hc) (fun hx => hne (fun e => hx (by rw [e]; rfl))) (fun i j d hi hd => by
   obtain ⟨d0, hi0, hd0, _⟩ := key i j d hi hd
   exact hcell i j d0 hi0 hd0) (fun i j d hi hd => by
   obtain ⟨d0, hi0, hd0, hu⟩ := key i j d hi hd
   exact hu _ (hrep i j d0 hi0 hd0))
  rwa [List.length_map] at this
theorem rep_nil {S : Nat -> Prop} {w : World} {α : Type} {inh : Inhabited α} {sz : Nat} {enc : α -> List DV} {v : Value} (h : DRep S w nilD v) : DRep S w (.sl α inh sz enc []) v := by
 cases h with
 | v x h => exact DRep.nil
theorem rep_poss {S : Nat -> Prop} {w : World} {ps : List PosX} {v : Value} (h : DRep S w (.sl PosX inferInstance 3 poE ps) v) : DRep S w (.sl PosU inferInstance 3 puE (ps.map toP)) v := by
 refine DRep.mapS toP (fun x _ => ?_) h
 cases x with
 | k ks =>
  refine ⟨rfl, fun j d d' h1 h2 u hu => ?_⟩
  match j, h1, h2 with
  | 0, h1, h2 => cases h1; cases h2; exact hu
  | 1, h1, h2 => cases h1; cases h2; exact rep_nil hu
  | 2, h1, h2 => cases h1; cases h2; exact rep_nil hu
  | j + 3, h1, h2 => cases h1
 | m ms bs =>
  refine ⟨rfl, fun j d d' h1 h2 u hu => ?_⟩
  match j, h1, h2 with
  | 0, h1, h2 => cases h1; cases h2; exact rep_nil hu
  | 1, h1, h2 => cases h1; cases h2; exact hu
  | 2, h1, h2 => cases h1; cases h2; exact hu
  | j + 3, h1, h2 => cases h1
theorem rep_looks {S : Nat -> Prop} {w : World} {ls : List Lk} {v : Value} (h : DRep S w (.sl Lk inferInstance 4 lkE ls) v) : DRep S w (.sl LkU inferInstance 4 luE (ls.map toL)) v := by
 refine DRep.mapS toL (fun x _ => ?_) h
 refine ⟨rfl, fun j d d' h1 h2 u hu => ?_⟩
 match j, h1, h2 with
 | 0, h1, h2 => cases h1; cases h2; exact hu
 | 1, h1, h2 => cases h1; cases h2; exact hu
 | 2, h1, h2 => cases h1; cases h2; exact rep_nil hu
 | 3, h1, h2 => cases h1; cases h2; exact rep_poss hu
 | j + 4, h1, h2 => cases h1
def wNums : List Int := [1, 0, 10, 10, 12, 0, 1, 4, 4, 0, 1, 8, 1, 12, 18, 1, 24, 36, 1, 1, 7, 1, 1, 3, 1, 0, 6, 1, 100, 200, 1, 4, 1, 10, 20]
def wB0 : List Int := [0, 1, 0, 0, 0, 10, 0, 10, 0, 12, 0, 0, 0, 1, 0, 4, 0, 4, 0, 0, 0, 1, 0, 8, 0, 1, 0, 12, 0, 18, 0, 1, 0, 24, 0, 36, 0, 1, 0, 1, 0, 7, 0, 1, 0, 1, 0, 3, 0, 1, 0, 0, 0, 6, 0, 1, 0, 100, 0, 200, 0, 1, 0, 4, 0, 1, 0, 10, 0, 20]
theorem wk0 : wsB wNums = wB0 := by decide +kernel
abbrev wL : List Lk := [⟨4, 0, [.m [⟨7, 0, 100, 200⟩] [⟨3, [⟨true, 10, 20⟩]⟩]]⟩]
theorem wk1 : parseX wB0 10 = some (wL, []) := by kernel_rfl
end Go.Proofs.YtjflgkadagkllaaGreat

/- works. -/
set_option maxRecDepth 100000
set_option linter.unusedVariables false
namespace Go.Proofs.YtjflgkadagkllaaGreat
open Go Go.Eng Go.RowKit
theorem eqg59 : Tryz.prog.eqGuardType Tryz.prog.depth 44 = false := by kernel_rfl
theorem eqg64 : Tryz.prog.eqGuardType Tryz.prog.depth 46 = false := by kernel_rfl
theorem eqg135 : Tryz.prog.eqGuardType Tryz.prog.depth 37 = false := by kernel_rfl
theorem eq59 (a b c d : Int) (w : World) : (Op.equalIn 10000 44 (.agg [.int .u16 a, .int .u16 b, .int .i16 c, .int .i16 d].toArray) (.agg [.int .u16 a, .int .u16 b, .int .i16 c, .int .i16 d].toArray)).run Tryz.prog w = .ok true w := by
 have u2 := Tryz.underlying34
 have a2 := Tryz.isAgg34
 have z2 := Tryz.sizeOf34
 have u3 := Tryz.underlying35
 have a3 := Tryz.isAgg35
 have z3 := Tryz.sizeOf35
 have hS : Tryz.prog.underlying 44 = some (.struct (Tryz.prog.fieldsOf 44)) := by kernel_rfl
 rw [show (10000 : Nat) = 9999 + 1 from rfl, run_equalIn_agg w 9999 44 _ _ hS Tryz.stoodInHeld44]
 simp only [Program.fieldsOf, Tryz.underlying44]
 go_simp
theorem eq135 (a b c : Int) (w : World) : (Op.equalIn 10000 37 (.agg [.int .u16 a, .int .u16 b, .int .i16 c].toArray) (.agg [.int .u16 a, .int .u16 b, .int .i16 c].toArray)).run Tryz.prog w = .ok true w := by
 have u2 := Tryz.underlying34
 have a2 := Tryz.isAgg34
 have z2 := Tryz.sizeOf34
 have u3 := Tryz.underlying35
 have a3 := Tryz.isAgg35
 have z3 := Tryz.sizeOf35
 have hS : Tryz.prog.underlying 37 = some (.struct (Tryz.prog.fieldsOf 37)) := by kernel_rfl
 rw [show (10000 : Nat) = 9999 + 1 from rfl, run_equalIn_agg w 9999 37 _ _ hS Tryz.stoodInHeld37]
 simp only [Program.fieldsOf, Tryz.underlying37]
 go_simp
theorem eq64 (h : Bool) (a b : Int) (w : World) : (Op.equalIn 10000 46 (.agg [.bool h, .int .i16 a, .int .i16 b].toArray) (.agg [.bool h, .int .i16 a, .int .i16 b].toArray)).run Tryz.prog w = .ok true w := by
 have u2 := Tryz.underlying4
 have a2 := Tryz.isAgg4
 have z2 := Tryz.sizeOf4
 have u3 := Tryz.underlying35
 have a3 := Tryz.isAgg35
 have z3 := Tryz.sizeOf35
 have hS : Tryz.prog.underlying 46 = some (.struct (Tryz.prog.fieldsOf 46)) := by kernel_rfl
 rw [show (10000 : Nat) = 9999 + 1 from rfl, run_equalIn_agg w 9999 46 _ _ hS Tryz.stoodInHeld46]
 simp only [Program.fieldsOf, Tryz.underlying46]
 go_simp
theorem words_o (xs ys : List Int) (h : wsB xs = ys) (hl : xs.length <= 1000000) (v : Value) (w : World) (hv : Rd w v 1 zE xs) :
 Calls Tryz.prog 9 #[v] w fun e w' => ∃ u, e = .returned u /\ Below w.heap.size w w' /\ Fresh w w' u 5 1 bE ys := by
 subst h; exact words_mk xs hl v w hv
theorem wByt : Byt wB0 := Byt.of (by decide)
set_option maxHeartbeats 1000000 in
theorem works_c (w : World) : Calls Tryz.prog 10 #[] w fun e w' => e = .returned (.bool true) /\ Below w.heap.size w w' := by
 refine calls_exec (cf := cf) cfok (fn := Tryz.f10) Tryz.func10 rfl [] [] (ρ := fun _ => undef) (· < w.heap.size) rfl rfl rfl (by simp [svOkL]) (memNil fun _ h => h) ?_
 refine Or.inr (lcall_frzTo [(0, .rd Int inferInstance 1 zE wNums)] ⟨rfl, ⟨rfl, rfl, rfl, fun y hy => rfl⟩, lcall_fresh wB0 (fun ρ S w hm => words_o wNums wB0 wk0 (by decide) _ w (hm.rd 0 rfl rfl)) ?_⟩)
 refine Or.inr (lcall_frzTo [(1, .rd Int inferInstance 1 bE wB0)] ⟨rfl, rfl, ?_⟩)
 refine lcall_sub [1] (open_s wB0 (by decide)) rfl rfl rfl rfl rfl (aI rfl trivial) ?_
 refine subSt_out [.rd Int inferInstance 1 zE wNums, .rd Int inferInstance 1 bE wB0, .bx 121 [.v (.bool false)], .rd Int inferInstance 1 bE wB0, .bx 124 [.bx 2 0, .sl 3]] [1, 2, 3, 4] rfl rfl ?_
 refine Or.inr (lcall_sub [2, 3, 4] (parse_s wB0 10 wByt (by decide) _ wk1) rfl rfl rfl rfl rfl (aI (aI rfl rfl) (aI rfl (aI (aI rfl rfl) trivial))) ?_)
 refine subSt_out [.rd Int inferInstance 1 zE wNums, .rd Int inferInstance 1 bE wB0, .dead, .rd Int inferInstance 1 bE wB0, .dead, owLk wL, owF []] [2, 3, 4, 5, 6] rfl rfl ?_
 refine aI (fun _ => ⟨by decide, by decide⟩) ?_
 refine aI (fun h => by cases h) (fun _ => ?_)
 refine aI ⟨by decide, by decide⟩ ?_
 refine aI ⟨by decide, by decide⟩ ?_
 refine aI (fun _ => ⟨by decide, by decide⟩) ?_
 refine ⟨_, fun _ => pure_aggEq (op := .eql) (.inl rfl) (l1 := [.int .u16 7, .int .u16 0, .int .i16 100, .int .i16 200]) (l2 := [.int .u16 7, .int .u16 0, .int .i16 100, .int .i16 200]) true rfl rfl (fun _ => rfl) (fun _ => rfl) eqg59 (fun w => eq59 _ _ _ _ w), ?_⟩
 refine aI (fun _ => ⟨by decide, by decide⟩) ?_
 refine aI (fun _ => ⟨by decide, by decide⟩) ?_
 refine aI (fun _ => ⟨by decide, by decide⟩) ?_
 refine ⟨_, fun _ => pure_aggEq (op := .eql) (.inl rfl) (l1 := [.bool true, .int .i16 10, .int .i16 20]) (l2 := [.bool true, .int .i16 10, .int .i16 20]) true rfl rfl (fun _ => rfl) (fun _ => rfl) eqg64 (fun w => eq64 _ _ _ w), ?_⟩
 exact fun ρ S w' hi => ⟨rfl, hi.below⟩
end Go.Proofs.YtjflgkadagkllaaGreat

/- The law GposRight. -/
set_option maxRecDepth 100000
set_option linter.unusedVariables false
namespace Go.Proofs.YtjflgkadagkllaaGreat
open Go Go.Eng Go.RowKit
theorem byt_len {b : List Int} (hb : ¬ (b.length : Int) > 3000) : b.length <= 3000 := by omega
set_option maxHeartbeats 1000000 in
theorem gright_c (b : List Int) (g : Int) (hB : Byt b) (v : Value) (w : World) (hv : Rd w v 1 bE b) : Calls Tryz.prog 8 #[v, .int .i64 g] w fun e w' => e = .returned (.bool true) /\ Below w.heap.size w w' := by
 refine calls_exec (cf := cf) cfok (fn := Tryz.f8) Tryz.func8 rfl [.sl 0, .v (.int .i64 g)] [.rd Int inferInstance 1 bE b] (ρ := fun _ => v) (· < w.heap.size) rfl rfl rfl (by simp [svOkL, svOk]) (memRd (fun _ h => h) ⟨hv, trivial⟩) ?_
 refine aI (fun hn => ?_) (fun hn => ?_)
 · refine Or.inl ⟨.bool true, fun ρ S w hm => works_c w, ?_⟩
   exact fun ρ S w' hi => ⟨rfl, hi.below⟩
 have hn : ¬ (b.length : Int) > 3000 := of_decide_eq_false hn
 have hb : b.length <= 3000 := by omega
 refine Or.inr (lcall_sub [0] (open_s b (by omega)) rfl rfl rfl rfl rfl (aI rfl trivial) ?_)
 refine subSt_out [.rd Int inferInstance 1 bE b, .bx 121 [.v (.bool false)], .rd Int inferInstance 1 bE b, .bx 124 [.bx 1 0, .sl 2]] [0, 1, 2, 3] rfl rfl ?_
 cases hX : parseX b g with
 | none =>
  refine Or.inr (lcall_sub [1, 2, 3] (parse_s b g hB (by omega) _ hX) rfl rfl rfl rfl rfl (aI (aI rfl rfl) (aI rfl (aI (aI rfl rfl) trivial))) ?_)
  refine subSt_out [.rd Int inferInstance 1 bE b, .dead, .rd Int inferInstance 1 bE b, .dead] [1, 2, 3] rfl rfl ?_
  refine aI (fun _ => ?_) (fun h => by cases h)
  refine Or.inl ⟨.bool true, fun _ ρ S w hm => works_c w, ?_⟩
  exact fun ρ S w' hi => ⟨rfl, hi.below⟩
 | some r =>
  obtain ⟨ls, fs⟩ := r
  obtain ⟨q1, q2, q3, q4, q5, q6⟩ := parse_right hB hX
  refine Or.inr (lcall_sub [1, 2, 3] (parse_s b g hB (by omega) _ hX) rfl rfl rfl rfl rfl (aI (aI rfl rfl) (aI rfl (aI (aI rfl rfl) trivial))) ?_)
  refine subSt_out [.rd Int inferInstance 1 bE b, .dead, .rd Int inferInstance 1 bE b, .dead, owLk ls, owF fs] [1, 2, 3, 4, 5] rfl rfl ?_
  refine aI (fun h => by cases h) (fun _ => ?_)
  refine Or.inl ⟨.bool true, fun ρ S w hm => by
   rw [<- q1]
   exact right_looks (ls.map toL) g q2 _ w (rep_looks (hm.own 4 rfl rfl)), ?_⟩
  refine Or.inl ⟨.bool true, fun _ ρ S w hm => by
   rw [<- q3]
   exact right_feats fs (ls.length : Int) (fun f hf => Nat.le_trans (q4 f hf) (by decide)) _ w (hm.own 5 rfl rfl), ?_⟩
  refine Or.inl ⟨.bool true, fun _ ρ S w hm => works_c w, ?_⟩
  exact fun ρ S w' hi => ⟨rfl, hi.below⟩
end Go.Proofs.YtjflgkadagkllaaGreat
