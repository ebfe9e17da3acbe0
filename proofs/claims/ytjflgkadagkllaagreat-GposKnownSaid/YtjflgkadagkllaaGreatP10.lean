/- The reference's Parse. -/
import Derived.Test.YtjflgkadagkllaaGreatP9
set_option maxRecDepth 100000
set_option linter.unusedVariables false
namespace Go.Proofs.YtjflgkadagkllaaGreat
open Go Go.Eng Go.RowKit
theorem nthDg {α : Type} [Inhabited α] {l : List α} {i : Nat} (h : i < l.length) : l.drop i = nth l i :: l.drop (i + 1) := by
 rw [List.drop_eq_getElem_cons h, nthE h]
theorem wF_head {b : List Int} (c : Int) (h0 : 0 <= c) (h : c + 2 <= (b.length : Int)) : wF b c = wA b c := wF_wA (outR_iff.2 ⟨h0, by omega, h⟩)
theorem parse_eq (b : List Int) (g : Int) : parseX b g = if headO b = true then tailX b g (headT b) (headF b) (lLoop b g (headT b) []) else none := by
 unfold parseX
 by_cases c1 : (b.length : Int) >= 10
 · have e0 := wF_head (b := b) 0 (by omega) (by omega)
   have e2 := wF_head (b := b) 2 (by omega) (by omega)
   have e6 := wF_head (b := b) 6 (by omega) (by omega)
   have e8 := wF_head (b := b) 8 (by omega) (by omega)
   rw [if_neg (fun h => h c1)]
   by_cases c2 : wA b 0 = 1
   · rw [if_neg (fun h => h c2)]
     by_cases c3 : wA b 2 = 0
     · rw [if_neg (fun h => h c3)]
       have h1 : hd1 b = false := by
        unfold hd1
        rw [e0, e2, decide_eq_true c2, decide_eq_true c3, decide_eq_false (by omega)]; rfl
       have eT : headT b = (lookX b (wA b 8)).getD [] := by unfold headT; rw [h1, e8]; rfl
       have eF : headF b = match lookX b (wA b 8) with | none => [] | some ts => (featX b (wA b 6) (ts.length : Int)).getD [] := by unfold headF; rw [h1, e8, e6]; rfl
       have eO : headO b = match lookX b (wA b 8) with | none => false | some ts => (featX b (wA b 6) (ts.length : Int)).isSome := by unfold headO; rw [h1, e8, e6]; rfl
       rw [eT, eF, eO]
       cases lookX b (wA b 8) with
       | none => rfl
       | some ts =>
        simp only
        cases featX b (wA b 6) (ts.length : Int) <;> rfl
     · rw [if_pos c3]
       have h1 : hd1 b = true := by unfold hd1; rw [e2, decide_eq_false c3]; simp
       have eO : headO b = false := by unfold headO; rw [h1]; rfl
       rw [eO]; rfl
   · rw [if_pos c2]
     have h1 : hd1 b = true := by unfold hd1; rw [e0, decide_eq_false c2]; simp
     have eO : headO b = false := by unfold headO; rw [h1]; rfl
     rw [eO]; rfl
 · rw [if_pos c1]
   have h1 : hd1 b = true := by unfold hd1; rw [decide_eq_true (by omega)]; rfl
   have eO : headO b = false := by unfold headO; rw [h1]; rfl
   rw [eO]; rfl
theorem head_look {b : List Int} (h : headO b = true) : lookX b (wF b 8) = some (headT b) := by
 unfold headO at h
 unfold headT
 split at h
 · cases h
 · rename_i h1
   rw [if_neg h1]
   split at h
   · cases h
   · rename_i ts hts
     rw [hts]; rfl
def parL (X : Option (List Lk × List Feat)) : List Lk := match X with | none => [] | some (l, _) => l
def parF (X : Option (List Lk × List Feat)) : List Feat := match X with | none => [] | some (_, f) => f
def parE (X : Option (List Lk × List Feat)) : Int := match X with | none => 50 | some _ => 0
def ParR (X : Option (List Lk × List Feat)) (S : Nat -> Prop) (w : World) (e : Ending) (w' : World) : Prop :=
 ∃ us, e = .returned (.tuple us.toArray) /\ Below w.heap.size w w' /\ repYs (fun b => S b \/ (w.heap.size <= b /\ b < w'.heap.size)) w' [.sl Lk inferInstance 4 lkE (parL X), .sl Feat inferInstance 5 fE (parF X), .v (.int .i64 (parE X))] us
structure Px (b : List Int) (g : Int) (ts : List Tab) (fs : List Feat) (X : Option (List Lk × List Feat)) where
 i : Nat
 acc : List Lk
 hi : i <= ts.length
 hl : acc.length = i
 e : tailX b g ts fs (lLoop b g (ts.drop i) acc) = X
def eS (b : List Int) (g : Int) (ts : List Tab) (fs : List Feat) (t : Tab) (i : Nat) (acc0 : List Lk) (x : Option (List PosX)) : Option (List Lk × List Feat) :=
 tailX b g ts fs (match x with | none => none | some ps => lLoop b g (ts.drop (i + 1)) (acc0 ++ [⟨t.ty, t.flag, ps⟩]))
structure Py (b : List Int) (g : Int) (ts : List Tab) (fs : List Feat) (t : Tab) (i : Nat) (acc0 : List Lk) (X : Option (List Lk × List Feat)) where
 j : Nat
 s : Int
 q : Bool
 acc : List PosX
 hj : j <= t.at'.length
 hs : 0 <= s /\ s <= 200000
 hq : q = false -> s <= 65536
 hl : acc.length = j
 e : if q = true then X = none else eS b g ts fs t i acc0 (sLoop b g t.ty (t.at'.drop j) s acc) = X
theorem lLoop_eS {b : List Int} {g : Int} {ts : List Tab} {fs : List Feat} {t : Tab} {i : Nat} {acc : List Lk} (h : t.ty = 2 \/ t.ty = 4 \/ t.ty = 6) : tailX b g ts fs (lLoop b g (t :: ts.drop (i + 1)) acc) = eS b g ts fs t i acc (sLoop b g t.ty (t.at'.drop 0) 0 []) := by
 unfold eS
 rw [lLoop, if_pos h]; rfl
theorem eS_step {b : List Int} {g : Int} {ts : List Tab} {fs : List Feat} {t : Tab} {i : Nat} {acc0 : List Lk} {A s : Int} {r : List Int} {acc : List PosX} {p : PosX} {s' : Int} (h : posX b g t.ty A s = some (p, s')) : eS b g ts fs t i acc0 (sLoop b g t.ty (A :: r) s acc) = eS b g ts fs t i acc0 (sLoop b g t.ty r s' (acc ++ [p])) := by
 rw [sLoop, h]
theorem eS_no {b : List Int} {g : Int} {ts : List Tab} {fs : List Feat} {t : Tab} {i : Nat} {acc0 : List Lk} {A s : Int} {r : List Int} {acc : List PosX} (h : posX b g t.ty A s = none) : eS b g ts fs t i acc0 (sLoop b g t.ty (A :: r) s acc) = none := by
 rw [sLoop, h]; rfl
set_option maxHeartbeats 4000000 in
theorem rparse_c (b : List Int) (g : Int) (hB : Byt b) (hb : b.length <= 3000) (v : Value) (w : World) (S : Nat -> Prop) (hS : ∀ b, S b -> b < w.heap.size) (hv : DRep S w (.sl Int inferInstance 1 bE b) v) :
 Calls Tryz.prog 20 #[v, .int .i64 g] w (ParR (parseX b g) S w) := by
 refine calls_exec2 (cf := cf) cfok rfl rfl (fn := Tryz.f20) Tryz.func20 rfl [.sl 0, .v (.int .i64 g)] [.rd Int inferInstance 1 bE b] (ρ := fun _ => v) (· < w.heap.size) S rfl rfl rfl (by simp [svOkL, svOk]) rfl (memRd hS ⟨hv, trivial⟩) (fun b hb => ⟨hb, rd_own rfl b⟩) ?_
 obtain ⟨X, hX⟩ : ∃ X, parseX b g = X := ⟨_, rfl⟩
 have bad : X = none -> ∀ w', Below w.heap.size w w' -> ParR (parseX b g) S w (.returned (.tuple #[.slice none 0 0, .slice none 0 0, .int .i64 50])) w' := fun h w' hb => by
  rw [hX, h]
  exact ⟨[.slice none 0 0, .slice none 0 0, .int .i64 50], rfl, hb, ⟨DRep.nil, DRep.nil, rfl, trivial⟩⟩
 have hpe := parse_eq b g
 rw [hX] at hpe
 refine Or.inr (lcall_reps [.sl Feat inferInstance 5 fE (headF b), .sl Tab inferInstance 3 tbE (headT b), .v (.bool (headO b))] (fun ρ S w hm => rhead_c b hB hb _ w S hm.lt (hm.rdS 0 rfl rfl)) ?_)
 refine aI (fun ho => ?_) (fun ho => ?_)
 · have ho : (!headO b) = true := ho
   rw [Bool.not_eq_true'] at ho
   rw [ho] at hpe
   exact fun ρ S' w' hi => bad hpe w' hi.below
 have ho : (!headO b) = false := ho
 rw [Bool.not_eq_false'] at ho
 have hlk := head_look ho
 obtain ⟨hts, hat⟩ := tab_ats hB (by omega) hlk
 obtain ⟨_, hk1⟩ := look_is hB hlk
 rw [ho, if_pos rfl] at hpe
 generalize headT b = ts at *
 generalize headF b = fs at *
 refine ⟨Px b g ts fs X, fun z => ⟨114, [⟨0, [], .sl 0⟩, ⟨1, [], .v (.int .i64 g)⟩, ⟨7, [], .sl 1⟩, ⟨8, [], .sl 2⟩, ⟨10, [], .sl 3⟩, ⟨11, [], .v (.int .i64 (z.i : Nat))⟩], [.rd Int inferInstance 1 bE b, .rd Feat inferInstance 5 fE fs, .rd Tab inferInstance 3 tbE ts, owLk z.acc], [], dropL nats 4⟩, fun z => ts.length - z.i, ⟨[0, 1, 2, 1000], ⟨0, [], by omega, rfl, hpe.symm⟩, ?_⟩, fun z => ?_⟩
 · exact aI (aI rfl (aI rfl (aI rfl (aI rfl (aI rfl (aI rfl trivial)))))) (aI rfl (aI rfl (aI rfl (aI rfl trivial))))
 obtain ⟨i, acc, hi, hl, he⟩ := z
 refine aI (fun hlt => ?_) (fun hge => ?_)
 rotate_left
 · have hge : i = ts.length := by
    have : ¬ ((i : Nat) : Int) < ((ts.length : Nat) : Int) := of_decide_eq_false hge
    omega
   subst hge
   rw [List.drop_length] at he
   have he : some (acc, fs) = X := he
   have hp : parseX b g = some (acc, fs) := hX.trans he.symm
   refine fun ρ S' w' hi => ?_
   have h2 : ParR (some (acc, fs)) S w (.returned (.tuple #[den ρ (.sl 3), den ρ (.sl 1), .int .i64 0])) w' := by
    refine ⟨[den ρ (.sl 3), den ρ (.sl 1), .int .i64 0], rfl, hi.below, ⟨?_, ?_, rfl, trivial⟩⟩
    · exact hi.rep 40 (.sl 3) (.sl Lk inferInstance 4 lkE _) rfl rfl
    · exact hi.rep 40 (.sl 1) (.sl Feat inferInstance 5 fE _) rfl rfl
   rw [<- hp] at h2
   exact h2
 have hlt : i < ts.length := by
  have : ((i : Nat) : Int) < ((ts.length : Nat) : Int) := of_decide_eq_true hlt
  omega
 rw [nthDg hlt] at he
 have bi : (0 : Int) <= (i : Int) /\ (i : Int) < (ts.length : Int) := ⟨by omega, by omega⟩
 have htm := nth_mem hlt
 obtain ⟨a1, a2, a3, a4⟩ := hat _ htm
 obtain ⟨k1, k2, _⟩ := hk1 _ htm
 refine Or.inr (Or.inr (Or.inl ⟨[0, 1, 2, 3, 4, 5, 6, 7, 8, 9, 10, 11], [11], [12], by kernel_rfl, ?_⟩))
 refine aI bi ?_
 refine aI bi ?_
 by_cases hty : (nth ts i).ty = 2 \/ (nth ts i).ty = 4 \/ (nth ts i).ty = 6
 · rw [lLoop_eS hty] at he
   refine ⟨Py b g ts fs (nth ts i) i acc X, fun z => ⟨114, [⟨0, [], .sl 0⟩, ⟨1, [], .v (.int .i64 g)⟩, ⟨7, [], .sl 1⟩, ⟨8, [], .sl 2⟩, ⟨10, [], .sl 3⟩, ⟨11, [], .v (.int .i64 (i : Nat))⟩, ⟨12, [], .bx 4 0⟩, ⟨13, [], .bx 5 0⟩, ⟨14, [], .v (.int .i64 (z.j : Nat))⟩], [.rd Int inferInstance 1 bE b, .rd Feat inferInstance 5 fE fs, .rd Tab inferInstance 3 tbE ts, owLk acc, .bx 133 [.sl 0, .v (.int .i64 g), .v (.int .i64 z.s), .v (.bool z.q)], .bx 53 [.v (.int .u16 (nth ts i).ty), .v (.int .u16 (nth ts i).flag), nilS, .sl 6], owP z.acc], [], dropL nats 7⟩, fun z => (nth ts i).at'.length - z.j, ⟨[0, 1, 2, 3, 4, 5, 1000], ⟨0, 0, false, [], by omega, by omega, fun _ => by omega, rfl, he⟩, ?_⟩, fun z => ?_⟩
   · exact aI (aI rfl (aI rfl (aI rfl (aI rfl (aI rfl (aI rfl (aI rfl (aI rfl (aI rfl trivial))))))))) (aI rfl (aI rfl (aI rfl (aI rfl (aI (aI rfl rfl) (aI (aI rfl rfl) (aI rfl trivial)))))))
   obtain ⟨j, s, q, pa, hj, hs, hq, hpl, he2⟩ := z
   refine aI bi ?_
   refine aI (fun hjl => ?_) (fun hjg => ?_)
   rotate_left
   · have hjg : (decide ((j : Int) < ((nth ts i).at'.length : Int)) && !q) = false := hjg
     refine aI (fun hqt => ?_) (fun hqf => ?_)
     · have hqt : q = true := hqt
       subst hqt
       exact fun ρ S' w' hi => bad he2 w' hi.below
     have hqf : q = false := hqf
     subst hqf
     rw [Bool.not_false, Bool.and_true, decide_eq_false_iff_not] at hjg
     have hjl : j = (nth ts i).at'.length := by omega
     subst hjl
     rw [List.drop_length] at he2
     have he2 : tailX b g ts fs (lLoop b g (ts.drop (i + 1)) (acc ++ [⟨(nth ts i).ty, (nth ts i).flag, pa⟩])) = X := he2
     refine ⟨[⟨(nth ts i).ty, (nth ts i).flag, pa⟩], ⟨rfl, rfl, by simp⟩, by show (acc.length + 1) * 56 <= _; omega, ?_⟩
     exact ⟨[0, 1, 2, 9], ⟨i + 1, acc ++ [⟨(nth ts i).ty, (nth ts i).flag, pa⟩], hlt, by rw [List.length_append]; show acc.length + 1 = _; omega, he2⟩, aI (aI rfl (aI rfl (aI rfl (aI rfl (aI rfl (aI (svI (i64_succ i (by omega))) trivial)))))) (aI rfl (aI rfl (aI rfl (aI (owLke rfl) trivial)))), by show ts.length - (i + 1) < ts.length - i; omega⟩
   have hjl : (decide ((j : Int) < ((nth ts i).at'.length : Int)) && !q) = true := hjl
   rw [Bool.and_eq_true, decide_eq_true_iff, Bool.not_eq_true'] at hjl
   obtain ⟨hjl, hqf⟩ := hjl
   subst hqf
   have hs65 := hq rfl
   have hjl : j < (nth ts i).at'.length := by omega
   have bj : (0 : Int) <= (j : Int) /\ (j : Int) < ((nth ts i).at'.length : Int) := ⟨by omega, by omega⟩
   have he2 : eS b g ts fs (nth ts i) i acc (sLoop b g (nth ts i).ty ((nth ts i).at'.drop j) s pa) = X := he2
   rw [nthDg hjl] at he2
   have hA := a2 _ (nth_mem hjl)
   refine aI bi ?_
   refine aI (fun h2 => ?_) (fun h2 => ?_)
   · have h2 : (nth ts i).ty = 2 := of_decide_eq_true h2
     refine Or.inr (Or.inr (Or.inr ⟨[0, 1, 2, 3, 4, 5, 6, 8], [7, 9, 10, 11, 12], [13, 14, 15], [(4, some [2, 3])], by kernel_rfl, ?_⟩))
     refine ⟨_, ⟨rfl, rfl⟩, fun xs => ⟨rfl, rfl⟩, ?_⟩
     refine ⟨_, ⟨rfl, rfl⟩, fun xs => ⟨rfl, rfl⟩, ?_⟩
     refine ⟨_, ⟨rfl, rfl⟩, fun xs => ⟨rfl, rfl⟩, ?_⟩
     refine ⟨_, ⟨rfl, rfl⟩, fun xs => ⟨rfl, rfl⟩, ?_⟩
     refine ⟨_, ⟨rfl, rfl⟩, fun xs => ⟨rfl, rfl⟩, ?_⟩
     refine ⟨_, ⟨bi, rfl, rfl⟩, fun xs => ⟨bi, rfl, rfl⟩, ?_⟩
     refine ⟨_, ⟨rfl, rfl⟩, fun xs => ⟨rfl, rfl⟩, ?_⟩
     refine ⟨_, ⟨rfl, rfl⟩, fun xs => ⟨rfl, rfl⟩, ?_⟩
     refine ⟨rfl, fun xs => rfl, ?_⟩
     refine aI bj ⟨rfl, fun xs => rfl, ?_⟩
     refine ⟨rfl, fun xs => rfl, ?_⟩
     refine Or.inr (lcall_subE [0, 4] (rkerns_s b g s (nth (nth ts i).at' j) hB hb hA ⟨hs.1, hs65⟩) rfl rfl rfl (fun _ => rfl) (fun _ => rfl) (aI rfl (aI (aI rfl rfl) trivial)) (fun x => ?_))
     refine subSt_out [.rd Int inferInstance 1 bE b, .rd Feat inferInstance 5 fE fs, .rd Tab inferInstance 3 tbE ts, owLk acc, .bx 133 [.sl 0, .v (.int .i64 g), .v (.int .i64 x.s), .v (.bool x.q)], .bx 53 [.v (.int .u16 (nth ts i).ty), .v (.int .u16 (nth ts i).flag), nilS, .sl 6], owP pa, rdOr [] Int inferInstance 1 zE (nth ts i).at', rdOr [] Int inferInstance 1 zE (nth ts i).at', owK x.ks] [0, 4, 9] rfl rfl ?_
     refine ⟨rfl, fun xs => rfl, ?_⟩
     refine ⟨rfl, fun xs => rfl, ?_⟩
     have hnx : if x.q = true then X = none else eS b g ts fs (nth ts i) i acc (sLoop b g (nth ts i).ty ((nth ts i).at'.drop (j + 1)) x.s (pa ++ [.k x.ks])) = X := by
      have hx := x.e
      cases hxq : x.q with
      | true =>
       rw [hxq, if_pos rfl] at hx
       rw [if_pos rfl, <- he2]
       exact eS_no (by unfold posX; rw [if_pos h2, hx])
      | false =>
       rw [hxq, if_neg (by decide)] at hx
       rw [if_neg (by decide), <- he2]
       exact (eS_step (by unfold posX; rw [if_pos h2, hx])).symm
     refine ⟨[.k x.ks], ⟨rfl, rfl, by simp [poE]⟩, by show (pa.length + 1) * 72 <= _; omega, ?_⟩
     exact ⟨[0, 1, 2, 3, 4, 5, 11], ⟨j + 1, x.s, x.q, pa ++ [.k x.ks], hjl, x.hs, x.hq, by rw [List.length_append]; show pa.length + 1 = _; omega, hnx⟩, aI (aI rfl (aI rfl (aI rfl (aI rfl (aI rfl (aI rfl (aI rfl (aI rfl (aI (svI (i64_succ j (by omega))) trivial))))))))) (aI rfl (aI rfl (aI rfl (aI rfl (aI (aI rfl rfl) (aI (aI rfl rfl) (aI (owPe rfl) trivial))))))), by show (nth ts i).at'.length - (j + 1) < (nth ts i).at'.length - j; omega⟩
   have h2 : ¬ (nth ts i).ty = 2 := of_decide_eq_false h2
   refine aI (fun h4 => ?_) (fun h4 => ?_)
   · refine aI (fun _ => ?_) (fun h => absurd (h4 : decide ((nth ts i).ty = 4) = true) (by rw [(h : decide ((nth ts i).ty = 4) = false)]; decide))
     refine Or.inr (Or.inr (Or.inr ⟨[0, 1, 2, 3, 4, 5, 6, 8], [7, 9, 10, 11, 12], [13, 14, 15], [(4, some [2, 3])], by kernel_rfl, ?_⟩))
     refine ⟨_, ⟨rfl, rfl⟩, fun xs => ⟨rfl, rfl⟩, ?_⟩
     refine ⟨_, ⟨rfl, rfl⟩, fun xs => ⟨rfl, rfl⟩, ?_⟩
     refine ⟨_, ⟨rfl, rfl⟩, fun xs => ⟨rfl, rfl⟩, ?_⟩
     refine ⟨_, ⟨rfl, rfl⟩, fun xs => ⟨rfl, rfl⟩, ?_⟩
     refine ⟨_, ⟨rfl, rfl⟩, fun xs => ⟨rfl, rfl⟩, ?_⟩
     refine ⟨_, ⟨bi, rfl, rfl⟩, fun xs => ⟨bi, rfl, rfl⟩, ?_⟩
     refine ⟨_, ⟨rfl, rfl⟩, fun xs => ⟨rfl, rfl⟩, ?_⟩
     refine ⟨_, ⟨rfl, rfl⟩, fun xs => ⟨rfl, rfl⟩, ?_⟩
     refine ⟨rfl, fun xs => rfl, ?_⟩
     refine aI bj ⟨rfl, fun xs => rfl, ?_⟩
     refine ⟨rfl, fun xs => rfl, ?_⟩
     refine Or.inr (lcall_subE [0, 4] (rmarks_s b g s (nth (nth ts i).at' j) hB hb hA ⟨hs.1, hs65⟩) rfl rfl rfl (fun _ => rfl) (fun _ => rfl) (aI rfl (aI (aI rfl rfl) trivial)) (fun x => ?_))
     refine subSt_out [.rd Int inferInstance 1 bE b, .rd Feat inferInstance 5 fE fs, .rd Tab inferInstance 3 tbE ts, owLk acc, .bx 133 [.sl 0, .v (.int .i64 g), .v (.int .i64 x.s), .v (.bool x.q)], .bx 53 [.v (.int .u16 (nth ts i).ty), .v (.int .u16 (nth ts i).flag), nilS, .sl 6], owP pa, rdOr [] Int inferInstance 1 zE (nth ts i).at', rdOr [] Int inferInstance 1 zE (nth ts i).at', owM x.ms, owB x.bs] [0, 4, 9, 10] rfl rfl ?_
     refine ⟨rfl, fun xs => rfl, ?_⟩
     refine ⟨rfl, fun xs => rfl, ?_⟩
     have hnx : if x.q = true then X = none else eS b g ts fs (nth ts i) i acc (sLoop b g (nth ts i).ty ((nth ts i).at'.drop (j + 1)) x.s (pa ++ [.m x.ms x.bs])) = X := by
      have hx := x.e
      cases hxq : x.q with
      | true =>
       rw [hxq, if_pos rfl] at hx
       rw [if_pos rfl, <- he2]
       exact eS_no (by unfold posX; rw [if_neg h2, hx])
      | false =>
       rw [hxq, if_neg (by decide)] at hx
       rw [if_neg (by decide), <- he2]
       exact (eS_step (by unfold posX; rw [if_neg h2, hx])).symm
     refine ⟨[.m x.ms x.bs], ⟨rfl, rfl, by simp [poE]⟩, by show (pa.length + 1) * 72 <= _; omega, ?_⟩
     exact ⟨[0, 1, 2, 3, 4, 5, 12], ⟨j + 1, x.s, x.q, pa ++ [.m x.ms x.bs], hjl, x.hs, x.hq, by rw [List.length_append]; show pa.length + 1 = _; omega, hnx⟩, aI (aI rfl (aI rfl (aI rfl (aI rfl (aI rfl (aI rfl (aI rfl (aI rfl (aI (svI (i64_succ j (by omega))) trivial))))))))) (aI rfl (aI rfl (aI rfl (aI rfl (aI (aI rfl rfl) (aI (aI rfl rfl) (aI (owPe rfl) trivial))))))), by show (nth ts i).at'.length - (j + 1) < (nth ts i).at'.length - j; omega⟩
   have h4 : ¬ (nth ts i).ty = 4 := of_decide_eq_false h4
   have h6 : (nth ts i).ty = 6 := by omega
   refine aI (fun _ => ?_) (fun h => absurd h6 (of_decide_eq_false h))
   refine Or.inr (Or.inr (Or.inr ⟨[0, 1, 2, 3, 4, 5, 6, 8], [7, 9, 10, 11, 12], [13, 14, 15], [(4, some [2, 3])], by kernel_rfl, ?_⟩))
   refine ⟨_, ⟨rfl, rfl⟩, fun xs => ⟨rfl, rfl⟩, ?_⟩
   refine ⟨_, ⟨rfl, rfl⟩, fun xs => ⟨rfl, rfl⟩, ?_⟩
   refine ⟨_, ⟨rfl, rfl⟩, fun xs => ⟨rfl, rfl⟩, ?_⟩
   refine ⟨_, ⟨rfl, rfl⟩, fun xs => ⟨rfl, rfl⟩, ?_⟩
   refine ⟨_, ⟨rfl, rfl⟩, fun xs => ⟨rfl, rfl⟩, ?_⟩
   refine ⟨_, ⟨bi, rfl, rfl⟩, fun xs => ⟨bi, rfl, rfl⟩, ?_⟩
   refine ⟨_, ⟨rfl, rfl⟩, fun xs => ⟨rfl, rfl⟩, ?_⟩
   refine ⟨_, ⟨rfl, rfl⟩, fun xs => ⟨rfl, rfl⟩, ?_⟩
   refine ⟨rfl, fun xs => rfl, ?_⟩
   refine aI bj ⟨rfl, fun xs => rfl, ?_⟩
   refine ⟨rfl, fun xs => rfl, ?_⟩
   refine Or.inr (lcall_subE [0, 4] (rmarks_s b g s (nth (nth ts i).at' j) hB hb hA ⟨hs.1, hs65⟩) rfl rfl rfl (fun _ => rfl) (fun _ => rfl) (aI rfl (aI (aI rfl rfl) trivial)) (fun x => ?_))
   refine subSt_out [.rd Int inferInstance 1 bE b, .rd Feat inferInstance 5 fE fs, .rd Tab inferInstance 3 tbE ts, owLk acc, .bx 133 [.sl 0, .v (.int .i64 g), .v (.int .i64 x.s), .v (.bool x.q)], .bx 53 [.v (.int .u16 (nth ts i).ty), .v (.int .u16 (nth ts i).flag), nilS, .sl 6], owP pa, rdOr [] Int inferInstance 1 zE (nth ts i).at', rdOr [] Int inferInstance 1 zE (nth ts i).at', owM x.ms, owB x.bs] [0, 4, 9, 10] rfl rfl ?_
   refine ⟨rfl, fun xs => rfl, ?_⟩
   refine ⟨rfl, fun xs => rfl, ?_⟩
   have hnx : if x.q = true then X = none else eS b g ts fs (nth ts i) i acc (sLoop b g (nth ts i).ty ((nth ts i).at'.drop (j + 1)) x.s (pa ++ [.m x.ms x.bs])) = X := by
    have hx := x.e
    cases hxq : x.q with
    | true =>
     rw [hxq, if_pos rfl] at hx
     rw [if_pos rfl, <- he2]
     exact eS_no (by unfold posX; rw [if_neg h2, hx])
    | false =>
     rw [hxq, if_neg (by decide)] at hx
     rw [if_neg (by decide), <- he2]
     exact (eS_step (by unfold posX; rw [if_neg h2, hx])).symm
   refine ⟨[.m x.ms x.bs], ⟨rfl, rfl, by simp [poE]⟩, by show (pa.length + 1) * 72 <= _; omega, ?_⟩
   exact ⟨[0, 1, 2, 3, 4, 5, 12], ⟨j + 1, x.s, x.q, pa ++ [.m x.ms x.bs], hjl, x.hs, x.hq, by rw [List.length_append]; show pa.length + 1 = _; omega, hnx⟩, aI (aI rfl (aI rfl (aI rfl (aI rfl (aI rfl (aI rfl (aI rfl (aI rfl (aI (svI (i64_succ j (by omega))) trivial))))))))) (aI rfl (aI rfl (aI rfl (aI rfl (aI (aI rfl rfl) (aI (aI rfl rfl) (aI (owPe rfl) trivial))))))), by show (nth ts i).at'.length - (j + 1) < (nth ts i).at'.length - j; omega⟩
 have hXn : X = none := by
  rw [lLoop, if_neg hty] at he
  exact he.symm
 refine ⟨{ z : Nat × Bool // z.1 <= (nth ts i).at'.length /\ (z.2 = false -> z.1 = 0) }, fun z => ⟨114, [⟨0, [], .sl 0⟩, ⟨1, [], .v (.int .i64 g)⟩, ⟨7, [], .sl 1⟩, ⟨8, [], .sl 2⟩, ⟨10, [], .sl 3⟩, ⟨11, [], .v (.int .i64 (i : Nat))⟩, ⟨12, [], .bx 4 0⟩, ⟨13, [], .bx 5 0⟩, ⟨14, [], .v (.int .i64 (z.1.1 : Nat))⟩], [.rd Int inferInstance 1 bE b, .rd Feat inferInstance 5 fE fs, .rd Tab inferInstance 3 tbE ts, owLk acc, .bx 133 [.sl 0, .v (.int .i64 g), .v (.int .i64 0), .v (.bool z.1.2)], .bx 53 [.v (.int .u16 (nth ts i).ty), .v (.int .u16 (nth ts i).flag), nilS, nilS]], [], dropL nats 6⟩, fun z => (nth ts i).at'.length - z.1.1, ⟨[0, 1, 2, 3, 4, 5], ⟨(0, false), by omega, fun _ => rfl⟩, ?_⟩, fun z => ?_⟩
 · exact aI (aI rfl (aI rfl (aI rfl (aI rfl (aI rfl (aI rfl (aI rfl (aI rfl (aI rfl trivial))))))))) (aI rfl (aI rfl (aI rfl (aI rfl (aI (aI rfl rfl) (aI (aI rfl rfl) trivial))))))
 obtain ⟨⟨j, q⟩, hj, hq⟩ := z
 have hj : j <= (nth ts i).at'.length := hj
 have hq : q = false -> j = 0 := hq
 refine aI bi ?_
 refine aI (fun hjl => ?_) (fun hjg => ?_)
 · have hjl : (decide ((j : Int) < ((nth ts i).at'.length : Int)) && !q) = true := hjl
   rw [Bool.and_eq_true, decide_eq_true_iff, Bool.not_eq_true'] at hjl
   have hj0 := hq hjl.2
   refine aI bi ?_
   refine aI (fun h2 => absurd (Or.inl (of_decide_eq_true h2)) hty) (fun h2 => ?_)
   refine aI (fun h4 => absurd (Or.inr (Or.inl (of_decide_eq_true h4))) hty) (fun h4 => ?_)
   refine aI (fun h6 => absurd (Or.inr (Or.inr (of_decide_eq_true h6))) hty) (fun h6 => ?_)
   exact ⟨[0, 1, 2, 3, 4, 5], ⟨(j + 1, true), by show j + 1 <= _; omega, fun h => (by cases h)⟩, aI (aI rfl (aI rfl (aI rfl (aI rfl (aI rfl (aI rfl (aI rfl (aI rfl (aI (svI (i64_succ j (by omega))) trivial))))))))) (aI rfl (aI rfl (aI rfl (aI rfl (aI (aI rfl rfl) (aI (aI rfl rfl) trivial)))))), by show (nth ts i).at'.length - (j + 1) < (nth ts i).at'.length - j; omega⟩
 have hjg : (decide ((j : Int) < ((nth ts i).at'.length : Int)) && !q) = false := hjg
 refine aI (fun _ => ?_) (fun hqf => ?_)
 · exact fun ρ S' w' hi => bad hXn w' hi.below
 have hqf : q = false := hqf
 have hj0 := hq hqf
 rw [hqf, hj0, Bool.not_false, Bool.and_true, decide_eq_false_iff_not] at hjg
 omega
end Go.Proofs.YtjflgkadagkllaaGreat
