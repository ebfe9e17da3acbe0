/- The law GposParses. -/
import Derived.Test.YtjflgkadagkllaaGreatP11
import Derived.Test.YtjflgkadagkllaaGreatP10
import Derived.Test.YtjflgkadagkllaaGreatOp
import Derived.WalkKit
import Derived.ProofKit
set_option maxRecDepth 100000
set_option linter.unusedVariables false
namespace Go.Proofs.YtjflgkadagkllaaGreat
open Go Go.Eng Go.RowKit
theorem badnil_c (w : World) : Calls Tryz.prog 34 #[.pointer none] w fun e w' => e = .returned (.bool true) /\ Below w.heap.size w w' := by
 have u29 := Tryz.underlying74
 go_enter Tryz.func34, Tryz.ntmps34
 go_wp2
 go_ret
 exact ⟨rfl, Below.refl _ _⟩
theorem parseNil_s (g : Int) : LCall Tryz.prog ⟨0, [], [], [], []⟩ 16 [.v (.pointer none), .v (.int .i64 g)] (fun st' s => st'.ch = [] /\ s = .tup [nilS, nilS, .v (.int .i64 50)]) := by
 refine lcall_execD (cf := cf) cfok (fn := Tryz.f16) Tryz.func16 rfl _ _ [] (.tup [nilS, nilS, .v (.int .i64 50)]) rfl rfl (by simp [svOkL, svOk]) rfl (fun ρ0 S0 w0 hm0 => ?_)
 refine Or.inl ⟨.bool true, fun ρ S w hm => badnil_c w, ?_⟩
 refine Or.inr (Or.inr ⟨fun h => Bool.noConfusion (show false = true from h.1), .int .i64 0, ?_⟩)
 refine Or.inr (Or.inr ⟨fun h => Bool.noConfusion (show false = true from h.1), .int .u16 0, ?_⟩)
 refine Or.inr (Or.inr ⟨fun h => Bool.noConfusion (show false = true from h.1), .int .u16 0, ?_⟩)
 refine Or.inr (lcall_need _ (fun h => absurd (show false = true from h) (by decide)) (fun _ => ?_))
 exact aI rfl (dcall_sub [1, 2, 3] (rec_a 0) rfl rfl rfl rfl rfl (aI (aI rfl rfl) (aI (aI rfl rfl) (aI (aI rfl rfl) trivial))) (fun ρ1 S1 w1 hi => lend [] hm0 hi rfl rfl trivial rfl rfl rfl rfl trivial rfl))
theorem allN_get {c : Nat -> Bool} {n : Nat} (h : allN c n = true) (j : Nat) (hj : j < n) : c j = false := by
 have := List.all_eq_true.1 h j (List.mem_range.2 hj)
 rwa [Bool.not_eq_true'] at this
theorem looks_len {ls : List Lk} {g : Int} (h : rLooks (ls.map toL) g = true) : ∀ l ∈ ls.map toL, l.subs = [] /\ l.poss.length <= 140737488351232 := by
 unfold rLooks at h
 rw [Bool.and_eq_true] at h
 intro l hl
 obtain ⟨i, hi, rfl⟩ := List.getElem_of_mem hl
 have h2 := allN_get h.2 i hi
 rw [Bool.or_eq_false_iff] at h2
 have h3 := h2.1
 unfold cL at h3
 rw [nthE hi] at h3
 simp only [Bool.or_eq_false_iff, decide_eq_false_iff_not] at h3
 refine ⟨?_, by omega⟩
 rw [List.getElem_map]; rfl
set_option maxHeartbeats 2000000 in
theorem gparses_c (b : List Int) (g : Int) (hB : Byt b) (v : Value) (w : World) (hv : Rd w v 1 bE b) : Calls Tryz.prog 7 #[v, .int .i64 g] w fun e w' => e = .returned (.bool true) /\ Below w.heap.size w w' := by
 refine calls_exec (cf := cf) cfok (fn := Tryz.f7) Tryz.func7 rfl [.sl 0, .v (.int .i64 g)] [.rd Int inferInstance 1 bE b] (ρ := fun _ => v) (· < w.heap.size) rfl rfl rfl (by simp [svOkL, svOk]) (memRd (fun _ h => h) ⟨hv, trivial⟩) ?_
 refine aI (fun hn => ?_) (fun hn => ?_)
 · refine Or.inl ⟨.bool true, fun ρ S w hm => works_c w, ?_⟩
   exact fun ρ S w' hi => ⟨rfl, hi.below⟩
 have hn : ¬ (b.length : Int) > 3000 := of_decide_eq_false hn
 have hb : b.length <= 3000 := by omega
 refine ⟨Int, inferInstance, bE, [], b, aI rfl (aI rfl (fun y hy => by simp at hy)), aI rfl (aI rfl (fun i _ => aI rfl rfl)), by show (0 + b.length) * 1 <= _; omega, ?_⟩
 refine Or.inr (lcall_frzTo [(2, .rd Int inferInstance 1 bE b)] ⟨rfl, rfl, ?_⟩)
 refine lcall_sub [2] (open_s b (by omega)) rfl rfl rfl rfl rfl (aI rfl trivial) ?_
 refine subSt_out [.rd Int inferInstance 1 bE b, .dead, .rd Int inferInstance 1 bE b, .bx 121 [.v (.bool false)], .rd Int inferInstance 1 bE b, .bx 124 [.bx 3 0, .sl 4]] [2, 3, 4, 5] rfl rfl ?_
 have hrp := fun v w S hS hv => rparse_c b g hB hb v w S hS hv
 cases hX : parseX b g with
 | none =>
  rw [hX] at hrp
  refine Or.inr (lcall_sub [3, 4, 5] (parse_s b g hB (by omega) _ hX) rfl rfl rfl rfl rfl (aI (aI rfl rfl) (aI rfl (aI (aI rfl rfl) trivial))) ?_)
  refine subSt_out [.rd Int inferInstance 1 bE b, .dead, .rd Int inferInstance 1 bE b, .dead, .rd Int inferInstance 1 bE b, .dead] [3, 4, 5] rfl rfl ?_
  refine Or.inr (lcall_reps [.sl Lk inferInstance 4 lkE [], .sl Feat inferInstance 5 fE [], .v (.int .i64 50)] (fun ρ S w hm => hrp _ w S hm.lt (hm.rdS 0 rfl rfl)) ?_)
  refine Or.inl ⟨.bool true, fun ρ S w hm => sameb_c b _ _ w (hm.rd 2 rfl rfl) (hm.rd 0 rfl rfl), ?_⟩
  refine aI (fun h => by cases h) (fun _ => ?_)
  refine Or.inr (lcall_sub [] (parseNil_s g) rfl rfl rfl rfl rfl trivial ?_)
  refine Or.inl ⟨.bool true, fun hg ρ S w hm => samelooks_c [] (by decide) (fun l hl => by cases hl) _ _ w DRep.nil (rep_looks (hm.rd 6 rfl rfl)), ?_⟩
  refine Or.inl ⟨.bool true, fun hg ρ S w hm => samefeats_c [] (by decide) (fun l hl => by cases hl) _ _ w DRep.nil (hm.rd 7 rfl rfl), ?_⟩
  refine Or.inl ⟨.bool true, fun _ ρ S w hm => works_c w, ?_⟩
  exact fun ρ S w' hi => ⟨rfl, hi.below⟩
 | some r =>
  obtain ⟨ls, fs⟩ := r
  rw [hX] at hrp
  obtain ⟨q1, q2, q3, q4, q5, q6⟩ := parse_right hB hX
  have q7 := looks_len q1
  refine Or.inr (lcall_sub [3, 4, 5] (parse_s b g hB (by omega) _ hX) rfl rfl rfl rfl rfl (aI (aI rfl rfl) (aI rfl (aI (aI rfl rfl) trivial))) ?_)
  refine subSt_out [.rd Int inferInstance 1 bE b, .dead, .rd Int inferInstance 1 bE b, .dead, .rd Int inferInstance 1 bE b, .dead, owLk ls, owF fs] [3, 4, 5, 6, 7] rfl rfl ?_
  refine Or.inr (lcall_reps [.sl Lk inferInstance 4 lkE ls, .sl Feat inferInstance 5 fE fs, .v (.int .i64 0)] (fun ρ S w hm => hrp _ w S hm.lt (hm.rdS 0 rfl rfl)) ?_)
  refine Or.inl ⟨.bool true, fun ρ S w hm => sameb_c b _ _ w (hm.rd 2 rfl rfl) (hm.rd 0 rfl rfl), ?_⟩
  refine aI (fun h => by cases h) (fun _ => ?_)
  refine Or.inr (lcall_sub [] (parseNil_s g) rfl rfl rfl rfl rfl trivial ?_)
  refine Or.inl ⟨.bool true, fun hg ρ S w hm => samelooks_c (ls.map toL) (by rw [List.length_map]; omega) (fun l hl => ⟨(q7 l hl).1, (q7 l hl).2, q2 l hl⟩) _ _ w (rep_looks (hm.own 6 rfl rfl)) (rep_looks (hm.rd 8 rfl rfl)), ?_⟩
  refine Or.inl ⟨.bool true, fun hg ρ S w hm => samefeats_c fs (by omega) q4 _ _ w (hm.own 7 rfl rfl) (hm.rd 9 rfl rfl), ?_⟩
  refine Or.inl ⟨.bool true, fun _ ρ S w hm => works_c w, ?_⟩
  exact fun ρ S w' hi => ⟨rfl, hi.below⟩
end Go.Proofs.YtjflgkadagkllaaGreat
