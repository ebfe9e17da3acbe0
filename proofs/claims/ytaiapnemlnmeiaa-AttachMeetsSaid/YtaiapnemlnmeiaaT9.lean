/- attach.worker.by, guard. -/
import Derived.Test.YtaiapnemlnmeiaaT8
namespace Go.Proofs.Ytaiapnemlnmeiaa
open Go Go.Eng Go.RowKit

abbrev woC (f : Font) (l : List Int) (out : List Place) : List Chunk :=
  [.rd Int inferInstance 1 hE f.adv, .rd Int inferInstance 1 bE f.cls, .rd Pair2 inferInstance 2 mpE f.maps, .rd Lookup inferInstance 4 lkE f.subs, .rd Feature inferInstance 5 feE f.sfeats, .rd Lookup inferInstance 4 lkE f.poss, .rd Feature inferInstance 5 feE f.pfeats,
   .rd Int inferInstance 1 hE l, .own 38 Place inferInstance 4 plE out, .bx 72 [.v (.int .u16 f.units), .v (.int .i16 f.asc), .v (.int .i16 f.desc), .sl 0, .sl 1, .sl 2, .sl 3, .sl 4, .sl 5, .sl 6, .sl 7, .sl 8]]
theorem woRel {f : Font} {l : List Int} {out : List Place} : relL (woC f l out) (woC f l out) :=
  And.intro ⟨Nat.le_refl _, rfl⟩ (And.intro ⟨Nat.le_refl _, rfl⟩ (And.intro ⟨Nat.le_refl _, rfl⟩ (And.intro ⟨Nat.le_refl _, rfl⟩ (And.intro ⟨Nat.le_refl _, rfl⟩ (And.intro ⟨Nat.le_refl _, rfl⟩ (And.intro ⟨Nat.le_refl _, rfl⟩ (And.intro ⟨Nat.le_refl _, rfl⟩ (And.intro ⟨Nat.le_refl _, rfl⟩ (And.intro trivial trivial)))))))))
def ByS (f : Font) (l : List Int) (out : List Place) (t : Int) (r : SV) : Prop :=
  LCall Try.prog ⟨0, [], woC f l out, [], []⟩ 16 [.bx 9 0, .v (.int .u16 t)] (fun st' v => st'.ch = woC f l out ∧ v = r)
theorem by2_s (f : Font) (l : List Int) (out : List Place) (t : Int) (ht : t = 2) : ByS f l out t (.mv 25 [.bx 9 0] []) := by
  unfold ByS
  refine lcall_exec (cf := cf) cfok (fn := Try.f16) Try.func16 rfl _ _ (woC f l out) (.mv 25 [.bx 9 0] []) rfl rfl (by simp [svOkL, svOk]) rfl woRel rfl rfl ?_
  refine And.intro (fun h => ?_) (fun h => absurd ht (of_decide_eq_false h))
  exact ⟨[0, 1, 2, 3, 4, 5, 6, 7, 8, 9], rfl, rfl, rfl, (And.intro (rfl) (And.intro (rfl) (And.intro (rfl) (And.intro (rfl) (And.intro (rfl) (And.intro (rfl) (And.intro (rfl) (And.intro (rfl) (And.intro (rfl) (And.intro (⟨rfl, rfl⟩) trivial)))))))))), rfl⟩
theorem by4_s (f : Font) (l : List Int) (out : List Place) (t : Int) (ht : t = 4) : ByS f l out t (.mv 26 [.bx 9 0] []) := by
  unfold ByS
  refine lcall_exec (cf := cf) cfok (fn := Try.f16) Try.func16 rfl _ _ (woC f l out) (.mv 26 [.bx 9 0] []) rfl rfl (by simp [svOkL, svOk]) rfl woRel rfl rfl ?_
  refine And.intro (fun h => absurd (of_decide_eq_true h : t = 2) (by omega)) (fun h => ?_)
  refine And.intro (fun h => ?_) (fun h => absurd ht (of_decide_eq_false h))
  exact ⟨[0, 1, 2, 3, 4, 5, 6, 7, 8, 9], rfl, rfl, rfl, (And.intro (rfl) (And.intro (rfl) (And.intro (rfl) (And.intro (rfl) (And.intro (rfl) (And.intro (rfl) (And.intro (rfl) (And.intro (rfl) (And.intro (rfl) (And.intro (⟨rfl, rfl⟩) trivial)))))))))), rfl⟩
theorem by6_s (f : Font) (l : List Int) (out : List Place) (t : Int) (ht : t = 6) : ByS f l out t (.mv 27 [.bx 9 0] []) := by
  unfold ByS
  refine lcall_exec (cf := cf) cfok (fn := Try.f16) Try.func16 rfl _ _ (woC f l out) (.mv 27 [.bx 9 0] []) rfl rfl (by simp [svOkL, svOk]) rfl woRel rfl rfl ?_
  refine And.intro (fun h => absurd (of_decide_eq_true h : t = 2) (by omega)) (fun h => ?_)
  refine And.intro (fun h => absurd (of_decide_eq_true h : t = 4) (by omega)) (fun h => ?_)
  refine And.intro (fun h => ?_) (fun h => absurd ht (of_decide_eq_false h))
  exact ⟨[0, 1, 2, 3, 4, 5, 6, 7, 8, 9], rfl, rfl, rfl, (And.intro (rfl) (And.intro (rfl) (And.intro (rfl) (And.intro (rfl) (And.intro (rfl) (And.intro (rfl) (And.intro (rfl) (And.intro (rfl) (And.intro (rfl) (And.intro (⟨rfl, rfl⟩) trivial)))))))))), rfl⟩
theorem byN_s (f : Font) (l : List Int) (out : List Place) (t : Int) (h2 : ¬ t = 2) (h4 : ¬ t = 4) (h6 : ¬ t = 6) : ByS f l out t (.v (.func (.func 28) #[] #[])) := by
  unfold ByS
  refine lcall_exec (cf := cf) cfok (fn := Try.f16) Try.func16 rfl _ _ (woC f l out) (.v (.func (.func 28) #[] #[])) rfl rfl (by simp [svOkL, svOk]) rfl woRel rfl rfl ?_
  refine And.intro (fun h => absurd (of_decide_eq_true h : t = 2) h2) (fun h => ?_)
  refine And.intro (fun h => absurd (of_decide_eq_true h : t = 4) h4) (fun h => ?_)
  refine And.intro (fun h => absurd (of_decide_eq_true h : t = 6) h6) (fun h => ?_)
  exact ⟨[0, 1, 2, 3, 4, 5, 6, 7, 8, 9], rfl, rfl, rfl, (And.intro (rfl) (And.intro (rfl) (And.intro (rfl) (And.intro (rfl) (And.intro (rfl) (And.intro (rfl) (And.intro (rfl) (And.intro (rfl) (And.intro (rfl) (And.intro (⟨rfl, rfl⟩) trivial)))))))))), rfl⟩
theorem by1_c (a b a0 b0 c d e0 : Value) (at' : Int) (w : World) : Calls Try.prog 28 #[.agg #[a0, b0, a, b], .agg #[c, d, e0], .int .i64 at'] w fun e w' => e = .returned (.bool false) ∧ Below w.heap.size w w' := by
  refine calls_exec (cf := cf) cfok (fn := Try.f28) Try.func28 rfl [.agg [.v a0, .v b0, .v a, .v b], .agg [.v c, .v d, .v e0], .v (.int .i64 at')] [] (ρ := fun _ => undef) (· < w.heap.size) rfl rfl rfl (by simp [svOkL, svOk]) (memNil fun _ h => h) ?_
  exact fun ρ S w' hi => ⟨rfl, hi.below⟩

abbrev chE (e : Int) : List Chunk := [.bx 34 [.v (.int .i64 e)]]
theorem guard_r (e : Int) : DCall Try.prog ⟨0, [], chE e, [], []⟩ 14 [.bx 0 0] .returning (fun u' st' => st'.ch = chE e ∧ u' = .returning) := by
  refine dcall_rec (cf := cf) cfok (fn := Try.f14) Try.func14 rfl rfl rfl rfl rfl rfl rfl rfl rfl rfl [.bx 0 0] (chE e) (chE e) .returning .nilIface rfl rfl rfl (by simp [svOkL, svOk]) rfl ⟨trivial, trivial⟩ rfl ?_
  refine ⟨.bool false, pure_neqNil (by kernel_rfl) rfl false (.inl ⟨rfl, rfl⟩), ?_⟩
  refine And.intro (fun h => by cases h) (fun _ => ?_)
  exact And.intro rfl ⟨[0], rfl, rfl, rfl, And.intro (And.intro rfl rfl) trivial⟩
end Go.Proofs.Ytaiapnemlnmeiaa
