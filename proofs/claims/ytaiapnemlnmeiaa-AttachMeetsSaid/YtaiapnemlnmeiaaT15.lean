/- the law's works. -/
import Derived.Test.YtaiapnemlnmeiaaT14
namespace Go.Proofs.Ytaiapnemlnmeiaa
open Go Go.Eng Go.RowKit

theorem fontMk {S : Nat → Prop} {w : World} {f : Font} {a c m s sf p pf : Value} (h1 : DRep S w (.sl Int inferInstance 1 hE f.adv) a) (h2 : DRep S w (.sl Int inferInstance 1 bE f.cls) c) (h3 : DRep S w (.sl Pair2 inferInstance 2 mpE f.maps) m) (h4 : DRep S w (.sl Lookup inferInstance 4 lkE f.subs) s)
    (h5 : DRep S w (.sl Feature inferInstance 5 feE f.sfeats) sf) (h6 : DRep S w (.sl Lookup inferInstance 4 lkE f.poss) p) (h7 : DRep S w (.sl Feature inferInstance 5 feE f.pfeats) pf) : FontV S w f (.agg #[.int .u16 f.units, .int .i16 f.asc, .int .i16 f.desc, a, c, m, s, sf, p, pf]) :=
  ⟨[.int .u16 f.units, .int .i16 f.asc, .int .i16 f.desc, a, c, m, s, sf, p, pf], rfl, rfl, rfl, rfl, h1, h2, h3, h4, h5, h6, h7, trivial⟩

set_option maxRecDepth 100000 in
theorem works_c (w : World) : Calls Try.prog 7 #[] w fun e w' => e = .returned (.bool true) ∧ Below w.heap.size w w' := by
  refine calls_exec (cf := cf) cfok (fn := Try.f7) Try.func7 rfl [] [] (ρ := fun _ => undef) (· < w.heap.size) rfl rfl rfl (by simp [svOkL]) (memNil fun _ h => h) ?_
  refine Or.inr (lcall_repA (foD exF) (fun ρ S w hm => example_c w S hm.lt) ?_)
  refine Or.inr (lcall_fresh2 ([⟨460, -1, 0, 0⟩, ⟨600, -1, 0, 0⟩] : List Place) (.int .i64 0) (fun ρ S w hm => by
    have := apply_c exF [0, 1] exOk (by unfold U16L U16; decide) (by decide) _ _ w (fontMk (hm.rd 0 rfl rfl) (hm.rd 1 rfl rfl) (hm.rd 2 rfl rfl) (hm.rd 3 rfl rfl) (hm.rd 4 rfl rfl) (hm.rd 5 rfl rfl) (hm.rd 6 rfl rfl)) (hm.to 9 (.sl 7) (.sl Int inferInstance 1 hE [0, 1]) rfl (by repeat (first | exact rfl | exact trivial | exact fun _ _ => rfl | refine And.intro ?_ ?_)))
    rw [ex1] at this
    exact this) ?_)
  refine Or.inr (lcall_repA (foD exF) (fun ρ S w hm => example_c w S hm.lt) ?_)
  refine Or.inr (lcall_fresh2 ([⟨605, -1, 0, 0⟩, ⟨0, 0, 290, 680⟩] : List Place) (.int .i64 0) (fun ρ S w hm => by
    have := apply_c exF [1, 2] exOk (by unfold U16L U16; decide) (by decide) _ _ w (fontMk (hm.rd 9 rfl rfl) (hm.rd 10 rfl rfl) (hm.rd 11 rfl rfl) (hm.rd 12 rfl rfl) (hm.rd 13 rfl rfl) (hm.rd 14 rfl rfl) (hm.rd 15 rfl rfl)) (hm.to 9 (.sl 16) (.sl Int inferInstance 1 hE [1, 2]) rfl (by repeat (first | exact rfl | exact trivial | exact fun _ _ => rfl | refine And.intro ?_ ?_)))
    rw [ex2] at this
    exact this) ?_)
  refine Or.inr (lcall_fresh2 ([⟨0, 0, 1, 605, 0, 0⟩, ⟨0, 1, 2, 0, -315, 680⟩] : List Gl) (.int .i64 0) (fun ρ S w hm => by
    have := origins_c [⟨605, -1, 0, 0⟩, ⟨0, 0, 290, 680⟩] false exOrg (by decide) _ w (hm.own 17 rfl rfl)
    rw [ex3] at this
    exact this) ?_)
  refine And.intro (fun _ => ⟨by decide, by decide⟩) ?_
  refine And.intro (fun _ => ⟨by decide, by decide⟩) ?_
  refine And.intro (fun _ => ⟨by decide, by decide⟩) ?_
  refine And.intro (fun _ => ⟨by decide, by decide⟩) ?_
  refine And.intro (fun _ => ⟨by decide, by decide⟩) ?_
  refine And.intro (fun _ => ⟨by decide, by decide⟩) ?_
  refine And.intro (fun _ => ⟨by decide, by decide⟩) ?_
  exact fun ρ S w' hi => ⟨rfl, hi.below⟩
end Go.Proofs.Ytaiapnemlnmeiaa
