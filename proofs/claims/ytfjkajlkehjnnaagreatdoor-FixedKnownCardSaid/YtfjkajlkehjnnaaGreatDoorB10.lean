/- The chapter's examples: a quotient, decimals. -/
import Derived.Test.YtfjkajlkehjnnaaGreatDoorB9
import Derived.Test.YtfjkajlkehjnnaaGreatDoorH3
set_option maxRecDepth 100000
set_option linter.unusedVariables false
namespace Go.Proofs.YtfjkajlkehjnnaaGreatDoor
open Go Go.Eng Go.RowKit Go.Ar

theorem read15 : readF [49, 46, 53] = (98304, 0) := by decide +kernel
theorem print1 : printB (-1) = [45, 48, 46, 48, 48, 48, 48, 49, 53, 50, 53, 56, 55, 56, 57, 48, 54, 50, 53] := by
  unfold printB
  rw [show ((-1 : Int).natAbs / 65536) = 0 from rfl, Lib.decDigits_one (by decide)]
  decide +kernel
theorem works_c : WorksC := by
  intro w
  refine calls_exec (cf := cf) cfok (fn := Tryz.f14) Tryz.func14 rfl [] [] (ρ := fun _ => undef) (· < w.heap.size) rfl rfl rfl (by simp [svOkL, svOk]) (memNil fun _ h => h) ?_
  refine Or.inl ⟨.tuple #[.int .i64 (-4), .int .i64 0], fun ρ S w' hm => ?_, ?_⟩
  · have := mulDiv_c (-7) 1 2 ⟨by decide, by decide⟩ ⟨by decide, by decide⟩ ⟨by decide, by decide⟩ w'
    rw [show mulDivF (-7) 1 2 = (-4, 0) by decide +kernel] at this
    exact this
  refine Or.inl ⟨.tuple #[.int .i64 98304, .int .i64 0], fun ρ S w' hm => ?_, ?_⟩
  · have := read_c [49, 46, 53] (by decide) (by decide +kernel) w'
    rw [read15] at this
    exact this
  refine Or.inl ⟨.string (bs [45, 48, 46, 48, 48, 48, 48, 49, 53, 50, 53, 56, 55, 56, 57, 48, 54, 50, 53]), fun _ ρ S w' hm => ?_, ?_⟩
  · have := print_c (-1) w' (by decide) (by decide) (fun w => by rw [show ((-1 : Int).natAbs / 65536) = 0 from rfl]; exact format_small 0 (by decide) w)
    rw [print1] at this
    exact this
  refine fun ρ S w' hi => ⟨congrArg (fun b : Bool => Ending.returned (.bool b)) ?_, hi.below⟩
  decide +kernel
end Go.Proofs.YtfjkajlkehjnnaaGreatDoor
