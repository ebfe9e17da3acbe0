/- The laws of glue: works, GlueBadness, GlueDemerits. -/
import Derived.Test.YtciflfejkncdeaaG18
namespace Go.Proofs.Ytciflfejkncdeaa
open Go Go.Eng Go.RowKit Go.Ar

theorem works_c (w : World) : Calls Try.prog 11 #[] w fun e w' => e = .returned (.bool true) ∧ Below w.heap.size w w' := by
  refine calls_exec (cf := cf) cfok (fn := Try.f11) Try.func11 rfl [] [] (ρ := fun _ => undef) (· < w.heap.size) rfl rfl rfl (by simp [svOkL]) (memNil fun _ h => h) ?_
  refine Or.inl ⟨.tuple #[.int .i64 12, .int .i64 0, .int .i64 0], fun ρ S w' _ => by
    have := badness_c 90 100 20 0 w'
    rw [show badnessF 90 100 20 0 = (12, 0, 0) by decide +kernel] at this
    exact this, ?_⟩
  refine Or.inl ⟨.tuple #[.int .i64 1000000000001, .int .i64 0], fun ρ S w' _ => by
    have := demerits_c 109 100 0 8 true w'
    rw [show demF 109 100 0 8 true = (1000000000001, 0) by decide +kernel] at this
    exact this, ?_⟩
  refine Or.inr (lcall_fresh2 (t := 2) (sz := 1) (enc := iE) [3, 3, 4] (.int .i64 0) (fun ρ S w' _ => by
    have := spread_c 10 3 w'
    rw [show spreadF 10 3 = ([3, 3, 4], 0) by decide +kernel] at this
    exact this) ?_)
  refine And.intro (fun _ => ⟨by decide, by decide⟩) ?_
  refine And.intro (fun _ => ⟨by decide, by decide⟩) ?_
  exact fun ρ S w' hi => ⟨rfl, hi.below⟩

theorem badEq (a b : Int) (c : Int) : (((decide (a = a) && decide (b = b)) && decide (c = c)) && true) = true := by simp
theorem lawBad_c (h w st sh : Int) (W : World) : Calls Try.prog 3 #[.int .i64 h, .int .i64 w, .int .i64 st, .int .i64 sh] W fun e w' => e = .returned (.bool true) ∧ Below W.heap.size W w' := by
  refine calls_exec (cf := cf) cfok (fn := Try.f3) Try.func3 rfl [.v (.int .i64 h), .v (.int .i64 w), .v (.int .i64 st), .v (.int .i64 sh)] [] (ρ := fun _ => undef) (· < W.heap.size) rfl rfl rfl (by simp [svOkL, svOk]) (memNil fun _ h => h) ?_
  refine Or.inl ⟨_, fun ρ S w' _ => badness_c h w st sh w', ?_⟩
  refine Or.inl ⟨_, fun ρ S w' _ => badness2_c h w st sh w', ?_⟩
  refine Or.inl ⟨_, fun _ ρ S w' _ => works_c w', ?_⟩
  refine fun ρ S w' hi => ⟨?_, hi.below⟩
  generalize badnessF h w st sh = b
  show Ending.returned (.bool (((decide (b.1 = b.1) && decide (b.2.1 = b.2.1)) && decide (b.2.2 = b.2.2)) && true)) = _
  rw [badEq]
theorem demEq (a b c d e : Int) : (((((decide (a = a) && decide (b = b)) && decide (c = c)) && decide (d = d)) && decide (e = e)) && true) = true := by simp
theorem lawDem_c (h w st sh : Int) (last : Bool) (W : World) : Calls Try.prog 7 #[.int .i64 h, .int .i64 w, .int .i64 st, .int .i64 sh, .bool last] W fun e w' => e = .returned (.bool true) ∧ Below W.heap.size W w' := by
  refine calls_exec (cf := cf) cfok (fn := Try.f7) Try.func7 rfl [.v (.int .i64 h), .v (.int .i64 w), .v (.int .i64 st), .v (.int .i64 sh), .v (.bool last)] [] (ρ := fun _ => undef) (· < W.heap.size) rfl rfl rfl (by simp [svOkL, svOk]) (memNil fun _ h => h) ?_
  refine Or.inl ⟨_, fun ρ S w' _ => demerits_c h w st sh last w', ?_⟩
  refine Or.inl ⟨_, fun ρ S w' _ => demerits2_c h w st sh last w', ?_⟩
  refine Or.inl ⟨_, fun ρ S w' _ => space_c h w', ?_⟩
  refine Or.inl ⟨_, fun ρ S w' _ => space2_c h w', ?_⟩
  refine Or.inl ⟨_, fun _ ρ S w' _ => works_c w', ?_⟩
  refine fun ρ S w' hi => ⟨?_, hi.below⟩
  generalize demF h w st sh last = b
  generalize spaceF h = c
  show Ending.returned (.bool (((((decide (b.1 = b.1) && decide (b.2 = b.2)) && decide (c.1 = c.1)) && decide (c.2.1 = c.2.1)) && decide (c.2.2 = c.2.2)) && true)) = _
  rw [demEq]
end Go.Proofs.Ytciflfejkncdeaa
