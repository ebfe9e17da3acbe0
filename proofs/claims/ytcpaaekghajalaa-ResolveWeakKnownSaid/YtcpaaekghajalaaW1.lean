/- Leaf functions of resolve and its references: what they compute, for every input. -/
import Derived.Test.YtcpaaekghajalaaCfg
namespace Go.Proofs.Ytcpaaekghajalaa
open Go Go.Eng Go.RowKit

abbrev cE : Int → List DV := fun n => [.v (.int .u8 n)]
theorem cE_flat : FlatE cE := ⟨fun n => [.int .u8 n], fun _ => rfl⟩
def edgeF (c : Int) : Int := if c = 2 then 2 else 1
def neuF (c : Int) : Bool := (decide (c ≥ 11) && decide (c ≤ 14)) || (decide (c ≥ 20) && decide (c ≤ 23))
def sideF (c : Int) : Int := if c = 1 then 1 else if c = 2 ∨ c = 4 ∨ c = 7 then 2 else 0

theorem edge_c (c : Int) (w : World) : Calls Try.prog 28 #[.int .u8 c] w fun e w' => e = .returned (.int .u8 (edgeF c)) ∧ Below w.heap.size w w' := by
  refine calls_exec (cf := cf) cfok (fn := Try.f28) Try.func28 rfl [.v (.int .u8 c)] [] (ρ := fun _ => undef) (· < w.heap.size) rfl rfl rfl (by simp [svOkL, svOk]) (memNil fun _ h => h) ?_
  refine And.intro (fun h => ?_) (fun h => ?_)
  · have h : c = 2 := by simpa using h
    subst h
    exact fun ρ S w' hi => ⟨rfl, hi.below⟩
  · have h : ¬ c = 2 := by simpa using h
    refine fun ρ S w' hi => ⟨?_, hi.below⟩
    simp only [edgeF, if_neg h]; rfl

theorem ends_c (c : Int) (w : World) : Calls Try.prog 32 #[.int .u8 c] w fun e w' => e = .returned (.int .u8 (edgeF c)) ∧ Below w.heap.size w w' := by
  refine calls_exec (cf := cf) cfok (fn := Try.f32) Try.func32 rfl [.v (.int .u8 c)] [] (ρ := fun _ => undef) (· < w.heap.size) rfl rfl rfl (by simp [svOkL, svOk]) (memNil fun _ h => h) ?_
  refine And.intro (fun h => ?_) (fun h => ?_)
  · have h : c = 2 := by simpa using h
    refine fun ρ S w' hi => ⟨?_, hi.below⟩
    simp only [edgeF, if_pos h]; rfl
  · have h : ¬ c = 2 := by simpa using h
    refine fun ρ S w' hi => ⟨?_, hi.below⟩
    simp only [edgeF, if_neg h]; rfl

theorem neutral_c (c : Int) (w : World) : Calls Try.prog 30 #[.int .u8 c] w fun e w' => e = .returned (.bool (neuF c)) ∧ Below w.heap.size w w' := by
  refine calls_exec (cf := cf) cfok (fn := Try.f30) Try.func30 rfl [.v (.int .u8 c)] [] (ρ := fun _ => undef) (· < w.heap.size) rfl rfl rfl (by simp [svOkL, svOk]) (memNil fun _ h => h) ?_
  exact fun ρ S w' hi => ⟨rfl, hi.below⟩

theorem isNeutral_c (c : Int) (w : World) : Calls Try.prog 23 #[.int .u8 c] w fun e w' => e = .returned (.bool (neuF c)) ∧ Below w.heap.size w w' := by
  refine calls_exec (cf := cf) cfok (fn := Try.f23) Try.func23 rfl [.v (.int .u8 c)] [] (ρ := fun _ => undef) (· < w.heap.size) rfl rfl rfl (by simp [svOkL, svOk]) (memNil fun _ h => h) ?_
  exact fun ρ S w' hi => ⟨rfl, hi.below⟩

theorem side_c (c : Int) (w : World) : Calls Try.prog 31 #[.int .u8 c] w fun e w' => e = .returned (.int .u8 (sideF c)) ∧ Below w.heap.size w w' := by
  refine calls_exec (cf := cf) cfok (fn := Try.f31) Try.func31 rfl [.v (.int .u8 c)] [] (ρ := fun _ => undef) (· < w.heap.size) rfl rfl rfl (by simp [svOkL, svOk]) (memNil fun _ h => h) ?_
  by_cases h1 : c = 1
  · subst h1
    exact And.intro (fun _ => And.intro (fun _ ρ S w' hi => ⟨rfl, hi.below⟩) (fun h => by cases h)) (fun h => by cases h)
  · by_cases h2 : c = 2
    · subst h2
      refine And.intro (fun h => by cases h) (fun _ => And.intro (fun _ ρ S w' hi => ⟨rfl, hi.below⟩) (fun h => by cases h))
    · have e1 : decide (c = 1) = false := by simpa using h1
      have e2 : decide (c = 2) = false := by simpa using h2
      refine And.intro (fun h => absurd h (by simp [e1])) (fun _ => And.intro (fun h => absurd h (by simp [e2])) (fun _ => ?_))
      refine And.intro (fun h => ?_) (fun h => ?_)
      · have h : c = 4 := by simpa using h
        subst h
        exact And.intro (fun _ ρ S w' hi => ⟨rfl, hi.below⟩) (fun h => by cases h)
      · have h : ¬ c = 4 := by simpa using h
        refine And.intro (fun h7 => ?_) (fun h7 => ?_)
        · have h7 : c = 7 := by simpa using h7
          subst h7
          exact fun ρ S w' hi => ⟨rfl, hi.below⟩
        · have h7 : ¬ c = 7 := by simpa using h7
          refine fun ρ S w' hi => ⟨?_, hi.below⟩
          simp only [sideF, if_neg h1, show ¬ (c = 2 ∨ c = 4 ∨ c = 7) by simp [h2, h, h7], if_false]; rfl

end Go.Proofs.Ytcpaaekghajalaa
