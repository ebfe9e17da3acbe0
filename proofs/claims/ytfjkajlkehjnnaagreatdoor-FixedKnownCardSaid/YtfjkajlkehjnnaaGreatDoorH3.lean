/- calamuslaw01: FixedQuotients, FixedScales, FixedSums, over works. -/
import Derived.Test.YtfjkajlkehjnnaaGreatDoorH2
namespace Go.Proofs.YtfjkajlkehjnnaaGreatDoor
open Go Go.Eng Go.RowKit Go.Ar

/-- the chapter's examples hold -/
def WorksC : Prop := ∀ w : World, Calls Tryz.prog 14 #[] w fun e w' => e = .returned (.bool true) ∧ Below w.heap.size w w'
theorem eqs {a b c d : Int} (t : Bool) : ((((decide (a = a) && decide (b = b)) && decide (c = c)) && decide (d = d)) && t) = t := by simp
theorem lawQuotients_c (hw : WorksC) (a b c : Int) (ha : I64 a) (hb : I64 b) (hc : I64 c) (w : World) : Calls Tryz.prog 9 #[.int .i64 a, .int .i64 b, .int .i64 c] w fun e w' => e = .returned (.bool true) ∧ Below w.heap.size w w' := by
  refine calls_exec (cf := cf) cfok (fn := Tryz.f9) Tryz.func9 rfl [.v (.int .i64 a), .v (.int .i64 b), .v (.int .i64 c)] [] (ρ := fun _ => undef) (· < w.heap.size) rfl rfl rfl (by simp [svOkL, svOk]) (memNil fun _ h => h) ?_
  refine Or.inl ⟨_, fun ρ S w' hm => mulDiv_c a b c ha hb hc w', ?_⟩
  refine Or.inl ⟨_, fun ρ S w' hm => mulDiv2_c a b c ha hb hc w', ?_⟩
  refine Or.inl ⟨_, fun ρ S w' hm => round_c a b c ha hb hc w', ?_⟩
  refine Or.inl ⟨_, fun ρ S w' hm => round2_c a b c ha hb hc w', ?_⟩
  refine Or.inl ⟨.bool true, fun _ ρ S w' hm => hw w', ?_⟩
  exact fun ρ S w' hi => ⟨congrArg (fun b => Ending.returned (.bool b)) (eqs true), hi.below⟩
theorem lawScales_c (hw : WorksC) (a b em : Int) (ha : I64 a) (hb : I64 b) (he : 0 ≤ em ∧ em ≤ 65535) (w : World) : Calls Tryz.prog 11 #[.int .i64 a, .int .i64 b, .int .u16 em] w fun e w' => e = .returned (.bool true) ∧ Below w.heap.size w w' := by
  refine calls_exec (cf := cf) cfok (fn := Tryz.f11) Tryz.func11 rfl [.v (.int .i64 a), .v (.int .i64 b), .v (.int .u16 em)] [] (ρ := fun _ => undef) (· < w.heap.size) rfl rfl rfl (by simp [svOkL, svOk]) (memNil fun _ h => h) ?_
  refine Or.inl ⟨_, fun ρ S w' hm => ratio_c a b ha hb w', ?_⟩
  refine Or.inl ⟨_, fun ρ S w' hm => round2_c a 65536 b ha ⟨by decide, by decide⟩ hb w', ?_⟩
  refine Or.inl ⟨_, fun ρ S w' hm => scale_c a b em ha hb he w', ?_⟩
  refine Or.inl ⟨.tuple #[.int .i64 (roundF a b em).1, .int .i64 (roundF a b em).2], fun ρ S w' hm => ?_, ?_⟩
  · show Calls _ 33 #[.int .i64 a, .int .i64 b, .int .i64 (IntKind.i64.wrap em)] _ _
    rw [i64_id em (by omega) (by omega)]
    exact round2_c a b em ha hb ⟨by omega, by omega⟩ w'
  refine Or.inl ⟨.bool true, fun _ ρ S w' hm => hw w', ?_⟩
  exact fun ρ S w' hi => ⟨congrArg (fun b => Ending.returned (.bool b)) (eqs true), hi.below⟩
theorem fit_64 (n : Int) : I64 (fitF n).1 := by
  unfold fitF
  split
  · rename_i h; exact ⟨h.1, h.2⟩
  · exact ⟨by decide, by decide⟩
theorem lawSums_c (hw : WorksC) (a b : Int) (ha : I64 a) (hb : I64 b) (w : World) : Calls Tryz.prog 10 #[.int .i64 a, .int .i64 b] w fun e w' => e = .returned (.bool true) ∧ Below w.heap.size w w' := by
  refine calls_exec (cf := cf) cfok (fn := Tryz.f10) Tryz.func10 rfl [.v (.int .i64 a), .v (.int .i64 b)] [] (ρ := fun _ => undef) (· < w.heap.size) rfl rfl rfl (by simp [svOkL, svOk]) (memNil fun _ h => h) ?_
  refine Or.inl ⟨_, fun ρ S w' hm => add_c a b ha hb w', ?_⟩
  refine Or.inl ⟨_, fun ρ S w' hm => add2_c a b ha hb w', ?_⟩
  refine Or.inl ⟨_, fun ρ S w' hm => sub_c a b ha hb w', ?_⟩
  refine Or.inl ⟨_, fun ρ S w' hm => sub2_c a b ha hb w', ?_⟩
  refine And.intro (fun h => ?_) (fun _ => ?_)
  · have h : (((!decide ((fitF (a + b)).1 = (fitF (a + b)).1) || !decide ((fitF (a + b)).2 = (fitF (a + b)).2)) || !decide ((fitF (a - b)).1 = (fitF (a - b)).1)) || !decide ((fitF (a - b)).2 = (fitF (a - b)).2)) = true := h
    simp at h
  refine Or.inl ⟨_, fun ρ S w' hm => sub_c (fitF (a + b)).1 b (fit_64 _) hb w', ?_⟩
  refine Or.inl ⟨.bool true, fun _ ρ S w' hm => hw w', ?_⟩
  refine fun ρ S w' hi => ⟨congrArg (fun b => Ending.returned (.bool b)) ?_, hi.below⟩
  show (((!decide ((fitF (a + b)).2 = 0) && decide ((fitF (a + b)).1 = 0)) || ((decide ((fitF (a + b)).2 = 0) && decide ((fitF ((fitF (a + b)).1 - b)).2 = 0)) && decide ((fitF ((fitF (a + b)).1 - b)).1 = a))) && true) = true
  by_cases h : inI (a + b)
  · rw [fit_in h]
    show (((!decide ((0 : Int) = 0) && decide (a + b = 0)) || ((decide ((0 : Int) = 0) && decide ((fitF (a + b - b)).2 = 0)) && decide ((fitF (a + b - b)).1 = a))) && true) = true
    rw [show a + b - b = a from by omega, fit_in ⟨ha.lo, ha.hi⟩]
    simp
  · rw [fit_out h]
    simp
end Go.Proofs.YtfjkajlkehjnnaaGreatDoor
