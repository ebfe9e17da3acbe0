/- calamuslaw11's arabic, and the law ResolveWeak: true for every input. -/
import Derived.Test.YtcpaaekghajalaaW23
namespace Go.Proofs.Ytcpaaekghajalaa
open Go Go.Eng Go.RowKit

abbrev ar1 : List Int := [3, 9, 4, 8, 4]
abbrev ar2 : List Int := [2, 2, 7, 7, 7]
theorem ar_eq : weakX ar1 1 = ar2 := by decide +kernel
theorem weak_l (xs : List Int) (sos : Int) (ys : List Int) (h : weakX xs sos = ys) (v : Value) (w : World) (hl : xs.length ≤ 1000000) (hv : Rd w v 1 cE xs) :
    Calls Try.prog 25 #[v, .int .u8 sos] w fun e w' => ∃ u, e = .returned u ∧ Below w.heap.size w w' ∧ Fresh w w' u 23 1 cE ys := by
  subst h; exact weak_c xs sos v w hl hv

theorem arabic_c (w : World) : Calls Try.prog 24 #[] w fun e w' => e = .returned (.bool true) ∧ Below w.heap.size w w' := by
  refine calls_exec (cf := cf) cfok (fn := Try.f24) Try.func24 rfl [] [] (ρ := fun _ => undef) (· < w.heap.size) rfl rfl rfl (by simp [svOkL]) (memNil fun _ h => h) ?_
  refine Or.inr (lcall_fresh ar2 (fun ρ S w' hm => weak_l ar1 1 ar2 ar_eq _ w' (by decide) (hm.raw 0 rfl rfl ar1 (ar1.flatMap cE) rfl rfl rfl (fun y _ => rfl))) ?_)
  refine Or.inl ⟨_, fun ρ S w' hm => is_t ar2 _ _ w' (by decide) (hm.own 1 rfl rfl) (hm.raw 2 rfl rfl ar2 (ar2.flatMap cE) rfl rfl rfl (fun y _ => rfl)), ?_⟩
  exact fun ρ S w' hi => ⟨rfl, hi.below⟩

theorem lawWeak_c (xs : List Int) (sos : Int) (v : Value) (w : World) (hv : Rd w v 1 cE xs) :
    Calls Try.prog 9 #[v, .int .u8 sos] w fun e w' => e = .returned (.bool true) ∧ Below w.heap.size w w' := by
  refine calls_exec (cf := cf) cfok (fn := Try.f9) Try.func9 rfl [.sl 0, .v (.int .u8 sos)] [.rd Int inferInstance 1 cE xs] (ρ := fun _ => v) (· < w.heap.size) rfl rfl rfl (by simp [svOkL, svOk]) (memRd (fun _ h => h) ⟨hv, trivial⟩) ?_
  refine And.intro (fun h => ?_) (fun h => ?_)
  · exact Or.inl ⟨_, fun ρ S w' hm => arabic_c w', fun ρ S w' hi => ⟨rfl, hi.below⟩⟩
  · have hl : xs.length ≤ 3000 := by have : ¬ (xs.length : Int) > 3000 := by simpa using h
                                     omega
    have hn := weakX_len xs sos
    refine Or.inr (lcall_fresh xs (fun ρ S w' hm => own_c xs _ w' (by omega) (hm.rd 0 rfl rfl)) ?_)
    refine Or.inr (lcall_fresh (weakX xs sos) (fun ρ S w' hm => weak_c xs sos _ w' (by omega) (hm.own 1 rfl rfl)) ?_)
    refine Or.inr (lcall_fresh (weakX xs sos) (fun ρ S w' hm => refWeak_c xs sos _ w' (by omega) (hm.rd 0 rfl rfl)) ?_)
    refine Or.inl ⟨_, fun ρ S w' hm => is_t _ _ _ w' (by omega) (hm.own 2 rfl rfl) (hm.own 3 rfl rfl), ?_⟩
    refine Or.inl ⟨_, fun _ ρ S w' hm => is_t _ _ _ w' (by omega) (hm.own 1 rfl rfl) (hm.rd 0 rfl rfl), ?_⟩
    refine Or.inl ⟨_, fun _ ρ S w' hm => arabic_c w', ?_⟩
    exact fun ρ S w' hi => ⟨rfl, hi.below⟩
end Go.Proofs.Ytcpaaekghajalaa
