/- calamuslaw11's works, and the laws ResolveNeutral and ResolveLevels: true for every input. -/
import Derived.Test.YtcpaaekghajalaaW7
namespace Go.Proofs.Ytcpaaekghajalaa
open Go Go.Eng Go.RowKit

theorem rowsOwn (st : St) (t : Nat) (xs : List Int) : rowsAs st (.own t Int inferInstance 1 cE xs) Int inferInstance 1 (fun n => [.v (.int .u8 n)]) xs := And.intro rfl (And.intro rfl (fun i _ => And.intro rfl rfl))

abbrev wk1 : List Int := [1, 14, 2, 14, 4, 13, 1]
abbrev wk2 : List Int := [1, 1, 2, 2, 4, 1, 1]
theorem wk_eq : neuX wk1 0 1 1 = wk2 := by decide +kernel
theorem wk_lev : strOfNums (levX (neuX wk1 0 1 1) 0) = ⟨#[0, 0, 1, 1, 2, 0, 0]⟩ := by rw [wk_eq]; rfl

theorem works_c (w : World) : Calls Try.prog 15 #[] w fun e w' => e = .returned (.bool true) ∧ Below w.heap.size w w' := by
  refine calls_exec (cf := cf) cfok (fn := Try.f15) Try.func15 rfl [] [] (ρ := fun _ => undef) (· < w.heap.size) rfl rfl rfl (by simp [svOkL]) (memNil fun _ h => h) ?_
  refine Or.inr (lcall_fresh (neuX wk1 0 1 1) (fun ρ S w' hm => neu_c wk1 0 1 1 _ w' (by decide) (by decide) (hm.raw 0 rfl rfl wk1 (wk1.flatMap cE) rfl rfl rfl (fun y _ => rfl))) ?_)
  refine Or.inl ⟨_, fun ρ S w' hm => is_c (neuX wk1 0 1 1) wk2 _ _ w' (by rw [wk_eq]; decide) (by decide) (hm.own 1 rfl rfl) (hm.raw 2 rfl rfl wk2 (wk2.flatMap cE) rfl rfl rfl (fun y _ => rfl)), ?_⟩
  refine Or.inr (Or.inl ⟨And.intro (by show decide (neuX wk1 0 1 1 = wk2) = true; rw [wk_eq]; rfl) trivial, ?_⟩)
  refine Or.inr (lcall_fresh (levX (neuX wk1 0 1 1) 0) (fun ρ S w' hm => lev_c (neuX wk1 0 1 1) 0 _ w' (by rw [wk_eq]; decide) (by decide) (hm.own 1 rfl rfl)) ?_)
  refine ⟨.string (strOfNums (levX (neuX wk1 0 1 1) 0)), fun _ => pure_bytes ttok _ rfl rfl rfl rfl rfl (rowsOwn _ _ _), ?_⟩
  refine fun ρ S w' hi => ⟨?_, hi.below⟩
  show Ending.returned (.bool (decide (neuX wk1 0 1 1 = wk2) && ((strOfNums (levX (neuX wk1 0 1 1) 0)).toList == (⟨#[0, 0, 1, 1, 2, 0, 0]⟩ : ByteArray).toList))) = _
  rw [wk_lev, wk_eq]
  simp

theorem lawNeutral_c (xs : List Int) (lv sos eos : Int) (v : Value) (w : World) (hlv : 0 ≤ lv ∧ lv ≤ 255) (hv : Rd w v 1 cE xs) :
    Calls Try.prog 3 #[v, .int .u8 lv, .int .u8 sos, .int .u8 eos] w fun e w' => e = .returned (.bool true) ∧ Below w.heap.size w w' := by
  refine calls_exec (cf := cf) cfok (fn := Try.f3) Try.func3 rfl [.sl 0, .v (.int .u8 lv), .v (.int .u8 sos), .v (.int .u8 eos)] [.rd Int inferInstance 1 cE xs] (ρ := fun _ => v) (· < w.heap.size) rfl rfl rfl (by simp [svOkL, svOk]) (memRd (fun _ h => h) ⟨hv, trivial⟩) ?_
  refine And.intro (fun h => ?_) (fun h => ?_)
  · exact Or.inl ⟨_, fun ρ S w' hm => works_c w', fun ρ S w' hi => ⟨rfl, hi.below⟩⟩
  · have hl : xs.length ≤ 3000 := by have : ¬ (xs.length : Int) > 3000 := by simpa using h
                                     omega
    have hn := neuX_len xs lv sos eos
    refine Or.inr (lcall_fresh xs (fun ρ S w' hm => own_c xs _ w' (by omega) (hm.rd 0 rfl rfl)) ?_)
    refine Or.inr (lcall_fresh (neuX xs lv sos eos) (fun ρ S w' hm => neu_c xs lv sos eos _ w' (by omega) hlv (hm.own 1 rfl rfl)) ?_)
    refine Or.inr (lcall_fresh (neuX xs lv sos eos) (fun ρ S w' hm => refNeu_c xs lv sos eos _ w' (by omega) hlv (hm.rd 0 rfl rfl)) ?_)
    refine Or.inl ⟨_, fun ρ S w' hm => is_c _ _ _ _ w' (by omega) (by omega) (hm.own 2 rfl rfl) (hm.own 3 rfl rfl), ?_⟩
    refine Or.inl ⟨_, fun _ ρ S w' hm => is_c _ _ _ _ w' (by omega) (by omega) (hm.own 1 rfl rfl) (hm.rd 0 rfl rfl), ?_⟩
    refine Or.inl ⟨_, fun _ ρ S w' hm => works_c w', ?_⟩
    refine fun ρ S w' hi => ⟨?_, hi.below⟩
    show Ending.returned (.bool ((decide (neuX xs lv sos eos = neuX xs lv sos eos) && decide (xs = xs)) && true)) = _
    simp

theorem lawLevels_c (xs : List Int) (lv : Int) (v : Value) (w : World) (hlv : 0 ≤ lv ∧ lv ≤ 255) (hv : Rd w v 1 cE xs) :
    Calls Try.prog 4 #[v, .int .u8 lv] w fun e w' => e = .returned (.bool true) ∧ Below w.heap.size w w' := by
  refine calls_exec (cf := cf) cfok (fn := Try.f4) Try.func4 rfl [.sl 0, .v (.int .u8 lv)] [.rd Int inferInstance 1 cE xs] (ρ := fun _ => v) (· < w.heap.size) rfl rfl rfl (by simp [svOkL, svOk]) (memRd (fun _ h => h) ⟨hv, trivial⟩) ?_
  refine And.intro (fun h => ?_) (fun h => ?_)
  · exact Or.inl ⟨_, fun ρ S w' hm => works_c w', fun ρ S w' hi => ⟨rfl, hi.below⟩⟩
  · have hl : xs.length ≤ 3000 := by have : ¬ (xs.length : Int) > 3000 := by simpa using h
                                     omega
    refine Or.inr (lcall_fresh xs (fun ρ S w' hm => own_c xs _ w' (by omega) (hm.rd 0 rfl rfl)) ?_)
    refine Or.inr (Or.inr (Or.inl ⟨[0, 1, 4, 5, 2, 3, 6, 7, 8, 9, 10, 11, 12, 13, 14, 15, 16], [2, 6], [17], by kernel_rfl, ?_⟩))
    refine mcall_fresh (levX xs lv) (fun ρ S w' hm => lev_c xs lv _ w' (by omega) hlv (hm.own 1 rfl rfl)) ?_
    refine ⟨.string (strOfNums (levX xs lv)), pure_bytes ttok _ rfl rfl rfl rfl rfl (rowsOwn _ _ _), ?_⟩
    refine mcall_fresh (levX xs lv) (fun ρ S w' hm => refLev_c xs lv _ w' (by omega) hlv (hm.rd 0 rfl rfl)) ?_
    refine ⟨.string (strOfNums (levX xs lv)), pure_bytes ttok _ rfl rfl rfl rfl rfl (rowsOwn _ _ _), ?_⟩
    refine ⟨_, fun _ ρ S w' hm => is_c _ _ _ _ w' (by omega) (by omega) (hm.own 1 rfl rfl) (hm.rd 0 rfl rfl), ?_⟩
    refine ⟨_, fun _ ρ S w' hm => works_c w', ?_⟩
    refine fun ρ S w' hi => ⟨?_, hi.below⟩
    show Ending.returned (.bool ((((strOfNums (levX xs lv)).toList == (strOfNums (levX xs lv)).toList) && decide (xs = xs)) && true)) = _
    simp
end Go.Proofs.Ytcpaaekghajalaa
