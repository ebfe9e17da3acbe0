/- The law ResolveCuts: true for every input. -/
import Derived.Test.YtcpaaekghajalaaW11
namespace Go.Proofs.Ytcpaaekghajalaa
open Go Go.Eng Go.RowKit

/-! cuts -/
theorem bh_app (e c : Int) (b : List Int) (hc : tells c = true) : ∀ r, bh e (r ++ c :: b) = bh (sideF c) r
  | [] => by simp [bh, hc]
  | a :: r => by simp only [List.cons_append, bh, bh_app e c b hc r]
theorem fw_app (sd e c : Int) (b : List Int) (hc : tells c = true) : ∀ (d : Int) (a : List Int), fw sd e d (a ++ c :: b) = fw sd (sideF c) d a ++ c :: fw sd e (sideF c) b
  | d, [] => by simp [fw, hc, tells_neu hc]
  | d, x :: r => by simp only [List.cons_append, fw, bh_app e c b hc r, fw_app sd e c b hc _ r]
theorem neuX_cut (a b : List Int) (lv sos eos c : Int) (hc : c = 1 ∨ c = 2) : neuX (a ++ [c] ++ b) lv sos eos = neuX a lv sos c ++ [c] ++ neuX b lv c eos := by
  have h1 : tells c = true := by rcases hc with h | h <;> rw [h] <;> decide
  have h2 : sideF c = c := by rcases hc with h | h <;> rw [h] <;> decide
  have h3 : edgeF c = c := by rcases hc with h | h <;> rw [h] <;> decide
  unfold neuX
  rw [List.append_assoc, List.singleton_append, fw_app _ _ _ _ h1, h2, h3, List.append_assoc, List.singleton_append]
theorem fw_id (sd e : Int) : ∀ (d : Int) (xs : List Int), (∀ x ∈ xs, neuF x = false) → fw sd e d xs = xs
  | _, [], _ => rfl
  | d, c :: r, h => by
    simp only [fw, h c (by simp)]
    rw [fw_id sd e _ r (fun x hx => h x (by simp [hx]))]
    simp
theorem neuX_again (xs : List Int) (lv sos eos : Int) : neuX (neuX xs lv sos eos) lv sos eos = neuX xs lv sos eos := by
  refine fw_id _ _ _ _ fun x hx => ?_
  obtain ⟨i, hi, rfl⟩ := List.getElem_of_mem hx
  rw [← nth_eq _ _ hi]
  rw [neuX_len] at hi
  rcases neu_at xs lv sos eos i hi with ⟨h1, h2⟩ | ⟨_, h2, _⟩
  · rw [h2]; exact h1
  · rcases h2 with h | h <;> rw [h] <;> decide

set_option maxHeartbeats 1000000 in
theorem lawCuts_c (a b : List Int) (right : Bool) (lv sos eos : Int) (v u : Value) (w : World) (hlv : 0 ≤ lv ∧ lv ≤ 255) (hv : Rd w v 1 cE a) (hu : Rd w u 1 cE b) :
    Calls Try.prog 7 #[v, u, .bool right, .int .u8 lv, .int .u8 sos, .int .u8 eos] w fun e w' => e = .returned (.bool true) ∧ Below w.heap.size w w' := by
  refine calls_exec (cf := cf) cfok (fn := Try.f7) Try.func7 rfl [.sl 0, .sl 1, .v (.bool right), .v (.int .u8 lv), .v (.int .u8 sos), .v (.int .u8 eos)] [.rd Int inferInstance 1 cE a, .rd Int inferInstance 1 cE b] (ρ := fun i => match i with | 0 => v | _ => u) (· < w.heap.size) rfl rfl rfl (by simp [svOkL, svOk]) (memRd (fun _ h => h) ⟨hv, hu, trivial⟩) ?_
  refine And.intro (fun h => ?_) (fun h => ?_)
  · exact Or.inl ⟨_, fun ρ S w' hm => works_c w', fun ρ S w' hi => ⟨rfl, hi.below⟩⟩
  have h : ¬ (a.length : Int) > 1500 ∧ ¬ (b.length : Int) > 1500 := by simpa using h
  have hl : a.length ≤ 1500 := by omega
  have hl2 : b.length ≤ 1500 := by omega
  have rest : ∀ c : Int, c = 1 ∨ c = 2 → neuX (a ++ [c] ++ b) lv sos eos = neuX a lv sos c ++ [c] ++ neuX b lv c eos := fun c hc => neuX_cut a b lv sos eos c hc
  refine And.intro (fun _ => ?_) (fun _ => ?_)
  · have hcut := rest 2 (.inr rfl)
    have e1 := neuX_len a lv sos 2
    have e2 := neuX_len b lv 2 eos
    have e3 := neuX_len (a ++ [2] ++ b) lv sos eos
    have e4 : (a ++ [2] ++ b).length ≤ 3001 := by simp; omega
    refine Or.inr (lcall_fresh a (fun ρ S w' hm => own_c a _ w' (by omega) (hm.rd 0 rfl rfl)) ?_)
    refine ⟨[(2 : Int)], rowsRaw1 _, by show (a.length + 1) * 1 ≤ _; omega, ?_⟩
    refine Or.inr (lcall_fresh (neuX a lv sos 2) (fun ρ S w' hm => neu_c a lv sos 2 _ w' (by omega) hlv (hm.rd 0 rfl rfl)) ?_)
    refine Or.inr (lcall_fresh (neuX a lv sos 2) (fun ρ S w' hm => own_c _ _ w' (by omega) (hm.own 5 rfl rfl)) ?_)
    refine ⟨[(2 : Int)], rowsRaw1 _, by show ((neuX a lv sos 2).length + 1) * 1 ≤ _; omega, ?_⟩
    refine ⟨b, rowsRd _ b, by show ((a ++ [2]).length + b.length) * 1 ≤ _; simp; omega, ?_⟩
    refine Or.inr (lcall_fresh (neuX b lv 2 eos) (fun ρ S w' hm => neu_c b lv 2 eos _ w' (by omega) hlv (hm.rd 1 rfl rfl)) ?_)
    refine ⟨neuX b lv 2 eos, rowsOwn _ _ _, by show ((neuX a lv sos 2 ++ [2]).length + (neuX b lv 2 eos).length) * 1 ≤ _; simp; omega, ?_⟩
    refine Or.inr (lcall_fresh (neuX (a ++ [2] ++ b) lv sos eos) (fun ρ S w' hm => neu_c _ lv sos eos _ w' (by omega) hlv (hm.own 9 rfl rfl)) ?_)
    refine Or.inl ⟨_, fun ρ S w' hm => is_c (neuX (a ++ [2] ++ b) lv sos eos) (neuX a lv sos 2 ++ [2] ++ neuX b lv 2 eos) _ _ w' (by omega) (by rw [← hcut]; omega) (hm.own 12 rfl rfl) (hm.own 11 rfl rfl), ?_⟩
    refine Or.inr (Or.inl ⟨And.intro (by show decide _ = true; rw [hcut]; simp) trivial, ?_⟩)
    refine Or.inr (lcall_fresh (neuX (a ++ [2] ++ b) lv sos eos) (fun ρ S w' hm => (neu_c _ lv sos eos _ w' (by omega) hlv (hm.own 12 rfl rfl)).mono fun e w'' h => by rw [neuX_again] at h; exact h) ?_)
    refine Or.inl ⟨_, fun _ ρ S w' hm => is_c (neuX (a ++ [2] ++ b) lv sos eos) (neuX (a ++ [2] ++ b) lv sos eos) _ _ w' (by omega) (by omega) (hm.own 13 rfl rfl) (hm.own 12 rfl rfl), ?_⟩
    refine Or.inl ⟨_, fun _ ρ S w' hm => works_c w', ?_⟩
    refine fun ρ S w' hi => ⟨?_, hi.below⟩
    show Ending.returned (.bool ((decide (neuX (a ++ [2] ++ b) lv sos eos = neuX a lv sos 2 ++ [2] ++ neuX b lv 2 eos) && decide (neuX (a ++ [2] ++ b) lv sos eos = neuX (a ++ [2] ++ b) lv sos eos)) && true)) = _
    rw [decide_eq_true hcut]; simp
  · have hcut := rest 1 (.inl rfl)
    have e1 := neuX_len a lv sos 1
    have e2 := neuX_len b lv 1 eos
    have e3 := neuX_len (a ++ [1] ++ b) lv sos eos
    have e4 : (a ++ [1] ++ b).length ≤ 3001 := by simp; omega
    refine Or.inr (lcall_fresh a (fun ρ S w' hm => own_c a _ w' (by omega) (hm.rd 0 rfl rfl)) ?_)
    refine ⟨[(1 : Int)], rowsRaw1 _, by show (a.length + 1) * 1 ≤ _; omega, ?_⟩
    refine Or.inr (lcall_fresh (neuX a lv sos 1) (fun ρ S w' hm => neu_c a lv sos 1 _ w' (by omega) hlv (hm.rd 0 rfl rfl)) ?_)
    refine Or.inr (lcall_fresh (neuX a lv sos 1) (fun ρ S w' hm => own_c _ _ w' (by omega) (hm.own 5 rfl rfl)) ?_)
    refine ⟨[(1 : Int)], rowsRaw1 _, by show ((neuX a lv sos 1).length + 1) * 1 ≤ _; omega, ?_⟩
    refine ⟨b, rowsRd _ b, by show ((a ++ [1]).length + b.length) * 1 ≤ _; simp; omega, ?_⟩
    refine Or.inr (lcall_fresh (neuX b lv 1 eos) (fun ρ S w' hm => neu_c b lv 1 eos _ w' (by omega) hlv (hm.rd 1 rfl rfl)) ?_)
    refine ⟨neuX b lv 1 eos, rowsOwn _ _ _, by show ((neuX a lv sos 1 ++ [1]).length + (neuX b lv 1 eos).length) * 1 ≤ _; simp; omega, ?_⟩
    refine Or.inr (lcall_fresh (neuX (a ++ [1] ++ b) lv sos eos) (fun ρ S w' hm => neu_c _ lv sos eos _ w' (by omega) hlv (hm.own 9 rfl rfl)) ?_)
    refine Or.inl ⟨_, fun ρ S w' hm => is_c (neuX (a ++ [1] ++ b) lv sos eos) (neuX a lv sos 1 ++ [1] ++ neuX b lv 1 eos) _ _ w' (by omega) (by rw [← hcut]; omega) (hm.own 12 rfl rfl) (hm.own 11 rfl rfl), ?_⟩
    refine Or.inr (Or.inl ⟨And.intro (by show decide _ = true; rw [hcut]; simp) trivial, ?_⟩)
    refine Or.inr (lcall_fresh (neuX (a ++ [1] ++ b) lv sos eos) (fun ρ S w' hm => (neu_c _ lv sos eos _ w' (by omega) hlv (hm.own 12 rfl rfl)).mono fun e w'' h => by rw [neuX_again] at h; exact h) ?_)
    refine Or.inl ⟨_, fun _ ρ S w' hm => is_c (neuX (a ++ [1] ++ b) lv sos eos) (neuX (a ++ [1] ++ b) lv sos eos) _ _ w' (by omega) (by omega) (hm.own 13 rfl rfl) (hm.own 12 rfl rfl), ?_⟩
    refine Or.inl ⟨_, fun _ ρ S w' hm => works_c w', ?_⟩
    refine fun ρ S w' hi => ⟨?_, hi.below⟩
    show Ending.returned (.bool ((decide (neuX (a ++ [1] ++ b) lv sos eos = neuX a lv sos 1 ++ [1] ++ neuX b lv 1 eos) && decide (neuX (a ++ [1] ++ b) lv sos eos = neuX (a ++ [1] ++ b) lv sos eos)) && true)) = _
    rw [decide_eq_true hcut]; simp
end Go.Proofs.Ytcpaaekghajalaa
