/- The laws ResolveWeakCuts and ResolveWeakAgain: true for every input. -/
import Derived.Test.YtcpaaekghajalaaV10
namespace Go.Proofs.Ytcpaaekghajalaa
open Go Go.Eng Go.RowKit

set_option maxHeartbeats 1000000 in
theorem lawWeakCuts_c (a b : List Int) (sos : Int) (right : Bool) (v u : Value) (w : World) (hv : Rd w v 1 cE a) (hu : Rd w u 1 cE b) :
    Calls Try.prog 12 #[v, u, .int .u8 sos, .bool right] w fun e w' => e = .returned (.bool true) ∧ Below w.heap.size w w' := by
  refine calls_exec (cf := cf) cfok (fn := Try.f12) Try.func12 rfl [.sl 0, .sl 1, .v (.int .u8 sos), .v (.bool right)] [.rd Int inferInstance 1 cE a, .rd Int inferInstance 1 cE b] (ρ := fun i => match i with | 0 => v | _ => u) (· < w.heap.size) rfl rfl rfl (by simp [svOkL, svOk]) (memRd (fun _ h => h) ⟨hv, hu, trivial⟩) ?_
  refine And.intro (fun h => ?_) (fun h => ?_)
  · exact Or.inl ⟨_, fun ρ S w' hm => arabic_c w', fun ρ S w' hi => ⟨rfl, hi.below⟩⟩
  have h : ¬ (a.length : Int) > 1500 ∧ ¬ (b.length : Int) > 1500 := by simpa using h
  have hl : a.length ≤ 1500 := by omega
  have hl2 : b.length ≤ 1500 := by omega
  refine And.intro (fun _ => ?_) (fun _ => ?_)
  · have hcut := weakX_cut a b sos 2 (.inr rfl)
    have e1 := weakX_len a sos
    have e2 := weakX_len b 2
    have e3 := weakX_len (a ++ [2] ++ b) sos
    have e4 : (a ++ [2] ++ b).length ≤ 3001 := by simp; omega
    refine Or.inr (lcall_fresh a (fun ρ S w' hm => own_c a _ w' (by omega) (hm.rd 0 rfl rfl)) ?_)
    refine ⟨[(2 : Int)], rowsRaw1 _, by show (a.length + 1) * 1 ≤ _; omega, ?_⟩
    refine Or.inr (lcall_fresh (weakX a sos) (fun ρ S w' hm => weak_c a sos _ w' (by omega) (hm.rd 0 rfl rfl)) ?_)
    refine Or.inr (lcall_fresh (weakX a sos) (fun ρ S w' hm => own_c _ _ w' (by omega) (hm.own 5 rfl rfl)) ?_)
    refine ⟨[(2 : Int)], rowsRaw1 _, by show ((weakX a sos).length + 1) * 1 ≤ _; omega, ?_⟩
    refine ⟨b, rowsRd _ b, by show ((a ++ [2]).length + b.length) * 1 ≤ _; simp; omega, ?_⟩
    refine Or.inr (lcall_fresh (weakX b 2) (fun ρ S w' hm => weak_c b 2 _ w' (by omega) (hm.rd 1 rfl rfl)) ?_)
    refine ⟨weakX b 2, rowsOwn _ _ _, by show ((weakX a sos ++ [2]).length + (weakX b 2).length) * 1 ≤ _; simp; omega, ?_⟩
    refine Or.inr (lcall_fresh (weakX (a ++ [2] ++ b) sos) (fun ρ S w' hm => weak_c _ sos _ w' (by omega) (hm.own 9 rfl rfl)) ?_)
    refine Or.inl ⟨_, fun ρ S w' hm => is_c (weakX (a ++ [2] ++ b) sos) (weakX a sos ++ [2] ++ weakX b 2) _ _ w' (by omega) (by rw [← hcut]; omega) (hm.own 12 rfl rfl) (hm.own 11 rfl rfl), ?_⟩
    refine Or.inl ⟨_, fun _ ρ S w' hm => arabic_c w', ?_⟩
    refine fun ρ S w' hi => ⟨?_, hi.below⟩
    show Ending.returned (.bool (decide (weakX (a ++ [2] ++ b) sos = weakX a sos ++ [2] ++ weakX b 2) && true)) = _
    rw [decide_eq_true hcut]; rfl
  · have hcut := weakX_cut a b sos 1 (.inl rfl)
    have e1 := weakX_len a sos
    have e2 := weakX_len b 1
    have e3 := weakX_len (a ++ [1] ++ b) sos
    have e4 : (a ++ [1] ++ b).length ≤ 3001 := by simp; omega
    refine Or.inr (lcall_fresh a (fun ρ S w' hm => own_c a _ w' (by omega) (hm.rd 0 rfl rfl)) ?_)
    refine ⟨[(1 : Int)], rowsRaw1 _, by show (a.length + 1) * 1 ≤ _; omega, ?_⟩
    refine Or.inr (lcall_fresh (weakX a sos) (fun ρ S w' hm => weak_c a sos _ w' (by omega) (hm.rd 0 rfl rfl)) ?_)
    refine Or.inr (lcall_fresh (weakX a sos) (fun ρ S w' hm => own_c _ _ w' (by omega) (hm.own 5 rfl rfl)) ?_)
    refine ⟨[(1 : Int)], rowsRaw1 _, by show ((weakX a sos).length + 1) * 1 ≤ _; omega, ?_⟩
    refine ⟨b, rowsRd _ b, by show ((a ++ [1]).length + b.length) * 1 ≤ _; simp; omega, ?_⟩
    refine Or.inr (lcall_fresh (weakX b 1) (fun ρ S w' hm => weak_c b 1 _ w' (by omega) (hm.rd 1 rfl rfl)) ?_)
    refine ⟨weakX b 1, rowsOwn _ _ _, by show ((weakX a sos ++ [1]).length + (weakX b 1).length) * 1 ≤ _; simp; omega, ?_⟩
    refine Or.inr (lcall_fresh (weakX (a ++ [1] ++ b) sos) (fun ρ S w' hm => weak_c _ sos _ w' (by omega) (hm.own 9 rfl rfl)) ?_)
    refine Or.inl ⟨_, fun ρ S w' hm => is_c (weakX (a ++ [1] ++ b) sos) (weakX a sos ++ [1] ++ weakX b 1) _ _ w' (by omega) (by rw [← hcut]; omega) (hm.own 12 rfl rfl) (hm.own 11 rfl rfl), ?_⟩
    refine Or.inl ⟨_, fun _ ρ S w' hm => arabic_c w', ?_⟩
    refine fun ρ S w' hi => ⟨?_, hi.below⟩
    show Ending.returned (.bool (decide (weakX (a ++ [1] ++ b) sos = weakX a sos ++ [1] ++ weakX b 1) && true)) = _
    rw [decide_eq_true hcut]; rfl

def plF (c : Int) : Bool := decide (c = 1 ∨ c = 2 ∨ c = 7 ∨ (c ≥ 11 ∧ c ≤ 14))
def plX (xs : List Int) : List Int := xs.filter plF
theorem plX_snoc (xs : List Int) (i : Nat) (h : i < xs.length) : plX (xs.take (i + 1)) = if plF (nth xs i) = true then plX (xs.take i) ++ [nth xs i] else plX (xs.take i) := by
  rw [take_succ_nth xs i h, plX, List.filter_append]
  cases hp : plF (nth xs i) <;> simp [hp, plX]

set_option maxHeartbeats 1000000 in
theorem lawWeakAgain_c (xs : List Int) (sos : Int) (v : Value) (w : World) (hv : Rd w v 1 cE xs) :
    Calls Try.prog 13 #[v, .int .u8 sos] w fun e w' => e = .returned (.bool true) ∧ Below w.heap.size w w' := by
  refine calls_exec (cf := cf) cfok (fn := Try.f13) Try.func13 rfl [.sl 0, .v (.int .u8 sos)] [.rd Int inferInstance 1 cE xs] (ρ := fun _ => v) (· < w.heap.size) rfl rfl rfl (by simp [svOkL, svOk]) (memRd (fun _ h => h) ⟨hv, trivial⟩) ?_
  refine And.intro (fun h => ?_) (fun h => ?_)
  · exact Or.inl ⟨_, fun ρ S w' hm => arabic_c w', fun ρ S w' hi => ⟨rfl, hi.below⟩⟩
  have hl : xs.length ≤ 3000 := by have : ¬ (xs.length : Int) > 3000 := by simpa using h
                                   omega
  have hn := weakX_len xs sos
  refine Or.inr (lcall_fresh (weakX xs sos) (fun ρ S w' hm => weak_c xs sos _ w' (by omega) (hm.rd 0 rfl rfl)) ?_)
  refine ⟨{ i : Nat // i ≤ xs.length }, fun i => ⟨76, [⟨0, [], .sl 0⟩, ⟨1, [], .v (.int .u8 sos)⟩, ⟨5, [], .sl 1⟩, ⟨6, [], .sl 2⟩, ⟨7, [], .v (.int .i64 i.1)⟩], [.rd Int inferInstance 1 cE xs, ow (weakX xs sos), ow (plX (xs.take i.1))], [], dropL nats 3⟩,
    fun i => xs.length - i.1, ⟨[0, 1, 1000], ⟨0, by omega⟩, ?_⟩, fun i => ?_⟩
  · exact And.intro (And.intro rfl (And.intro rfl (And.intro rfl (And.intro rfl (And.intro rfl trivial))))) (And.intro rfl (And.intro rfl (And.intro rfl trivial)))
  obtain ⟨i, hi⟩ := i
  have hpl : (plX (xs.take i)).length ≤ i := by
    have : (plX (xs.take i)).length ≤ (xs.take i).length := List.length_filter_le _ _
    simp at this; omega
  refine And.intro (fun hlt => ?_) (fun hge => ?_)
  · have hlt : i < xs.length := by simpa using hlt
    have hsn := plX_snoc xs i hlt
    have b1 : (0 : Int) ≤ (i : Int) ∧ (i : Int) < (xs.length : Nat) := ⟨by omega, by omega⟩
    refine And.intro b1 ?_
    refine And.intro (by first | exact fun _ => b1 | exact fun _ _ => b1 | exact fun _ _ _ => b1) ?_
    refine And.intro (by first | exact fun _ => b1 | exact fun _ _ => b1 | exact fun _ _ _ => b1) ?_
    refine And.intro (by first | exact fun _ => b1 | exact fun _ _ => b1 | exact fun _ _ _ => b1) ?_
    refine And.intro (by first | exact fun _ => b1 | exact fun _ _ => b1 | exact fun _ _ _ => b1) ?_
    refine And.intro (fun hc => ?_) (fun hc => ?_)
    · have hc : nth xs i = 1 ∨ nth xs i = 2 ∨ nth xs i = 7 ∨ (nth xs i ≥ 11 ∧ nth xs i ≤ 14) := by
        have : (((decide (nth xs i = 1) || decide (nth xs i = 2)) || decide (nth xs i = 7)) || (decide (nth xs i ≥ 11) && decide (nth xs i ≤ 14))) = true := hc
        simpa [or_assoc] using this
      rw [if_pos (by unfold plF; exact decide_eq_true hc)] at hsn
      refine And.intro b1 ?_
      refine ⟨_, rowsRaw1 _, by show ((plX (xs.take i)).length + 1) * 1 ≤ _; omega, ?_⟩
      exact ⟨[0, 1, 4], ⟨i + 1, hlt⟩, And.intro (And.intro rfl (And.intro rfl (And.intro rfl (And.intro rfl (And.intro (sv_i64 (i64_succ i (by omega))) trivial))))) (And.intro rfl (And.intro rfl (And.intro (ownEq hsn.symm) trivial))), by show _ - (i + 1) < _ - i; omega⟩
    · have hc : ¬ (nth xs i = 1 ∨ nth xs i = 2 ∨ nth xs i = 7 ∨ (nth xs i ≥ 11 ∧ nth xs i ≤ 14)) := by
        have : (((decide (nth xs i = 1) || decide (nth xs i = 2)) || decide (nth xs i = 7)) || (decide (nth xs i ≥ 11) && decide (nth xs i ≤ 14))) = false := hc
        intro hh
        rw [show (((decide (nth xs i = 1) || decide (nth xs i = 2)) || decide (nth xs i = 7)) || (decide (nth xs i ≥ 11) && decide (nth xs i ≤ 14))) = true from by simpa [or_assoc] using hh] at this
        cases this
      rw [if_neg (by unfold plF; rw [decide_eq_false hc]; simp)] at hsn
      exact ⟨[0, 1, 2], ⟨i + 1, hlt⟩, And.intro (And.intro rfl (And.intro rfl (And.intro rfl (And.intro rfl (And.intro (sv_i64 (i64_succ i (by omega))) trivial))))) (And.intro rfl (And.intro rfl (And.intro (ownEq hsn.symm) trivial))), by show _ - (i + 1) < _ - i; omega⟩
  · have hp := weakX_plain (plX (xs.take i)) sos (fun x hx => by have := (List.mem_filter.1 hx).2; simpa [plF] using this)
    refine Or.inr (lcall_fresh (weakX xs sos) (fun ρ S w' hm => weak_l (weakX xs sos) sos _ (weakX_again xs sos) _ w' (by omega) (hm.own 1 rfl rfl)) ?_)
    refine Or.inl ⟨_, fun ρ S w' hm => is_t _ _ _ w' (by omega) (hm.own 3 rfl rfl) (hm.own 1 rfl rfl), ?_⟩
    refine Or.inr (Or.inl ⟨And.intro rfl trivial, ?_⟩)
    refine Or.inr (lcall_fresh (plX (xs.take i)) (fun ρ S w' hm => weak_l (plX (xs.take i)) sos _ hp _ w' (by omega) (hm.own 2 rfl rfl)) ?_)
    refine Or.inl ⟨_, fun _ ρ S w' hm => is_t _ _ _ w' (by omega) (hm.own 4 rfl rfl) (hm.own 2 rfl rfl), ?_⟩
    refine Or.inl ⟨_, fun _ ρ S w' hm => arabic_c w', ?_⟩
    exact fun ρ S w' hi => ⟨rfl, hi.below⟩
end Go.Proofs.Ytcpaaekghajalaa
