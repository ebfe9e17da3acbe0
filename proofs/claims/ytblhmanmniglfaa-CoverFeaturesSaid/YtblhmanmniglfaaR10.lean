/- cover.PutClasses walked, and the reference's. -/
import Derived.Test.YtblhmanmniglfaaR9
namespace Go.Proofs.Ytblhmanmniglfaa
open Go Go.Eng Go.RowKit

theorem runB (l : List Int) (i k : Nat) (hk : k ≤ l.length) (x : Bool) (h : (decide ((k : Int) < (l.length : Int)) && decide (nth l k = nth l i)) = x) : (k < l.length ∧ nth l k = nth l i) ↔ x = true := by
  subst h
  rw [Bool.and_eq_true, decide_eq_true_iff, decide_eq_true_iff]
  omega

set_option maxHeartbeats 1000000 in
theorem pcl_c (l : List Int) (v : Value) (w : World) (hl : l.length ≤ 1000 ∨ l.length > 65535) (hv : Rd w v 1 bE l) : Calls Try.prog 15 #[v] w (OutB (pclX l) 2 w) := by
  refine calls_exec (cf := cf) cfok (fn := Try.f15) Try.func15 rfl [.sl 0] [.rd Int inferInstance 1 bE l] (ρ := fun _ => v) (· < w.heap.size) rfl rfl rfl (by simp [svOkL, svOk]) (memRd (fun _ h => h) ⟨hv, trivial⟩) ?_
  refine Or.inl ⟨.int .u8 (mxF l l.length), fun g1 g2 ρ S w hm => ?_, ?_⟩
  · have g1 : decide ((l.length : Int) > 0) = true := g1
    have g1 : (l.length : Int) > 0 := of_decide_eq_true g1
    have g2 : decide ((l.length : Int) > 65535) = false := g2
    have g2 : ¬ (l.length : Int) > 65535 := of_decide_eq_false g2
    exact max_c l _ w (by omega) (by omega) (hm.rd 0 rfl rfl)
  have hr0 : ∀ x : Bool, (decide ((l.length : Int) > 65535) || (decide ((l.length : Int) > 0) && decide (mxF l l.length > 4))) = x → ((l.length > 65535 ∨ ∃ j, j < l.length ∧ nth l j > 4) ↔ x = true) := fun x h => by
    subst h
    rw [Bool.or_eq_true, Bool.and_eq_true, decide_eq_true_iff, decide_eq_true_iff, decide_eq_true_iff]
    rcases Nat.eq_zero_or_pos l.length with h0 | hpos
    · rw [h0]
      refine ⟨fun h => ?_, fun h => ?_⟩
      · rcases h with h | ⟨j, hj, _⟩ <;> omega
      · rcases h with h | ⟨h, _⟩ <;> omega
    · rw [mxF_gt l 4 l.length hpos]
      refine ⟨fun h => ?_, fun h => ?_⟩
      · rcases h with h | h
        · left; omega
        · right; exact ⟨by omega, h⟩
      · rcases h with h | ⟨_, h⟩
        · left; omega
        · right; exact h
  refine And.intro (fun h => ?_) (fun h => ?_)
  · have e : pclX l = none := by unfold pclX; rw [if_pos ((hr0 true h).2 rfl)]
    rw [e]
    exact fun ρ S w' hi => ⟨_, rfl, hi.below, Fresh.nil _ _ _ _ _⟩
  have h : ¬ (l.length > 65535 ∨ ∃ j, j < l.length ∧ nth l j > 4) := fun h' => Bool.noConfusion ((hr0 false h).1 h')
  have hc : pclX l = some ([0, 2] ++ tw (((rowsF l 0).length / 6 : Nat) : Int) ++ rowsF l 0) := by unfold pclX; rw [if_neg h]
  have hl : l.length ≤ 1000 := by
    rcases hl with h1 | h1
    · exact h1
    · exact absurd (.inl h1) h
  refine ⟨RS l, fun s => ⟨76, [⟨0, [], .sl 0⟩, ⟨4, [], .sl 1⟩, ⟨5, [], .v (.int .i64 (s.i : Int))⟩], [.rd Int inferInstance 1 bE l, .own 5 Int inferInstance 1 bE ([0, 2, 0, 0] ++ s.acc)], [], dropL nats 2⟩,
    fun s => l.length - s.i, ⟨[0, 1], RS.init l, ?_⟩, fun s => ?_⟩
  · exact And.intro (And.intro rfl (And.intro rfl (And.intro rfl trivial))) (And.intro rfl (And.intro ⟨rfl, rfl, rfl, rfl, fun y hy => rfl⟩ trivial))
  have hi := s.hi
  refine And.intro (fun hlt => ?_) (fun hge => ?_)
  · have hlt : s.i < l.length := by have : (s.i : Int) < (l.length : Int) := of_decide_eq_true hlt
                                    omega
    have hE := endR_self l s.i hlt
    have hE2 := endR_le l s.i s.i hi
    have ham : s.acc.length ≤ 6000 := by have := s.hm; have := s.hmi; omega
    refine ⟨{ k : Nat // k ≤ l.length ∧ s.i ≤ k ∧ endR l s.i k = endR l s.i s.i }, fun k => ⟨76, [⟨0, [], .sl 0⟩, ⟨4, [], .sl 1⟩, ⟨5, [], .v (.int .i64 (s.i : Int))⟩, ⟨6, [], .v (.int .i64 (k.1 : Int))⟩], [.rd Int inferInstance 1 bE l, .own 5 Int inferInstance 1 bE ([0, 2, 0, 0] ++ s.acc)], [], dropL nats 2⟩,
      fun k => l.length - k.1, ⟨[0, 1], ⟨s.i, hi, Nat.le_refl _, rfl⟩, ?_⟩, fun k => ?_⟩
    · exact And.intro (And.intro rfl (And.intro rfl (And.intro rfl (And.intro rfl trivial)))) (And.intro rfl (And.intro rfl trivial))
    obtain ⟨k, hk, hik, hke⟩ := k
    refine Or.inl ⟨by kernel_rfl, ?_⟩
    refine And.intro (fun g => ?_) ?_
    · have g : (k : Int) < (l.length : Int) := of_decide_eq_true g
      exact (show (0 : Int) ≤ (k : Int) ∧ (k : Int) < (l.length : Int) from ⟨by omega, g⟩)
    refine And.intro (fun g => ?_) ?_
    · exact (show (0 : Int) ≤ (s.i : Int) ∧ (s.i : Int) < (l.length : Int) from ⟨by omega, by omega⟩)
    refine And.intro (fun g => ?_) (fun g => ?_)
    · have g : k < l.length ∧ nth l k = nth l s.i := (runB l s.i k hk true g).2 rfl
      exact ⟨[0, 1], ⟨k + 1, g.1, by omega, by rw [← hke]; exact (endR_step l s.i k g.1 g.2).symm⟩, And.intro (And.intro rfl (And.intro rfl (And.intro rfl (And.intro (svI (i64_succ k (by omega))) trivial)))) (And.intro rfl (And.intro rfl trivial)), by show _ - (k + 1) < _ - k; omega⟩
    · have g : ¬ (k < l.length ∧ nth l k = nth l s.i) := fun h' => Bool.noConfusion ((runB l s.i k hk false g).1 h')
      have hkE : k = endR l s.i s.i := by rw [← hke]; exact (endR_stop l s.i k g).symm
      refine And.intro (show (0 : Int) ≤ (s.i : Int) ∧ (s.i : Int) < (l.length : Int) from ⟨by omega, by omega⟩) ?_
      refine And.intro (fun hz => ?_) (fun hz => ?_)
      · have hz : (!decide (nth l (s.i : Int).toNat = 0)) = true := hz
        rw [Bool.not_eq_true', decide_eq_false_iff_not, Int.toNat_natCast] at hz
        have hk1 : IntKind.i64.wrap ((k : Int) - 1) = (endR l s.i s.i : Int) - 1 := by rw [i64_id _ (by omega) (by omega), hkE]
        refine Or.inr (Or.inr (Or.inr ⟨[0, 1, 3, 4, 6, 7, 8, 9, 10], [2, 5, 11], [12], [(1, none)], by kernel_rfl, ?_⟩))
        refine ⟨_, ⟨rfl, rfl⟩, fun xs => ⟨rfl, rfl⟩, ?_⟩
        refine ⟨_, ⟨rfl, rfl⟩, fun xs => ⟨rfl, rfl⟩, ?_⟩
        refine ⟨_, ⟨rfl, rfl⟩, fun xs => ⟨rfl, rfl⟩, ?_⟩
        refine ⟨_, ⟨rfl, rfl⟩, fun xs => ⟨rfl, rfl⟩, ?_⟩
        refine ⟨_, ⟨rfl, rfl⟩, fun xs => ⟨rfl, rfl⟩, ?_⟩
        refine ⟨_, ⟨rfl, rfl⟩, fun xs => ⟨rfl, rfl⟩, ?_⟩
        have hbd : (0 : Int) ≤ (s.i : Int) ∧ (s.i : Int) < (l.length : Int) := ⟨by omega, by omega⟩
        refine ⟨_, ⟨hbd, rfl, rfl⟩, fun xs => ⟨hbd, rfl, rfl⟩, ?_⟩
        refine ⟨_, ⟨rfl, rfl⟩, fun xs => ⟨rfl, rfl⟩, ?_⟩
        refine ⟨_, ⟨rfl, rfl⟩, fun xs => ⟨rfl, rfl⟩, ?_⟩
        refine Or.inr (lcall_sub [1] (two_s ([0, 2, 0, 0] ++ s.acc) s.i (by rw [List.length_append]; show 4 + _ ≤ _; omega)) rfl rfl rfl rfl rfl ⟨rfl, trivial⟩ ?_)
        refine ⟨rfl, fun xs => rfl, ?_⟩
        refine Or.inr (lcall_sub [2] (two_s ([0, 2, 0, 0] ++ s.acc ++ tw s.i) (IntKind.i64.wrap ((k : Int) - 1)) (by rw [List.length_append, List.length_append, tw_len]; show 4 + _ + 2 ≤ _; omega)) rfl rfl rfl rfl rfl ⟨rfl, trivial⟩ ?_)
        refine ⟨rfl, fun xs => rfl, ?_⟩
        refine Or.inr (lcall_sub [3] (two_s ([0, 2, 0, 0] ++ s.acc ++ tw s.i ++ tw (IntKind.i64.wrap ((k : Int) - 1))) (IntKind.i64.wrap (nth l s.i)) (by rw [List.length_append, List.length_append, List.length_append, tw_len, tw_len]; show 4 + _ + 2 + 2 ≤ _; omega)) rfl rfl rfl rfl rfl ⟨rfl, trivial⟩ ?_)
        refine ⟨rfl, fun xs => rfl, ?_⟩
        have hrow : [0, 2, 0, 0] ++ s.acc ++ tw s.i ++ tw (IntKind.i64.wrap ((k : Int) - 1)) ++ tw (IntKind.i64.wrap (nth l s.i)) = [0, 2, 0, 0] ++ (s.acc ++ rowR l s.i) := by
          unfold rowR
          rw [if_neg hz, hk1]
          simp only [List.append_assoc]
        exact ⟨[0, 4], s.next hlt, And.intro (And.intro rfl (And.intro rfl (And.intro (svI (congrArg (fun n : Nat => (n : Int)) hkE)) trivial))) (And.intro rfl (And.intro (congrArg (Chunk.own 5 Int inferInstance 1 bE) hrow) trivial)), by show _ - endR l s.i s.i < _ - s.i; omega⟩
      · have hz : (!decide (nth l (s.i : Int).toNat = 0)) = false := hz
        rw [Bool.not_eq_false', decide_eq_true_iff, Int.toNat_natCast] at hz
        have hrow : [0, 2, 0, 0] ++ s.acc = [0, 2, 0, 0] ++ (s.acc ++ rowR l s.i) := by
          unfold rowR
          rw [if_pos hz, List.append_nil]
        exact ⟨[0, 1], s.next hlt, And.intro (And.intro rfl (And.intro rfl (And.intro (svI (congrArg (fun n : Nat => (n : Int)) hkE)) trivial))) (And.intro rfl (And.intro (congrArg (Chunk.own 5 Int inferInstance 1 bE) hrow) trivial)), by show _ - endR l s.i s.i < _ - s.i; omega⟩
  · have hge : s.i = l.length := by have : ¬ (s.i : Int) < (l.length : Int) := of_decide_eq_false hge
                                    omega
    obtain ⟨h1, h2⟩ := s.done hge
    have hm := s.hm
    have hmi := s.hmi
    have hln : (([0, 2, 0, 0] ++ s.acc).length : Int) = 4 + 6 * s.m := by rw [List.length_append, hm]; show ((4 + 6 * s.m : Nat) : Int) = _; omega
    have hq : IntKind.i64.wrap ((IntKind.i64.wrap ((([0, 2, 0, 0] ++ s.acc).length : Int) - 4)).tdiv 6) = (s.m : Int) := by
      rw [hln, i64_id (4 + 6 * (s.m : Int) - 4) (by omega) (by omega), Int.tdiv_eq_ediv_of_nonneg (by omega), i64_id _ (by omega) (by omega)]
      omega
    have h2lt : (2 : Int) < (([0, 2, 0, 0] ++ s.acc).length : Int) := by rw [hln]; omega
    have h3lt : (3 : Int) < (([0, 2, 0, 0] ++ s.acc).length : Int) := by rw [hln]; omega
    refine And.intro (show (6 : Int) ≠ 0 by decide) ?_
    refine And.intro (show (0 : Int) ≤ 8 by decide) ?_
    refine And.intro ⟨by decide, h2lt⟩ ?_
    refine ⟨_, rfl, rfl, ?_⟩
    refine And.intro ⟨by decide, by rw [List.length_set]; exact h3lt⟩ ?_
    refine ⟨_, rfl, rfl, ?_⟩
    rw [hc]
    have hfin : (([0, 2, 0, 0] ++ s.acc).set (2 : Int).toNat (IntKind.u8.wrap (shrV .i64 (IntKind.i64.wrap ((IntKind.i64.wrap ((([0, 2, 0, 0] ++ s.acc).length : Int) - 4)).tdiv 6)) 8))).set (3 : Int).toNat (IntKind.u8.wrap (IntKind.i64.wrap ((IntKind.i64.wrap ((([0, 2, 0, 0] ++ s.acc).length : Int) - 4)).tdiv 6))) = [0, 2] ++ tw (((rowsF l 0).length / 6 : Nat) : Int) ++ rowsF l 0 := by
      rw [hq, ← h2, ← h1]; rfl
    exact fun ρ S w' hi => ⟨_, rfl, hi.below, by
      show Fresh _ _ _ 5 1 bE ([0, 2] ++ tw (((rowsF l 0).length / 6 : Nat) : Int) ++ rowsF l 0)
      rw [← hfin]
      exact hi.fresh 1 flatB rfl rfl⟩

set_option maxHeartbeats 1000000 in
theorem rpcl_c (l : List Int) (v : Value) (w : World) (hl : l.length ≤ 1000 ∨ l.length > 65535) (hv : Rd w v 1 bE l) : Calls Try.prog 16 #[v] w (OutB (pclX l) 2 w) := by
  refine calls_exec (cf := cf) cfok (fn := Try.f16) Try.func16 rfl [.sl 0] [.rd Int inferInstance 1 bE l] (ρ := fun _ => v) (· < w.heap.size) rfl rfl rfl (by simp [svOkL, svOk]) (memRd (fun _ h => h) ⟨hv, trivial⟩) ?_
  refine And.intro (fun h => ?_) (fun h => ?_)
  · have h : (l.length : Int) > 65535 := of_decide_eq_true h
    have e : pclX l = none := by unfold pclX; rw [if_pos (.inl (by omega))]
    rw [e]
    exact fun ρ S w' hi => ⟨_, rfl, hi.below, Fresh.nil _ _ _ _ _⟩
  have h : ¬ (l.length : Int) > 65535 := of_decide_eq_false h
  have hl : l.length ≤ 1000 := by omega
  refine ⟨{ s : RS l // ∀ j, j < s.i → nth l j ≤ 4 }, fun s => ⟨71, [⟨0, [], .sl 0⟩, ⟨4, [], .sl 1⟩, ⟨5, [], .v (.int .i64 (s.1.m : Int))⟩, ⟨6, [], .v (.int .i64 (s.1.i : Int))⟩], [.rd Int inferInstance 1 bE l, .own 5 Int inferInstance 1 bE s.1.acc], [], dropL nats 2⟩,
    fun s => l.length - s.1.i, ⟨[0, 1000], ⟨RS.init l, fun j hj => absurd hj (Nat.not_lt_zero _)⟩, ?_⟩, fun s => ?_⟩
  · exact And.intro (And.intro rfl (And.intro rfl (And.intro rfl (And.intro rfl trivial)))) (And.intro rfl (And.intro rfl trivial))
  obtain ⟨s, hs⟩ := s
  have hi := s.hi
  refine And.intro (fun hlt => ?_) (fun hge => ?_)
  · have hlt : s.i < l.length := by have : (s.i : Int) < (l.length : Int) := of_decide_eq_true hlt
                                    omega
    have hE := endR_self l s.i hlt
    have hE2 := endR_le l s.i s.i hi
    have ham : s.acc.length ≤ 6000 := by have := s.hm; have := s.hmi; omega
    have hm6 : s.m ≤ 1000 := by have := s.hmi; omega
    have hbd : (0 : Int) ≤ (s.i : Int) ∧ (s.i : Int) < (l.length : Int) := ⟨by omega, by omega⟩
    refine And.intro hbd ?_
    refine And.intro (fun h4 => ?_) (fun h4 => ?_)
    · have h4 : nth l (s.i : Int).toNat > 4 := of_decide_eq_true h4
      rw [Int.toNat_natCast] at h4
      have e : pclX l = none := by unfold pclX; rw [if_pos (.inr ⟨s.i, hlt, h4⟩)]
      rw [e]
      exact fun ρ S w' hi => ⟨_, rfl, hi.below, Fresh.nil _ _ _ _ _⟩
    have h4 : ¬ nth l (s.i : Int).toNat > 4 := of_decide_eq_false h4
    rw [Int.toNat_natCast] at h4
    have hs' : ∀ j, j < endR l s.i s.i → nth l j ≤ 4 := fun j hj => by
      by_cases e : j < s.i
      · exact hs j e
      · rw [endR_same l s.i s.i j (by omega) hj]; omega
    refine ⟨{ k : Nat // k ≤ l.length ∧ s.i ≤ k ∧ endR l s.i k = endR l s.i s.i }, fun k => ⟨71, [⟨0, [], .sl 0⟩, ⟨4, [], .sl 1⟩, ⟨5, [], .v (.int .i64 (s.m : Int))⟩, ⟨6, [], .v (.int .i64 (s.i : Int))⟩, ⟨7, [], .v (.int .i64 (k.1 : Int))⟩], [.rd Int inferInstance 1 bE l, .own 5 Int inferInstance 1 bE s.acc], [], dropL nats 2⟩,
      fun k => l.length - k.1, ⟨[0, 1], ⟨s.i, hi, Nat.le_refl _, rfl⟩, ?_⟩, fun k => ?_⟩
    · exact And.intro (And.intro rfl (And.intro rfl (And.intro rfl (And.intro rfl (And.intro rfl trivial))))) (And.intro rfl (And.intro rfl trivial))
    obtain ⟨k, hk, hik, hke⟩ := k
    refine Or.inl ⟨by kernel_rfl, ?_⟩
    refine And.intro (fun g => ?_) ?_
    · have g : (k : Int) < (l.length : Int) := of_decide_eq_true g
      exact (show (0 : Int) ≤ (k : Int) ∧ (k : Int) < (l.length : Int) from ⟨by omega, g⟩)
    refine And.intro (fun g => hbd) ?_
    refine And.intro (fun g => ?_) (fun g => ?_)
    · have g : k < l.length ∧ nth l k = nth l s.i := (runB l s.i k hk true g).2 rfl
      exact ⟨[0, 1], ⟨k + 1, g.1, by omega, by rw [← hke]; exact (endR_step l s.i k g.1 g.2).symm⟩, And.intro (And.intro rfl (And.intro rfl (And.intro rfl (And.intro rfl (And.intro (svI (i64_succ k (by omega))) trivial))))) (And.intro rfl (And.intro rfl trivial)), by show _ - (k + 1) < _ - k; omega⟩
    · have g : ¬ (k < l.length ∧ nth l k = nth l s.i) := fun h' => Bool.noConfusion ((runB l s.i k hk false g).1 h')
      have hkE : k = endR l s.i s.i := by rw [← hke]; exact (endR_stop l s.i k g).symm
      refine And.intro hbd ?_
      refine And.intro (fun hz => ?_) (fun hz => ?_)
      · have hz : (!decide (nth l (s.i : Int).toNat = 0)) = true := hz
        rw [Bool.not_eq_true', decide_eq_false_iff_not, Int.toNat_natCast] at hz
        have hk1 : IntKind.i64.wrap ((k : Int) - 1) = (endR l s.i s.i : Int) - 1 := by rw [i64_id _ (by omega) (by omega), hkE]
        refine Or.inr (lcall_fresh (tw s.i) (fun ρ S w hm => rtwo_c _ w) ?_)
        refine ⟨tw s.i, ⟨rfl, rfl, fun i _ => ⟨rfl, rfl⟩⟩, by show (s.acc.length + 2) * 1 ≤ _; omega, ?_⟩
        refine Or.inr (lcall_fresh (tw (IntKind.i64.wrap ((k : Int) - 1))) (fun ρ S w hm => rtwo_c _ w) ?_)
        refine ⟨tw (IntKind.i64.wrap ((k : Int) - 1)), ⟨rfl, rfl, fun i _ => ⟨rfl, rfl⟩⟩, by show ((s.acc ++ tw _).length + 2) * 1 ≤ _; rw [List.length_append, tw_len]; omega, ?_⟩
        refine And.intro hbd ?_
        refine Or.inr (lcall_fresh (tw (IntKind.i64.wrap (nth l s.i))) (fun ρ S w hm => rtwo_c _ w) ?_)
        refine ⟨tw (IntKind.i64.wrap (nth l s.i)), ⟨rfl, rfl, fun i _ => ⟨rfl, rfl⟩⟩, by show ((s.acc ++ tw _ ++ tw _).length + 2) * 1 ≤ _; rw [List.length_append, List.length_append, tw_len, tw_len]; omega, ?_⟩
        have hrow : s.acc ++ tw s.i ++ tw (IntKind.i64.wrap ((k : Int) - 1)) ++ tw (IntKind.i64.wrap (nth l s.i)) = s.acc ++ rowR l s.i := by
          unfold rowR
          rw [if_neg hz, hk1]
          simp only [List.append_assoc]
        have hmm : (s.next hlt).m = s.m + 1 := if_neg hz
        exact ⟨[0, 7], ⟨s.next hlt, hs'⟩, And.intro (And.intro rfl (And.intro rfl (And.intro (svI (by rw [i64_succ s.m (by omega), hmm])) (And.intro (svI (congrArg (fun n : Nat => (n : Int)) hkE)) trivial)))) (And.intro rfl (And.intro (congrArg (Chunk.own 5 Int inferInstance 1 bE) hrow) trivial)), by show _ - endR l s.i s.i < _ - s.i; omega⟩
      · have hz : (!decide (nth l (s.i : Int).toNat = 0)) = false := hz
        rw [Bool.not_eq_false', decide_eq_true_iff, Int.toNat_natCast] at hz
        have hrow : s.acc = s.acc ++ rowR l s.i := by
          unfold rowR
          rw [if_pos hz, List.append_nil]
        have hmm : (s.next hlt).m = s.m := if_pos hz
        exact ⟨[0, 1], ⟨s.next hlt, hs'⟩, And.intro (And.intro rfl (And.intro rfl (And.intro (svI (by rw [hmm])) (And.intro (svI (congrArg (fun n : Nat => (n : Int)) hkE)) trivial)))) (And.intro rfl (And.intro (congrArg (Chunk.own 5 Int inferInstance 1 bE) hrow) trivial)), by show _ - endR l s.i s.i < _ - s.i; omega⟩
  · have hge : s.i = l.length := by have : ¬ (s.i : Int) < (l.length : Int) := of_decide_eq_false hge
                                    omega
    obtain ⟨h1, h2⟩ := s.done hge
    have hm := s.hm
    have hmi := s.hmi
    have hc : pclX l = some ([0, 2] ++ tw (((rowsF l 0).length / 6 : Nat) : Int) ++ rowsF l 0) := by
      unfold pclX
      rw [if_neg (fun h' => by
        rcases h' with h' | ⟨j, hj, h'⟩
        · omega
        · have := hs j (by omega); omega)]
    rw [hc, ← h2, ← h1]
    refine Or.inr (lcall_fresh (tw s.m) (fun ρ S w hm => rtwo_c _ w) ?_)
    refine ⟨Int, inferInstance, bE, [0, 2], tw s.m, And.intro rfl (And.intro rfl (fun y hy => rfl)), ⟨rfl, rfl, fun i _ => ⟨rfl, rfl⟩⟩, by show (2 + 2) * 1 ≤ _; decide, ?_⟩
    refine ⟨s.acc, ⟨rfl, rfl, fun i _ => ⟨rfl, rfl⟩⟩, by show (4 + s.acc.length) * 1 ≤ _; omega, ?_⟩
    exact fun ρ S w' hi => ⟨_, rfl, hi.below, hi.fresh 5 flatB rfl rfl⟩
end Go.Proofs.Ytblhmanmniglfaa
