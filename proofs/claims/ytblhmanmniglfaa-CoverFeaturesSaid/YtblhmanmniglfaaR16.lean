/- The law CoverBoth walked. -/
import Derived.Test.YtblhmanmniglfaaR15
namespace Go.Proofs.Ytblhmanmniglfaa
open Go Go.Eng Go.RowKit

theorem upB (l : List Int) (i : Nat) (hi : i < l.length) (hll : l.length ≤ 65535) (x : Bool) (hx : (decide ((i : Int) > 0) && decide (nth l (i : Int).toNat ≤ nth l (IntKind.i64.wrap ((i : Int) - 1)).toNat)) = x) : upF l i = !x := by
  subst hx
  unfold upF
  rw [Int.toNat_natCast]
  by_cases hz : (i : Int) > 0
  · rw [i64_id _ (by omega) (by omega), show ((i : Int) - 1).toNat = i - 1 from by omega]
  · rw [decide_eq_false hz]; rfl

set_option maxHeartbeats 1000000 in
theorem both_c (l : List Int) (v : Value) (w : World) (hl : ∀ x ∈ l, 0 ≤ x ∧ x ≤ 65535) (hv : Rd w v 1 hE l) :
    Calls Try.prog 3 #[v] w fun e w' => e = .returned (.bool true) ∧ Below w.heap.size w w' := by
  refine calls_exec (cf := cf) cfok (fn := Try.f3) Try.func3 rfl [.sl 0] [.rd Int inferInstance 1 hE l] (ρ := fun _ => v) (· < w.heap.size) rfl rfl rfl (by simp [svOkL, svOk]) (memRd (fun _ h => h) ⟨hv, trivial⟩) ?_
  refine And.intro (fun h => ?_) (fun h => ?_)
  · refine Or.inl ⟨.bool true, fun ρ S w hm => works_c w, ?_⟩
    exact fun ρ S w' hi => ⟨rfl, hi.below⟩
  have h : (decide ((l.length : Int) > 1000) || decide ((l.length : Int) = 0)) = false := h
  rw [Bool.or_eq_false_iff, decide_eq_false_iff_not, decide_eq_false_iff_not] at h
  have hll : l.length ≤ 1000 := by omega
  have h0 : 0 < l.length := by omega
  refine And.intro (show (0 : Int) ≤ 8 by decide) ?_
  refine ⟨CS l, fun s => ⟨171, [⟨0, [], .sl 0⟩, ⟨3, [], .sl 1⟩, ⟨4, [], .sl 2⟩, ⟨5, [], .v (.int .i64 (s.n : Int))⟩, ⟨6, [], .v (.int .i64 (s.i : Int))⟩], [.rd Int inferInstance 1 hE l, .own 5 Int inferInstance 1 bE (pcL l s.i), .own 5 Int inferInstance 1 bE s.rows], [], dropL nats 3⟩,
    fun s => l.length - s.i, ⟨[0, 1, 1000], CS.init l, ?_⟩, fun s => ?_⟩
  · exact And.intro (And.intro rfl (And.intro rfl (And.intro rfl (And.intro rfl (And.intro rfl trivial))))) (And.intro rfl (And.intro ⟨rfl, rfl, rfl, rfl, fun y hy => rfl⟩ (And.intro rfl trivial)))
  have hi := s.hi
  have hn := s.hn
  have hr := s.hr
  refine And.intro (fun hlt => ?_) (fun hge => ?_)
  · have hlt : s.i < l.length := by have : (s.i : Int) < (l.length : Int) := of_decide_eq_true hlt
                                    omega
    have hbi : (0 : Int) ≤ (s.i : Int) ∧ (s.i : Int) < (l.length : Int) := ⟨by omega, by omega⟩
    refine Or.inl ⟨by kernel_rfl, ?_⟩
    refine And.intro (fun _ => hbi) ?_
    refine And.intro (fun g1 => ?_) ?_
    · have g1 : (s.i : Int) > 0 := of_decide_eq_true g1
      refine (show (0 : Int) ≤ IntKind.i64.wrap ((s.i : Int) - 1) ∧ IntKind.i64.wrap ((s.i : Int) - 1) < (l.length : Int) from ?_)
      rw [i64_id _ (by omega) (by omega)]; omega
    refine And.intro (fun _ => ?_) (fun hu => ?_)
    · refine Or.inl ⟨.bool true, fun ρ S w hm => works_c w, ?_⟩
      exact fun ρ S w' hi => ⟨rfl, hi.below⟩
    have hu := upB l s.i hlt (by omega) false hu
    have hK := eK_ge l s.i
    have hK2 := eK_lt l s.i hlt
    refine ⟨{ k : Nat // s.i ≤ k ∧ k < l.length ∧ eK l k = eK l s.i }, fun k => ⟨171, [⟨0, [], .sl 0⟩, ⟨3, [], .sl 1⟩, ⟨4, [], .sl 2⟩, ⟨5, [], .v (.int .i64 (s.n : Int))⟩, ⟨6, [], .v (.int .i64 (s.i : Int))⟩, ⟨7, [], .v (.int .i64 (k.1 : Int))⟩], [.rd Int inferInstance 1 hE l, .own 5 Int inferInstance 1 bE (pcL l s.i), .own 5 Int inferInstance 1 bE s.rows], [], dropL nats 3⟩,
      fun k => l.length - k.1, ⟨[0, 1, 2], ⟨s.i, Nat.le_refl _, hlt, rfl⟩, ?_⟩, fun k => ?_⟩
    · exact And.intro (And.intro rfl (And.intro rfl (And.intro rfl (And.intro rfl (And.intro rfl (And.intro rfl trivial)))))) (And.intro rfl (And.intro rfl (And.intro rfl trivial)))
    obtain ⟨k, hik, hk, hke⟩ := k
    have hk1 : IntKind.i64.wrap ((k : Int) + 1) = ((k + 1 : Nat) : Int) := i64_succ k (by omega)
    have hbk : (0 : Int) ≤ (k : Int) ∧ (k : Int) < (l.length : Int) := ⟨by omega, by omega⟩
    have hlk := hl _ (nth_memI hk)
    refine Or.inl ⟨by kernel_rfl, ?_⟩
    refine And.intro (fun _ => hbk) ?_
    refine And.intro (fun g => ?_) ?_
    · have g : (decide (IntKind.i64.wrap ((k : Int) + 1) < (l.length : Int)) && decide (nth l (k : Int).toNat < 65535)) = true := g
      rw [Bool.and_eq_true, decide_eq_true_iff, hk1] at g
      refine (show (0 : Int) ≤ IntKind.i64.wrap ((k : Int) + 1) ∧ IntKind.i64.wrap ((k : Int) + 1) < (l.length : Int) from ?_)
      rw [hk1]; omega
    refine And.intro (fun _ => hbk) ?_
    have hx : ∀ x : Bool, ((decide (IntKind.i64.wrap ((k : Int) + 1) < (l.length : Int)) && decide (nth l (k : Int).toNat < 65535)) && decide (nth l (IntKind.i64.wrap ((k : Int) + 1)).toNat = IntKind.u16.wrap (nth l (k : Int).toNat + 1))) = x → ((k + 1 < l.length ∧ nth l k < 65535 ∧ nth l (k + 1) = nth l k + 1) ↔ x = true) := fun x h => by
      subst h
      rw [hk1, Int.toNat_natCast, Int.toNat_natCast, Bool.and_eq_true, Bool.and_eq_true, decide_eq_true_iff, decide_eq_true_iff, decide_eq_true_iff, IntKind.wrap_u16, and_assoc]
      refine and_congr (by omega) (and_congr_right fun h => ?_)
      rw [show (nth l k + 1) % 65536 = nth l k + 1 from by omega]
    refine And.intro (fun g => ?_) (fun g => ?_)
    · have g := (hx true g).2 rfl
      exact ⟨[0, 1, 2], ⟨k + 1, by omega, g.1, by rw [← hke]; exact (eK_step l k g).symm⟩, And.intro (And.intro rfl (And.intro rfl (And.intro rfl (And.intro rfl (And.intro rfl (And.intro (svI hk1) trivial)))))) (And.intro rfl (And.intro rfl (And.intro rfl trivial))), by show _ - (k + 1) < _ - k; omega⟩
    have g : ¬ (k + 1 < l.length ∧ nth l k < 65535 ∧ nth l (k + 1) = nth l k + 1) := fun h' => Bool.noConfusion ((hx false g).1 h')
    have hkE : k = eK l s.i := by rw [← hke]; exact (eK_stop l k g).symm
    refine Or.inr (Or.inr (Or.inl ⟨[0, 1, 2, 3, 4, 5, 6, 7, 8, 9, 10, 11, 12, 13, 14, 15, 16, 17, 18, 19, 20, 21, 22, 23, 24, 25, 26, 27, 28], [28], [29, 30], by kernel_rfl, ?_⟩))
    refine And.intro hbi ?_
    refine And.intro (show (0 : Int) ≤ 8 by decide) ?_
    refine And.intro hbi ?_
    refine And.intro hbk ?_
    refine And.intro (show (0 : Int) ≤ 8 by decide) ?_
    refine And.intro hbk ?_
    refine And.intro (show (0 : Int) ≤ 8 by decide) ?_
    refine ⟨[IntKind.u8.wrap (shrV .u16 (nth l s.i) 8), IntKind.u8.wrap (nth l s.i), IntKind.u8.wrap (shrV .u16 (nth l k) 8), IntKind.u8.wrap (nth l k), IntKind.u8.wrap (shrV .i64 (s.i : Int) 8), IntKind.u8.wrap (s.i : Int)], And.intro rfl (And.intro rfl (fun y hy => rfl)), by show (s.rows.length + 6) * 1 ≤ _; omega, ?_⟩
    have hrow : s.rows ++ [IntKind.u8.wrap (shrV .u16 (nth l s.i) 8), IntKind.u8.wrap (nth l s.i), IntKind.u8.wrap (shrV .u16 (nth l k) 8), IntKind.u8.wrap (nth l k), IntKind.u8.wrap (shrV .i64 (s.i : Int) 8), IntKind.u8.wrap (s.i : Int)] = s.rows ++ rowC l s.i := by
      have e1 := tw16 (nth l s.i) (hl _ (nth_memI hlt))
      have e2 := tw16 (nth l k) hlk
      have h1 := hl _ (nth_memI hlt)
      rw [i64_id _ (by omega) (by omega)] at e1 e2
      unfold rowC
      rw [← hkE, ← e1, ← e2]
      rfl
    refine ⟨{ j : Nat // s.i ≤ j ∧ j ≤ k + 1 }, fun j => ⟨171, [⟨0, [], .sl 0⟩, ⟨3, [], .sl 1⟩, ⟨4, [], .sl 2⟩, ⟨5, [], .v (.int .i64 (s.n : Int))⟩, ⟨7, [], .v (.int .i64 (k : Int))⟩, ⟨8, [], .v (.int .i64 (j.1 : Int))⟩], [.rd Int inferInstance 1 hE l, .own 5 Int inferInstance 1 bE (pcL l j.1), .own 5 Int inferInstance 1 bE (s.rows ++ rowC l s.i)], [], dropL nats 3⟩,
      fun j => k + 1 - j.1, ⟨[0, 1, 4], ⟨s.i, Nat.le_refl _, by omega⟩, ?_⟩, fun j => ?_⟩
    · exact And.intro (And.intro rfl (And.intro rfl (And.intro rfl (And.intro rfl (And.intro rfl (And.intro rfl trivial)))))) (And.intro rfl (And.intro rfl (And.intro (congrArg (Chunk.own 5 Int inferInstance 1 bE) hrow) trivial)))
    obtain ⟨j, hij, hj⟩ := j
    refine And.intro (fun g => ?_) (fun g => ?_)
    · have g : j ≤ k := by have : (j : Int) ≤ (k : Int) := of_decide_eq_true g
                           omega
      have hbj : (0 : Int) ≤ (j : Int) ∧ (j : Int) < (l.length : Int) := ⟨by omega, by omega⟩
      refine Or.inr (Or.inr (Or.inl ⟨[0, 1, 2, 3, 4, 5, 6, 7, 8, 9, 10, 11, 12], [12], [13, 14], by kernel_rfl, ?_⟩))
      refine And.intro hbj ?_
      refine And.intro (show (0 : Int) ≤ 8 by decide) ?_
      refine And.intro hbj ?_
      refine ⟨[IntKind.u8.wrap (shrV .u16 (nth l j) 8), IntKind.u8.wrap (nth l j)], And.intro rfl (And.intro rfl (fun y hy => rfl)), by show ((pcL l j).length + 2) * 1 ≤ _; rw [pcL_len]; omega, ?_⟩
      have hpc : pcL l j ++ [IntKind.u8.wrap (shrV .u16 (nth l j) 8), IntKind.u8.wrap (nth l j)] = pcL l (j + 1) := by
        rw [tw16 (nth l j) (hl _ (nth_memI (by omega)))]; rfl
      exact ⟨[0, 4, 2], ⟨j + 1, by omega, by omega⟩, And.intro (And.intro rfl (And.intro rfl (And.intro rfl (And.intro rfl (And.intro rfl (And.intro (svI (i64_succ j (by omega))) trivial)))))) (And.intro rfl (And.intro (congrArg (Chunk.own 5 Int inferInstance 1 bE) hpc) (And.intro rfl trivial))), by show _ - (j + 1) < _ - j; omega⟩
    · have g : j = k + 1 := by have : ¬ (j : Int) ≤ (k : Int) := of_decide_eq_false g
                               omega
      have hie : (s.next hlt hl (by omega) hu).i = k + 1 := by show eK l s.i + 1 = k + 1; omega
      have hpe : pcL l j = pcL l (s.next hlt hl (by omega) hu).i := by rw [hie, g]
      exact ⟨[0, 1, 2], s.next hlt hl (by omega) hu, And.intro (And.intro rfl (And.intro rfl (And.intro rfl (And.intro (svI (i64_succ s.n (by omega))) (And.intro (svI (by rw [hie]; exact hk1)) trivial))))) (And.intro rfl (And.intro (congrArg (Chunk.own 5 Int inferInstance 1 bE) hpe) (And.intro rfl trivial))), by show l.length - (s.next hlt hl _ hu).i < l.length - s.i; rw [hie]; omega⟩
  · have hge : s.i = l.length := by have : ¬ (s.i : Int) < (l.length : Int) := of_decide_eq_false hge
                                    omega
    have hf := s.fin hge h0 (by omega)
    have hup := s.hup
    rw [hge] at hup
    have hc1 := cov_put l h0 (by omega) hl hup
    have hpl := pcL_len l l.length
    refine And.intro (show (0 : Int) ≤ 8 by decide) ?_
    refine ⟨Int, inferInstance, bE, [0, 2] ++ tw (s.n : Int), s.rows, And.intro rfl (And.intro rfl (fun y hy => rfl)), ⟨rfl, rfl, fun i _ => ⟨rfl, rfl⟩⟩, by show (4 + s.rows.length) * 1 ≤ _; omega, ?_⟩
    have hc1' : covX (pcL l s.i) 0 65536 = some l := by rw [hge]; exact hc1
    have hpl' : (pcL l s.i).length ≤ 1000000 := by rw [pcL_len]; omega
    have hfl : ([0, 2] ++ tw (s.n : Int) ++ s.rows).length ≤ 1000000 := by rw [List.length_append, List.length_append, tw_len, hr]; show 2 + 2 + _ ≤ _; omega
    refine Or.inr (lcall_frz [.sl 1] rfl (lcall_rep1 (.ptr (rdD (pcL l s.i))) (fun ρ S w hm => open_c _ _ w S hm.lt hpl' (hm.rdS 1 rfl rfl)) ?_))
    refine Or.inr (lcall_fresh2 (t := 26) (sz := 1) (enc := hE) l (.int .i64 0) (fun ρ S w hm => cov_o _ 0 65536 hpl' (by decide) _ hc1' _ w (hm.rp 5 rfl rfl)) ?_)
    refine Or.inr (lcall_frz [.sl 4] rfl (lcall_rep1 (.ptr (rdD ([0, 2] ++ tw (s.n : Int) ++ s.rows))) (fun ρ S w hm => open_c _ _ w S hm.lt hfl (hm.rdS 4 rfl rfl)) ?_))
    refine Or.inr (lcall_fresh2 (t := 26) (sz := 1) (enc := hE) l (.int .i64 0) (fun ρ S w hm => cov_o _ 0 65536 hfl (by decide) _ hf _ w (hm.rp 7 rfl rfl)) ?_)
    refine Or.inl ⟨.bool true, fun _ ρ S w hm => samew_t l _ _ w (by omega) (hm.own 6 rfl rfl) (hm.rd 0 rfl rfl), ?_⟩
    refine Or.inl ⟨.bool true, fun _ ρ S w hm => samew_t l _ _ w (by omega) (hm.own 8 rfl rfl) (hm.rd 0 rfl rfl), ?_⟩
    refine Or.inl ⟨.bool true, fun _ ρ S w hm => works_c w, ?_⟩
    exact fun ρ S w' hi => ⟨rfl, hi.below⟩
end Go.Proofs.Ytblhmanmniglfaa
