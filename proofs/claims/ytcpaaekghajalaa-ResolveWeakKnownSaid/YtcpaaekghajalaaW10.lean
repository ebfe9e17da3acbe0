/- The law ResolveEnds: true for every input. -/
import Derived.Test.YtcpaaekghajalaaW9
namespace Go.Proofs.Ytcpaaekghajalaa
open Go Go.Eng Go.RowKit

theorem ends_false (c r n lv : Int) (h1 : neuF c = true ∨ r = c) (h2 : r = 1 ∨ r = 2 ∨ r = 4 ∨ r = 7) (h3 : lv ≤ n) (h4 : n ≤ IntKind.u8.wrap (lv + 2)) (h5 : n.tmod 2 = 1 ↔ r = 2) :
    ((((((!(neuF c)) && (!decide (r = c))) || ((((!decide (r = 1)) && (!decide (r = 2))) && (!decide (r = 4))) && (!decide (r = 7)))) || decide (n < lv)) || decide (n > IntKind.u8.wrap (lv + 2))) || (!(decide (n.tmod 2 = 1) == decide (r = 2)))) = false := by
  have a1 : ((!(neuF c)) && (!decide (r = c))) = false := by rcases h1 with h | h <;> simp [h]
  have a2 : ((((!decide (r = 1)) && (!decide (r = 2))) && (!decide (r = 4))) && (!decide (r = 7))) = false := by rcases h2 with h | h | h | h <;> simp [h]
  have a3 : decide (n < lv) = false := by simp; omega
  have a4 : decide (n > IntKind.u8.wrap (lv + 2)) = false := by simp; omega
  have a5 : (!(decide (n.tmod 2 = 1) == decide (r = 2))) = false := by
    by_cases h : r = 2
    · simp [h, h5.2 h]
    · have : ¬ n.tmod 2 = 1 := fun g => h (h5.1 g)
      simp [h, this]
  rw [a1, a2, a3, a4, a5]; rfl
theorem ends_false2 (c r sd : Int) (i : Nat) (b : Int) (h : neuF c = true → r ≠ sd → b > 0 → (b = 1 ↔ r = 1)) :
    ((((neuF c && (!decide (r = sd))) && decide ((i : Int) > 0)) && decide (b > 0)) && (!(decide (b = 1) == decide (r = 1)))) = false := by
  by_cases h1 : neuF c = true
  · by_cases h2 : r = sd
    · simp [h2]
    · by_cases h3 : b > 0
      · have := h h1 h2 h3
        by_cases h4 : r = 1
        · simp [h4, this.2 h4]
        · have : ¬ b = 1 := fun g => h4 (this.1 g)
          simp [h4, this]
      · simp [h3]
  · simp [h1]

structure ESt (C : List Int) (sos eos : Int) where
  i : Nat
  hi : i ≤ C.length
  b : Int
  hb : Bef C sos eos i b

set_option maxHeartbeats 8000000 in
theorem lawEnds_c (xs : List Int) (lv sos eos : Int) (v : Value) (w : World) (hlv : 0 ≤ lv ∧ lv ≤ 255) (hv : Rd w v 1 cE xs) :
    Calls Try.prog 5 #[v, .int .u8 lv, .int .u8 sos, .int .u8 eos] w fun e w' => e = .returned (.bool true) ∧ Below w.heap.size w w' := by
  refine calls_exec (cf := cf) cfok (fn := Try.f5) Try.func5 rfl [.sl 0, .v (.int .u8 lv), .v (.int .u8 sos), .v (.int .u8 eos)] [.rd Int inferInstance 1 cE xs] (ρ := fun _ => v) (· < w.heap.size) rfl rfl rfl (by simp [svOkL, svOk]) (memRd (fun _ h => h) ⟨hv, trivial⟩) ?_
  refine And.intro (fun h => ?_) (fun h => ?_)
  · exact Or.inl ⟨_, fun ρ S w' hm => works_c w', fun ρ S w' hi => ⟨rfl, hi.below⟩⟩
  have h : ¬ (xs.length : Int) > 3000 ∧ ¬ lv > 250 := by simpa using h
  have hl : xs.length ≤ 3000 := by omega
  have hlv2 : lv ≤ 250 := by omega
  obtain ⟨C, hC⟩ : ∃ C, C = clX xs := ⟨_, rfl⟩
  have hCl : C.length = xs.length := by rw [hC]; exact clX_len xs
  have hCor : ∀ i, i < C.length → nth C i = 1 ∨ nth C i = 2 ∨ nth C i = 4 ∨ nth C i = 7 ∨ nth C i = 10 ∨ neuF (nth C i) = true := fun i hi => by rw [hC, clX_nth _ _ (by omega)]; exact clF_or _
  obtain ⟨R, hR⟩ : ∃ R, R = neuX C lv sos eos := ⟨_, rfl⟩
  have hRl : R.length = C.length := by rw [hR]; exact neuX_len _ _ _ _
  obtain ⟨N, hN⟩ : ∃ N, N = levX R lv := ⟨_, rfl⟩
  have hNl : N.length = R.length := by rw [hN]; exact levX_len _ _
  refine Or.inr (lcall_fresh C (fun ρ S w' hm => by rw [hC]; exact cleared_c xs _ w' (by omega) (hm.rd 0 rfl rfl)) ?_)
  refine Or.inr (lcall_fresh R (fun ρ S w' hm => by rw [hR]; exact neu_c C lv sos eos _ w' (by omega) hlv (hm.own 1 rfl rfl)) ?_)
  refine Or.inr (lcall_fresh N (fun ρ S w' hm => by rw [hN]; exact lev_c R lv _ w' (by omega) hlv (hm.own 2 rfl rfl)) ?_)
  refine And.intro (fun h => ?_) (fun _ => ?_)
  · have h : ¬ R.length = xs.length ∨ ¬ N.length = xs.length := by
      have h : ¬ (R.length : Int) = xs.length ∨ ¬ (N.length : Int) = xs.length := by simpa using h
      omega
    omega
  refine And.intro (by show (2 : Int) ≠ 0; omega) ?_
  refine And.intro (fun hs => ?_) (fun hs => ?_)
  all_goals
    refine ⟨ESt C sos eos, fun s => ⟨176, [⟨1, [], .v (.int .u8 lv)⟩, ⟨9, [], .sl 1⟩, ⟨10, [], .sl 2⟩, ⟨11, [], .sl 3⟩, ⟨12, [], .v (.int .i64 s.b)⟩, ⟨13, [], .v (.int .u8 (sideOf lv))⟩, ⟨14, [], .v (.int .i64 s.i)⟩], [.rd Int inferInstance 1 cE xs, .own 23 Int inferInstance 1 cE C, .own 23 Int inferInstance 1 cE R, .own 5 Int inferInstance 1 cE N], [], dropL nats 4⟩,
      fun s => C.length - s.i, ⟨[0, 1, 2, 3], ⟨0, by omega, 0, .inl rfl⟩, ?_⟩, fun s => ?_⟩
    · exact And.intro (And.intro rfl (And.intro rfl (And.intro rfl (And.intro rfl (And.intro rfl (And.intro (by first | exact svu (sideT hlv.1 hs).symm | exact svu (sideFl hlv.1 hs).symm) (And.intro rfl trivial))))))) (And.intro rfl (And.intro rfl (And.intro rfl (And.intro rfl trivial))))
    have hsi := s.hi
    refine And.intro (fun hlt => ?_) (fun hge => ?_)
    · have hlt : s.i < C.length := by have : s.i < R.length := by simpa using hlt
                                      omega
      have hat := neu_at C lv sos eos s.i hlt
      rw [← hR] at hat
      have hcor := hCor s.i hlt
      refine And.intro ⟨by omega, by omega⟩ ?_
      refine And.intro ⟨by omega, by omega⟩ ?_
      refine And.intro (fun h10 => ?_) (fun h10 => ?_)
      · have h10 : nth R s.i = 10 := by simpa using h10
        have hc10 : nth C s.i = 10 := by
          rcases hat with ⟨_, h2⟩ | ⟨_, h2, _⟩
          · rw [← h2, h10]
          · rw [h10] at h2; omega
        refine And.intro ⟨by omega, by omega⟩ ?_
        refine And.intro (fun h => ?_) (fun _ => ?_)
        · have h : ¬ nth C s.i = 10 := by simpa using h
          exact absurd hc10 h
        · exact ⟨[0, 1, 2, 3], ⟨s.i + 1, hlt, s.b, s.hb.bn hlt hc10⟩, And.intro (And.intro rfl (And.intro rfl (And.intro rfl (And.intro rfl (And.intro rfl (And.intro rfl (And.intro (sv_i64 (i64_succ s.i (by omega))) trivial))))))) (And.intro rfl (And.intro rfl (And.intro rfl (And.intro rfl trivial)))), by show _ - (s.i + 1) < _ - s.i; omega⟩
      · have h10 : ¬ nth R s.i = 10 := by simpa using h10
        have hcl : nth C s.i = 1 ∨ nth C s.i = 2 ∨ nth C s.i = 4 ∨ nth C s.i = 7 ∨ neuF (nth C s.i) = true := by
          rcases hcor with h | h | h | h | h | h
          · exact .inl h
          · exact .inr (.inl h)
          · exact .inr (.inr (.inl h))
          · exact .inr (.inr (.inr (.inl h)))
          · rcases hat with ⟨_, h2⟩ | ⟨h2, _⟩
            · rw [h] at h2; exact absurd h2 h10
            · rw [h] at h2; cases h2
          · exact .inr (.inr (.inr (.inr h)))
        have hr : nth R s.i = 1 ∨ nth R s.i = 2 ∨ nth R s.i = 4 ∨ nth R s.i = 7 := by
          rcases hat with ⟨h1, h2⟩ | ⟨_, h2, _⟩
          · rw [h2]
            rcases hcl with h | h | h | h | h
            · exact .inl h
            · exact .inr (.inl h)
            · exact .inr (.inr (.inl h))
            · exact .inr (.inr (.inr h))
            · rw [h1] at h; cases h
          · omega
        have hn : nth N s.i = levF lv (nth R s.i) := by rw [hN]; exact levX_nth _ _ _ (by omega)
        obtain ⟨l1, l2, l3, l4⟩ := lev_at lv (nth R s.i) hlv.1 hlv2 hr
        rw [← hn] at l1 l2 l3 l4
        have ef1 := ends_false (nth C s.i) (nth R s.i) (nth N s.i) lv (by
          rcases hat with ⟨_, h2⟩ | ⟨h1, _⟩
          · exact .inr h2
          · exact .inl h1) hr l1 (by rw [u8_id _ (by omega) (by omega)]; exact l2) (by rw [Int.tmod_eq_emod_of_nonneg l4]; exact l3)
        have ef2 := ends_false2 (nth C s.i) (nth R s.i) (sideOf lv) s.i s.b (fun g1 g2 g3 => by
          rcases hat with ⟨h1, _⟩ | ⟨_, _, h2, h3⟩
          · rw [h1] at g1; cases g1
          · have hd := h2 g2
            have hrd := h3 hd
            rcases s.hb with hb | ⟨_, hb⟩
            · omega
            · rw [hrd]
              refine hb ⟨?_, hd.2⟩
              rw [hd.1, bh_step _ _ _ hlt, if_neg (by simp [tells, g1])])
        refine Or.inl ⟨by kernel_rfl, ?_⟩
        refine And.intro ⟨by omega, by omega⟩ ?_
        refine ⟨_, fun ρ S w' hm => isNeutral_c _ _, ?_⟩
        refine And.intro (by first | exact fun _ => ⟨by omega, by omega⟩ | exact fun _ _ => ⟨by omega, by omega⟩) ?_
        refine And.intro (by first | exact fun _ => ⟨by omega, by omega⟩ | exact fun _ _ => ⟨by omega, by omega⟩) ?_
        refine And.intro (by first | exact fun _ => ⟨by omega, by omega⟩ | exact fun _ _ => ⟨by omega, by omega⟩) ?_
        refine And.intro (by first | exact fun _ => ⟨by omega, by omega⟩ | exact fun _ _ => ⟨by omega, by omega⟩) ?_
        refine And.intro (by first | exact fun _ => ⟨by omega, by omega⟩ | exact fun _ _ => ⟨by omega, by omega⟩) ?_
        refine And.intro (by first | exact fun _ => ⟨by omega, by omega⟩ | exact fun _ _ => ⟨by omega, by omega⟩) ?_
        refine And.intro (by first | exact fun _ => ⟨by omega, by omega⟩ | exact fun _ _ => ⟨by omega, by omega⟩) ?_
        refine And.intro (by first | exact fun _ => ⟨by omega, by omega⟩ | exact fun _ _ => ⟨by omega, by omega⟩) ?_
        refine And.intro (fun _ => by show (2 : Int) ≠ 0; omega) ?_
        refine And.intro (fun h => Bool.noConfusion (ef1.symm.trans h)) (fun _ => ?_)
        refine And.intro ⟨by omega, by omega⟩ ?_
        refine Or.inl ⟨_, fun ρ S w' hm => isNeutral_c _ _, ?_⟩
        refine And.intro (by first | exact fun _ => ⟨by omega, by omega⟩ | exact fun _ _ => ⟨by omega, by omega⟩) ?_
        refine And.intro (by first | exact fun _ => ⟨by omega, by omega⟩ | exact fun _ _ => ⟨by omega, by omega⟩) ?_
        refine And.intro (fun h => Bool.noConfusion (ef2.symm.trans h)) (fun _ => ?_)
        refine And.intro ⟨by omega, by omega⟩ ?_
        have hnx := Bef.next (lv := lv) (sos := sos) (eos := eos) hlt hcl
        rw [← hR] at hnx
        refine And.intro (fun h1 => ?_) (fun h1 => ?_)
        · have h1 : nth R s.i = 1 := by simpa using h1
          rw [if_pos h1] at hnx
          exact ⟨[0, 1, 2, 3], ⟨s.i + 1, hlt, 1, hnx⟩, And.intro (And.intro rfl (And.intro rfl (And.intro rfl (And.intro rfl (And.intro rfl (And.intro rfl (And.intro (sv_i64 (i64_succ s.i (by omega))) trivial))))))) (And.intro rfl (And.intro rfl (And.intro rfl (And.intro rfl trivial)))), by show _ - (s.i + 1) < _ - s.i; omega⟩
        · have h1 : ¬ nth R s.i = 1 := by simpa using h1
          rw [if_neg h1] at hnx
          exact ⟨[0, 1, 2, 3], ⟨s.i + 1, hlt, 2, hnx⟩, And.intro (And.intro rfl (And.intro rfl (And.intro rfl (And.intro rfl (And.intro rfl (And.intro rfl (And.intro (sv_i64 (i64_succ s.i (by omega))) trivial))))))) (And.intro rfl (And.intro rfl (And.intro rfl (And.intro rfl trivial)))), by show _ - (s.i + 1) < _ - s.i; omega⟩
    · exact Or.inl ⟨_, fun ρ S w' hm => works_c w', fun ρ S w' hi => ⟨rfl, hi.below⟩⟩
end Go.Proofs.Ytcpaaekghajalaa
