/- parbreak.Break: the way from a place on, with its memo. -/
import Derived.Test.YtiaaiihdamkeaaaK4
set_option maxRecDepth 100000
set_option linter.unusedVariables false
namespace Go.Proofs.Ytiaaiihdamkeaaa
open Go Go.Eng Go.RowKit Go.Ar

/-- what the closure has about it -/
abbrev memC (p : Par) : List Chunk := [.rp [] (parD p), .bx 41 [.bx 0 0], .bx 24 [.sl 7], .bx 44 [.sl 6], .bx 45 [.fn 15 [.bx 1 0, .bx 2 0, .bx 3 0, .bx 4 0, .bx 5 0]], .bx 22 [.sl 8], .ob (memoOk p), .rd Int inferInstance 1 iE p.ws, .rd Bool inferInstance 1 bE p.must]
abbrev chS (c : Nat × Int) : SV := .agg [.v (.int .i64 (c.1 : Nat)), .v (.int .i64 c.2)]
def BestS (p : Par) (m : Nat) : Prop := ∀ from' k : Nat, from' ≤ p.n → p.n - from' ≤ m → k ≤ from' →
  LCall Try.prog ⟨0, [], memC p, [], []⟩ 15 [.v (.int .i64 (from' : Nat)), .v (.int .i64 (k : Nat)), .bx 1 0, .bx 2 0, .bx 3 0, .bx 4 0, .bx 5 0] (fun st' s => st'.ch = memC p ∧ s = chS (best p from' k))
/-- the loop over the first breaks, on its way -/
structure Sc (p : Par) (from' k : Nat) (R : Nat × Int) where
  j : Nat
  s : Nat
  c : Nat × Int
  hj : from' < j
  hs : j + s = p.n + 1
  hc : c.2 < 0 ∨ (from' < c.1 ∧ c.1 ≤ p.n)
  h0 : c.2 < 0 → 0 < s
  hb : c.2 ≤ 700000000000000
  e : scanF p (fun j => (best p j (k + 1)).2) from' k j s c = R
theorem scan_step {p : Par} {f : Nat → Int} {from' k j s : Nat} {c R : Nat × Int} (hs : 0 < s) (h : scanF p f from' k j s c = R) :
    (nth p.must j = true → (if c.2 < 0 ∨ costF p from' j k + f j < c.2 then (j, costF p from' j k + f j) else c) = R) ∧ (nth p.must j = false → scanF p f from' k (j + 1) (s - 1) (if c.2 < 0 ∨ costF p from' j k + f j < c.2 then (j, costF p from' j k + f j) else c) = R) := by
  obtain ⟨t, rfl⟩ : ∃ t, s = t + 1 := ⟨s - 1, by omega⟩
  rw [scanF] at h
  refine ⟨fun hm => ?_, fun hm => ?_⟩
  · rw [if_pos hm] at h; exact h
  · rw [hm] at h; exact h
theorem best_s (p : Par) (m : Nat) (ih : ∀ m', m' < m → BestS p m') : BestS p m := by
  intro from' k hf hm hk
  refine lcall_exec (cf := cf) cfok (fn := Try.f15) Try.func15 rfl _ _ (memC p) (chS (best p from' k)) rfl rfl (by simp [svOkL, svOk]) rfl ⟨trivial, trivial, trivial, trivial, trivial, trivial, trivial, ⟨Nat.le_refl _, rfl⟩, ⟨Nat.le_refl _, rfl⟩, trivial⟩ rfl rfl ?_
  have hn := p.hn
  have hw := p.hw
  refine And.intro (fun h => ?_) (fun h => ?_)
  · have h : from' = p.n := by
      have : ((from' : Nat) : Int) = ((p.n : Nat) : Int) := of_decide_eq_true h
      omega
    subst h
    rw [best_end]
    exact ⟨[0, 1, 2, 3, 4, 5, 6, 7, 8], rfl, rfl, rfl, And.intro ⟨rfl, rfl⟩ (And.intro (And.intro rfl rfl) (And.intro (And.intro rfl rfl) (And.intro (And.intro rfl rfl) (And.intro (And.intro rfl rfl) (And.intro (And.intro rfl rfl) (And.intro (fun _ h => h) (And.intro rfl (And.intro rfl trivial)))))))), rfl⟩
  have h : from' < p.n := by
    have : ¬ ((from' : Nat) : Int) = ((p.n : Nat) : Int) := of_decide_eq_false h
    omega
  refine Or.inl ?_
  have hwk : min (k : Int) (IntKind.i64.wrap ((p.ws.length : Int) - 1)) = ((wk p k : Nat) : Int) := by
    rw [i64_id ((p.ws.length : Int) - 1) (by omega) (by omega)]; unfold wk; omega
  refine gop_any (fun r => r = .tuple #[valV (0, 0), .bool false] ∨ r = .tuple #[valV (best p from' k), .bool true]) (fun ρ S w e o hm he ho => ?_) (fun r hR => ?_)
  · obtain ⟨r, ob, h1, h2, h3⟩ : ∃ r ob, ρ 6 = .map (some r) ∧ w.heap[r]? = some ob ∧ memoOk p ob := hm.ok 6 (show 6 < 11 by omega)
    have e1 : e (.tmp 31) = ρ 6 := he (.tmp 31) (.sl 6) rfl
    have e2 : e (.tmp 32) = keyV (from' : Nat) (min (k : Int) (IntKind.i64.wrap ((p.ws.length : Int) - 1))) := he (.tmp 32) _ rfl
    rw [hwk] at e2
    obtain ⟨v, h4, h5⟩ := look_run p from' (wk p k) r w h2 h3
    rw [best_wk] at h5
    refine ⟨v, ?_, h5⟩
    show (execOp e o).run Try.prog w = _
    simp only [execOp, ho, e1, e2, h1, Sem.run_bind, h4, Result.andThen_ok, Sem.run_pure]
  · rcases hR with rfl | rfl
    rotate_left
    · refine And.intro (fun _ => ?_) (fun h => by cases h)
      exact ⟨[0, 1, 2, 3, 4, 5, 6, 7, 8], rfl, rfl, rfl, And.intro ⟨rfl, rfl⟩ (And.intro (And.intro rfl rfl) (And.intro (And.intro rfl rfl) (And.intro (And.intro rfl rfl) (And.intro (And.intro rfl rfl) (And.intro (And.intro rfl rfl) (And.intro (fun _ h => h) (And.intro rfl (And.intro rfl trivial)))))))), rfl⟩
    · refine And.intro (fun h => by cases h) (fun _ => ?_)
      rw [best_eq p h k]
      obtain ⟨R, hR⟩ : ∃ R, R = scanF p (fun j => (best p j (k + 1)).2) from' k (from' + 1) (p.n - from') (0, -1) := ⟨_, rfl⟩
      have hbw : best p from' (wk p k) = R := by rw [best_wk, best_eq p h k, hR]
      rw [← hR]
      refine ⟨Sc p from' k R, fun s => ⟨81, [⟨0, [], .v (.int .i64 (from' : Nat))⟩, ⟨1, [], .v (.int .i64 (k : Nat))⟩, ⟨2, [], .bx 1 0⟩, ⟨3, [], .bx 2 0⟩, ⟨4, [], .bx 3 0⟩, ⟨5, [], .bx 4 0⟩, ⟨6, [], .bx 5 0⟩, ⟨9, [], .bx 9 0⟩, ⟨10, [], .bx 10 0⟩, ⟨13, [], .bx 11 0⟩, ⟨14, [], .v (.int .i64 (s.j : Nat))⟩],
        memC p ++ [.bx 47 [.v (.int .i64 0), .v (.int .i64 0)], .bx 50 [.v (.int .i64 (from' : Nat)), .v (.int .i64 (wk p k : Nat))], .bx 47 [.v (.int .i64 (s.c.1 : Nat)), .v (.int .i64 s.c.2)]], [], dropL nats 12⟩, fun s => p.n + 1 - s.j, ⟨[0, 1, 2, 3, 4, 5, 6, 7, 8, 9, 10, 12], ⟨from' + 1, p.n - from', (0, -1), by omega, by omega, .inl (by decide), fun _ => by omega, by simp only; omega, hR.symm⟩, ?_⟩, fun s => ?_⟩
      · exact And.intro (And.intro rfl (And.intro rfl (And.intro rfl (And.intro rfl (And.intro rfl (And.intro rfl (And.intro rfl (And.intro rfl (And.intro rfl (And.intro rfl (And.intro (svI (i64_succ from' (by omega))) trivial))))))))))) (And.intro ⟨rfl, rfl⟩ (And.intro (And.intro rfl rfl) (And.intro (And.intro rfl rfl) (And.intro (And.intro rfl rfl) (And.intro (And.intro rfl rfl) (And.intro (And.intro rfl rfl) (And.intro (fun _ h => h) (And.intro rfl (And.intro rfl (And.intro (And.intro rfl rfl) (And.intro (And.intro rfl (congrArg (fun z : Int => [SV.v (Value.int IntKind.i64 (from' : Nat)), SV.v (Value.int IntKind.i64 z)]) hwk)) (And.intro (And.intro rfl rfl) trivial))))))))))))
      have hsj := s.hj
      have hss := s.hs
      refine And.intro (fun hle => ?_) (fun hgt => ?_)
      · have hle : s.j ≤ p.n := by
          have : ((s.j : Nat) : Int) ≤ ((p.n : Nat) : Int) := of_decide_eq_true hle
          omega
        refine Or.inr (Or.inr (Or.inl ⟨[0, 1, 2, 3, 4, 5, 6, 7, 8], [], [9, 10, 11, 12], by kernel_rfl, ?_⟩))
        refine ⟨.int .i64 (costF p from' s.j k), fun ρ S w hm => cost_c p from' s.j k (by omega) hle (by omega) _ w (hm.rp 0 rfl rfl), ?_⟩
        have ek : IntKind.i64.wrap ((k : Int) + 1) = ((k + 1 : Nat) : Int) := i64_succ k (by omega)
        refine Or.inr (lcall_sub [0, 1, 2, 3, 4, 5, 6, 7, 8] (ih (p.n - s.j) (by omega) s.j (k + 1) hle (Nat.le_refl _) (by omega)) (congrArg (fun z : Int => [SV.v (Value.int IntKind.i64 (s.j : Nat)), .v (.int .i64 z), .bx 1 0, .bx 2 0, .bx 3 0, .bx 4 0, .bx 5 0]) ek) rfl rfl rfl rfl (And.intro ⟨rfl, rfl⟩ (And.intro (And.intro rfl rfl) (And.intro (And.intro rfl rfl) (And.intro (And.intro rfl rfl) (And.intro (And.intro rfl rfl) (And.intro (And.intro rfl rfl) (And.intro (fun _ h => h) (And.intro rfl (And.intro rfl trivial))))))))) ?_)
        have hcr := cost_range p from' s.j k
        have hbr := best_range p (k + 1) hle
        have hsum : IntKind.i64.wrap (costF p from' s.j k + (best p s.j (k + 1)).2) = costF p from' s.j k + (best p s.j (k + 1)).2 := i64_id _ (by omega) (by omega)
        have hs0 : 0 < s.s := by omega
        have hst := scan_step hs0 s.e
        refine And.intro (fun hlt => ?_) (fun hge => ?_)
        · have hlt : s.c.2 < 0 ∨ costF p from' s.j k + (best p s.j (k + 1)).2 < s.c.2 := by
            rw [hsum, Bool.or_eq_true, decide_eq_true_eq, decide_eq_true_eq] at hlt
            exact hlt
          rw [if_pos hlt, ← hsum] at hst
          have hc' : from' < s.j ∧ s.j ≤ p.n := by omega
          have hb' : ¬ IntKind.i64.wrap (costF p from' s.j k + (best p s.j (k + 1)).2) < 0 ∧ IntKind.i64.wrap (costF p from' s.j k + (best p s.j (k + 1)).2) ≤ 700000000000000 := by rw [hsum]; omega
          obtain ⟨c, hc⟩ : ∃ c : Nat × Int, c = (s.j, IntKind.i64.wrap (costF p from' s.j k + (best p s.j (k + 1)).2)) := ⟨_, rfl⟩
          replace hc' : from' < c.1 ∧ c.1 ≤ p.n := by rw [hc]; exact hc'
          replace hb' : ¬ c.2 < 0 ∧ c.2 ≤ 700000000000000 := by rw [hc]; exact hb'
          rw [← hc] at hst
          refine And.intro ⟨by omega, by rw [p.hm]; omega⟩ ?_
          refine And.intro (fun hm1 => ?_) (fun hm0 => ?_)
          · have hR1 : (s.j, IntKind.i64.wrap (costF p from' s.j k + (best p s.j (k + 1)).2)) = R := hc.symm.trans (hst.1 hm1)
            refine gop_update 6 (memoOk p) rfl rfl (fun ρ S w e o r ob hmm he ho hb hg hob => ?_) ?_
            · have e1 : e (.tmp 77) = ρ 6 := he (.tmp 77) (.sl 6) rfl
              have e2 : e (.tmp 78) = keyV (from' : Nat) (wk p k : Nat) := he (.tmp 78) _ rfl
              have e3 : e (.tmp 79) = valV (best p from' (wk p k)) := (he (.tmp 79) _ rfl).trans ((congrArg valV hR1).trans (congrArg valV (hbw.symm)))
              obtain ⟨ob', h4, h5⟩ := put_run p from' (wk p k) r w hg hob
              refine ⟨ob', ?_, h5⟩
              rw [← e2, ← e3, ← hb, ← e1] at h4
              replace h4 : (Instr.mapUpdate 44 (e (.tmp 77)) (e (.tmp 78)) (e (.tmp 79))).run cf.P w = .ok () { w with heap := w.heap.setIfInBounds r ob' } := h4
              simp only [execOp, ho, Sem.run_bind, h4, Result.andThen_ok, Sem.run_pure]
            · exact ⟨[0, 1, 2, 3, 4, 5, 6, 7, 8], rfl, rfl, rfl, And.intro ⟨rfl, rfl⟩ (And.intro (And.intro rfl rfl) (And.intro (And.intro rfl rfl) (And.intro (And.intro rfl rfl) (And.intro (And.intro rfl rfl) (And.intro (And.intro rfl rfl) (And.intro (fun _ h => h) (And.intro rfl (And.intro rfl trivial)))))))), congrArg chS hR1⟩
          · refine ⟨[0, 1, 2, 3, 4, 5, 6, 7, 8, 9, 10, 11], ⟨s.j + 1, s.s - 1, c, by omega, by omega, .inr hc', fun h => absurd h hb'.1, hb'.2, hst.2 hm0⟩, ?_, by show p.n + 1 - (s.j + 1) < p.n + 1 - s.j; omega⟩
            exact And.intro (And.intro rfl (And.intro rfl (And.intro rfl (And.intro rfl (And.intro rfl (And.intro rfl (And.intro rfl (And.intro rfl (And.intro rfl (And.intro rfl (And.intro (svI (i64_succ s.j (by omega))) trivial))))))))))) (And.intro ⟨rfl, rfl⟩ (And.intro (And.intro rfl rfl) (And.intro (And.intro rfl rfl) (And.intro (And.intro rfl rfl) (And.intro (And.intro rfl rfl) (And.intro (And.intro rfl rfl) (And.intro (fun _ h => h) (And.intro rfl (And.intro rfl (And.intro (And.intro rfl rfl) (And.intro (And.intro rfl rfl) (And.intro (And.intro rfl (congrArg (fun c : Nat × Int => [SV.v (.int .i64 (c.1 : Nat)), SV.v (.int .i64 c.2)]) hc.symm)) trivial))))))))))))
        · have hge : ¬ (s.c.2 < 0 ∨ costF p from' s.j k + (best p s.j (k + 1)).2 < s.c.2) := by
            rw [hsum, Bool.or_eq_false_iff, decide_eq_false_iff_not, decide_eq_false_iff_not] at hge
            omega
          rw [if_neg hge] at hst
          have hb' : ¬ s.c.2 < 0 ∧ s.c.2 ≤ 700000000000000 := ⟨fun h => hge (.inl h), s.hb⟩
          have hc' : from' < s.c.1 ∧ s.c.1 ≤ p.n := s.hc.resolve_left hb'.1
          obtain ⟨c, hc⟩ : ∃ c : Nat × Int, c = s.c := ⟨_, rfl⟩
          rw [← hc] at hst hc' hb'
          refine And.intro ⟨by omega, by rw [p.hm]; omega⟩ ?_
          refine And.intro (fun hm1 => ?_) (fun hm0 => ?_)
          · have hR1 : s.c = R := hc.symm.trans (hst.1 hm1)
            refine gop_update 6 (memoOk p) rfl rfl (fun ρ S w e o r ob hmm he ho hb hg hob => ?_) ?_
            · have e1 : e (.tmp 77) = ρ 6 := he (.tmp 77) (.sl 6) rfl
              have e2 : e (.tmp 78) = keyV (from' : Nat) (wk p k : Nat) := he (.tmp 78) _ rfl
              have e3 : e (.tmp 79) = valV (best p from' (wk p k)) := (he (.tmp 79) _ rfl).trans ((congrArg valV hR1).trans (congrArg valV (hbw.symm)))
              obtain ⟨ob', h4, h5⟩ := put_run p from' (wk p k) r w hg hob
              refine ⟨ob', ?_, h5⟩
              rw [← e2, ← e3, ← hb, ← e1] at h4
              replace h4 : (Instr.mapUpdate 44 (e (.tmp 77)) (e (.tmp 78)) (e (.tmp 79))).run cf.P w = .ok () { w with heap := w.heap.setIfInBounds r ob' } := h4
              simp only [execOp, ho, Sem.run_bind, h4, Result.andThen_ok, Sem.run_pure]
            · exact ⟨[0, 1, 2, 3, 4, 5, 6, 7, 8], rfl, rfl, rfl, And.intro ⟨rfl, rfl⟩ (And.intro (And.intro rfl rfl) (And.intro (And.intro rfl rfl) (And.intro (And.intro rfl rfl) (And.intro (And.intro rfl rfl) (And.intro (And.intro rfl rfl) (And.intro (fun _ h => h) (And.intro rfl (And.intro rfl trivial)))))))), congrArg chS hR1⟩
          · refine ⟨[0, 1, 2, 3, 4, 5, 6, 7, 8, 9, 10, 11], ⟨s.j + 1, s.s - 1, c, by omega, by omega, .inr hc', fun h => absurd h hb'.1, hb'.2, hst.2 hm0⟩, ?_, by show p.n + 1 - (s.j + 1) < p.n + 1 - s.j; omega⟩
            exact And.intro (And.intro rfl (And.intro rfl (And.intro rfl (And.intro rfl (And.intro rfl (And.intro rfl (And.intro rfl (And.intro rfl (And.intro rfl (And.intro rfl (And.intro (svI (i64_succ s.j (by omega))) trivial))))))))))) (And.intro ⟨rfl, rfl⟩ (And.intro (And.intro rfl rfl) (And.intro (And.intro rfl rfl) (And.intro (And.intro rfl rfl) (And.intro (And.intro rfl rfl) (And.intro (And.intro rfl rfl) (And.intro (fun _ h => h) (And.intro rfl (And.intro rfl (And.intro (And.intro rfl rfl) (And.intro (And.intro rfl rfl) (And.intro (And.intro rfl (congrArg (fun c : Nat × Int => [SV.v (.int .i64 (c.1 : Nat)), SV.v (.int .i64 c.2)]) hc.symm)) trivial))))))))))))
      · have hgt : ¬ s.j ≤ p.n := by
          have : ¬ ((s.j : Nat) : Int) ≤ ((p.n : Nat) : Int) := of_decide_eq_false hgt
          omega
        have hs0 : s.s = 0 := by omega
        have hR1 : s.c = R := by
          have := s.e
          rw [hs0] at this
          exact this
        refine gop_update 6 (memoOk p) rfl rfl (fun ρ S w e o r ob hmm he ho hb hg hob => ?_) ?_
        · have e1 : e (.tmp 77) = ρ 6 := he (.tmp 77) (.sl 6) rfl
          have e2 : e (.tmp 78) = keyV (from' : Nat) (wk p k : Nat) := he (.tmp 78) _ rfl
          have e3 : e (.tmp 79) = valV (best p from' (wk p k)) := (he (.tmp 79) _ rfl).trans ((congrArg valV hR1).trans (congrArg valV (hbw.symm)))
          obtain ⟨ob', h4, h5⟩ := put_run p from' (wk p k) r w hg hob
          refine ⟨ob', ?_, h5⟩
          rw [← e2, ← e3, ← hb, ← e1] at h4
          replace h4 : (Instr.mapUpdate 44 (e (.tmp 77)) (e (.tmp 78)) (e (.tmp 79))).run cf.P w = .ok () { w with heap := w.heap.setIfInBounds r ob' } := h4
          simp only [execOp, ho, Sem.run_bind, h4, Result.andThen_ok, Sem.run_pure]
        · exact ⟨[0, 1, 2, 3, 4, 5, 6, 7, 8], rfl, rfl, rfl, And.intro ⟨rfl, rfl⟩ (And.intro (And.intro rfl rfl) (And.intro (And.intro rfl rfl) (And.intro (And.intro rfl rfl) (And.intro (And.intro rfl rfl) (And.intro (And.intro rfl rfl) (And.intro (fun _ h => h) (And.intro rfl (And.intro rfl trivial)))))))), congrArg chS hR1⟩
theorem best_all (p : Par) : ∀ m, BestS p m := fun m => Nat.strongRecOn m (best_s p)
end Go.Proofs.Ytiaaiihdamkeaaa
