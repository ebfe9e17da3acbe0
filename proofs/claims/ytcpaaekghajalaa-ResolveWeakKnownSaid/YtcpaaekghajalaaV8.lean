/- The law ResolveWeakEnds: true for every input. -/
import Derived.Test.YtcpaaekghajalaaV7
namespace Go.Proofs.Ytcpaaekghajalaa
open Go Go.Eng Go.RowKit

set_option maxHeartbeats 2000000 in
theorem lawWeakEnds_c (l : List Int) (sos : Int) (v : Value) (w : World) (hv : Rd w v 1 cE l) :
    Calls Try.prog 10 #[v, .int .u8 sos] w fun e w' => e = .returned (.bool true) ∧ Below w.heap.size w w' := by
  refine calls_exec (cf := cf) cfok (fn := Try.f10) Try.func10 rfl [.sl 0, .v (.int .u8 sos)] [.rd Int inferInstance 1 cE l] (ρ := fun _ => v) (· < w.heap.size) rfl rfl rfl (by simp [svOkL, svOk]) (memRd (fun _ h => h) ⟨hv, trivial⟩) ?_
  refine And.intro (fun h => ?_) (fun h => ?_)
  · exact Or.inl ⟨_, fun ρ S w' hm => arabic_c w', fun ρ S w' hi => ⟨rfl, hi.below⟩⟩
  have hl : l.length ≤ 3000 := by have : ¬ (l.length : Int) > 3000 := by simpa using h
                                  omega
  have hn := weakX_len l sos
  refine Or.inr (lcall_fresh (weakX l sos) (fun ρ S w' hm => weak_c l sos _ w' (by omega) (hm.rd 0 rfl rfl)) ?_)
  refine And.intro (fun h => ?_) (fun _ => ?_)
  · have : ¬ ((weakX l sos).length : Int) = (l.length : Nat) := by simpa using h
    omega
  have h0 : ∀ (b : Bool), b = true → b = false → False := by intro b h1 h2; rw [h1] at h2; cases h2
  refine And.intro (fun hs => ?_) (fun hs => ?_)
  case' refine_1 =>
    have hS : (2 : Int) = strF (nAt l (wS sos) 0) := by
      have hs : sos = 2 := by simpa using hs
      rw [show nAt l (wS sos) 0 = wS sos from rfl]; simp [wS, hs, strF]
    have hU : false = decide (nAt l (wS sos) 0 = 3) := by
      rw [show nAt l (wS sos) 0 = wS sos from rfl]; rcases wS_12 sos with e | e <;> rw [e] <;> rfl
  case' refine_2 =>
    have hS : (1 : Int) = strF (nAt l (wS sos) 0) := by
      have hs : ¬ sos = 2 := by simpa using hs
      rw [show nAt l (wS sos) 0 = wS sos from rfl]; simp [wS, hs, strF]
    have hU : false = decide (nAt l (wS sos) 0 = 3) := by
      rw [show nAt l (wS sos) 0 = wS sos from rfl]; rcases wS_12 sos with e | e <;> rw [e] <;> rfl
  all_goals
    refine ⟨{ i : Nat // i ≤ l.length }, fun i => ⟨111, [⟨0, [], .sl 0⟩, ⟨5, [], .sl 1⟩, ⟨6, [], .v (.int .u8 (strF (nAt l (wS sos) i.1)))⟩, ⟨7, [], .v (.bool (decide (nAt l (wS sos) i.1 = 3)))⟩, ⟨8, [], .v (.int .i64 i.1)⟩], [.rd Int inferInstance 1 cE l, ow (weakX l sos)], [], dropL nats 2⟩,
      fun i => l.length - i.1, ⟨[0, 1], ⟨0, by omega⟩, ?_⟩, fun i => ?_⟩
    · exact And.intro (And.intro rfl (And.intro rfl (And.intro (svu hS) (And.intro (svb hU) (And.intro rfl trivial))))) (And.intro rfl (And.intro rfl trivial))
    obtain ⟨i, hi⟩ := i
    refine And.intro (fun hlt => ?_) (fun hge => ?_)
    · have hlt : i < l.length := by simpa using hlt
      obtain ⟨⟨e3, e5, e6, e8, e9⟩, e4, ec12, ec3, ec4, eco, en⟩ := ends_at l sos i hlt
      have hxe : nth (weakX l sos) (i : Int).toNat = nth (weakX l sos) i := rfl
      have nxt : ∀ (b : Int), b = nAt l (wS sos) (i + 1) → SV.v (.int .i64 (IntKind.i64.wrap ((i : Int) + 1))) = SV.v (.int .i64 ((i + 1 : Nat) : Int)) := fun _ _ => sv_i64 (i64_succ i (by omega))
      refine And.intro ⟨by show (0 : Int) ≤ (i : Int); omega, by show (i : Int) < ((weakX l sos).length : Nat); omega⟩ ?_
      refine And.intro (fun h => absurd (of_decide_eq_true h) e3) (fun _ => ?_)
      refine And.intro (fun h => absurd (of_decide_eq_true h) e5) (fun _ => ?_)
      refine And.intro (fun h => absurd (of_decide_eq_true h) e6) (fun _ => ?_)
      refine And.intro (fun h => absurd (of_decide_eq_true h) e8) (fun _ => ?_)
      refine And.intro (fun h => absurd (of_decide_eq_true h) e9) (fun _ => ?_)
      refine And.intro (fun h4 => ?_) (fun h4 => ?_)
      case' refine_1 =>
        refine And.intro (fun hbad => ?_) (fun _ => ?_)
        case' refine_1 =>
          exfalso
          have hx := e4 (of_decide_eq_true h4)
          have hbad : strF (nAt l (wS sos) i) = 1 ∨ nAt l (wS sos) i = 3 := by simpa using hbad
          rw [strF_1] at hbad
          omega
      all_goals
        refine And.intro ⟨by show (0 : Int) ≤ (i : Int); omega, by show (i : Int) < (l.length : Nat); omega⟩ ?_
        refine And.intro (fun c1 => ?_) (fun c1 => ?_)
        · refine And.intro (fun _ => ?_) (fun h => absurd (c1.symm.trans h) (by simp))
          have hc : nth l i = 1 := of_decide_eq_true c1
          obtain ⟨q1, q2⟩ := ec12 (.inl hc)
          refine Or.inl ⟨by kernel_rfl, ?_⟩
          refine And.intro ⟨by show (0 : Int) ≤ (i : Int); omega, by show (i : Int) < ((weakX l sos).length : Nat); omega⟩ ?_
          refine And.intro ⟨by show (0 : Int) ≤ (i : Int); omega, by show (i : Int) < (l.length : Nat); omega⟩ ?_
          refine And.intro (fun h => ?_) (fun _ => ?_)
          · have h : ¬ nth (weakX l sos) i = nth l i := by simpa using h
            exact absurd q1 h
          refine And.intro ⟨by show (0 : Int) ≤ (i : Int); omega, by show (i : Int) < (l.length : Nat); omega⟩ ?_
          exact ⟨[0, 1], ⟨i + 1, hlt⟩, And.intro (And.intro rfl (And.intro rfl (And.intro (svu (by show nth l i = strF (nAt l (wS sos) (i + 1)); rw [q2, hc]; rfl)) (And.intro (svb (by show false = decide (nAt l (wS sos) (i + 1) = 3); rw [q2, hc]; rfl)) (And.intro (sv_i64 (i64_succ i (by omega))) trivial))))) (And.intro rfl (And.intro rfl trivial)), by show _ - (i + 1) < _ - i; omega⟩
        have c1 : ¬ nth l i = 1 := of_decide_eq_false c1
        refine And.intro (fun c2 => ?_) (fun c2 => ?_)
        · have hc : nth l i = 2 := of_decide_eq_true c2
          obtain ⟨q1, q2⟩ := ec12 (.inr hc)
          refine Or.inl ⟨by kernel_rfl, ?_⟩
          refine And.intro ⟨by show (0 : Int) ≤ (i : Int); omega, by show (i : Int) < ((weakX l sos).length : Nat); omega⟩ ?_
          refine And.intro ⟨by show (0 : Int) ≤ (i : Int); omega, by show (i : Int) < (l.length : Nat); omega⟩ ?_
          refine And.intro (fun h => ?_) (fun _ => ?_)
          · have h : ¬ nth (weakX l sos) i = nth l i := by simpa using h
            exact absurd q1 h
          refine And.intro ⟨by show (0 : Int) ≤ (i : Int); omega, by show (i : Int) < (l.length : Nat); omega⟩ ?_
          exact ⟨[0, 1], ⟨i + 1, hlt⟩, And.intro (And.intro rfl (And.intro rfl (And.intro (svu (by show nth l i = strF (nAt l (wS sos) (i + 1)); rw [q2, hc]; rfl)) (And.intro (svb (by show false = decide (nAt l (wS sos) (i + 1) = 3); rw [q2, hc]; rfl)) (And.intro (sv_i64 (i64_succ i (by omega))) trivial))))) (And.intro rfl (And.intro rfl trivial)), by show _ - (i + 1) < _ - i; omega⟩
        have c2 : ¬ nth l i = 2 := of_decide_eq_false c2
        refine And.intro (fun c3 => ?_) (fun c3 => ?_)
        · have hc : nth l i = 3 := of_decide_eq_true c3
          obtain ⟨q1, q2⟩ := ec3 hc
          refine And.intro ⟨by show (0 : Int) ≤ (i : Int); omega, by show (i : Int) < ((weakX l sos).length : Nat); omega⟩ ?_
          refine And.intro (fun h => ?_) (fun _ => ?_)
          · have h : ¬ nth (weakX l sos) i = 2 := by simpa using h
            exact absurd q1 h
          exact ⟨[0, 1], ⟨i + 1, hlt⟩, And.intro (And.intro rfl (And.intro rfl (And.intro (svu (by show (2 : Int) = strF (nAt l (wS sos) (i + 1)); rw [q2]; rfl)) (And.intro (svb (by show true = decide (nAt l (wS sos) (i + 1) = 3); rw [q2]; rfl)) (And.intro (sv_i64 (i64_succ i (by omega))) trivial))))) (And.intro rfl (And.intro rfl trivial)), by show _ - (i + 1) < _ - i; omega⟩
        have c3 : ¬ nth l i = 3 := of_decide_eq_false c3
        have hnn := en ⟨c1, c2, c3⟩
        have fin : ∀ z : Int, z = IntKind.i64.wrap ((i : Int) + 1) → (SV.v (.int .u8 (strF (nAt l (wS sos) i))) = SV.v (.int .u8 (strF (nAt l (wS sos) (i + 1)))) ∧ SV.v (.bool (decide (nAt l (wS sos) i = 3))) = SV.v (.bool (decide (nAt l (wS sos) (i + 1) = 3)))) ∧ SV.v (.int .i64 z) = SV.v (.int .i64 ((i + 1 : Nat) : Int)) := fun z hz => ⟨⟨by rw [hnn], by rw [hnn]⟩, by rw [hz]; exact sv_i64 (i64_succ i (by omega))⟩
        have fin := fin _ rfl
        refine And.intro (fun c4 => ?_) (fun c4 => ?_)
        · have hc : nth l i = 4 := of_decide_eq_true c4
          obtain ⟨q1, q2⟩ := ec4 hc
          refine And.intro ⟨by show (0 : Int) ≤ (i : Int); omega, by show (i : Int) < ((weakX l sos).length : Nat); omega⟩ ?_
          refine And.intro ?_ ?_
          · first | exact fun _ => ⟨by show (0 : Int) ≤ (i : Int); omega, by show (i : Int) < ((weakX l sos).length : Nat); omega⟩ | exact fun _ _ => ⟨by show (0 : Int) ≤ (i : Int); omega, by show (i : Int) < ((weakX l sos).length : Nat); omega⟩
          refine And.intro (fun h => ?_) (fun _ => ?_)
          · exfalso
            have h : ((decide (nAt l (wS sos) i = 3) != decide (nth (weakX l sos) i = 7)) || (!decide (nAt l (wS sos) i = 3) && (decide (nth (weakX l sos) i = 1) != decide (strF (nAt l (wS sos) i) = 1)))) = true := h
            by_cases n3 : nAt l (wS sos) i = 3
            · have := q1.1 n3
              simp [n3, this] at h
            · have r1 : ¬ nth (weakX l sos) i = 7 := fun e => n3 (q1.2 e)
              have r2 := q2 n3
              simp [n3, r1] at h
              exact h (r2.trans strF_1.symm)
          · exact ⟨[0, 1], ⟨i + 1, hlt⟩, And.intro (And.intro rfl (And.intro rfl (And.intro fin.1.1 (And.intro fin.1.2 (And.intro fin.2 trivial))))) (And.intro rfl (And.intro rfl trivial)), by show _ - (i + 1) < _ - i; omega⟩
        have c4 : ¬ nth l i = 4 := of_decide_eq_false c4
        refine And.intro (fun c5 => ?_) (fun c5 => ?_)
        · refine And.intro (fun _ => ?_) (fun h => absurd (c5.symm.trans h) (by simp))
          exact ⟨[0, 1], ⟨i + 1, hlt⟩, And.intro (And.intro rfl (And.intro rfl (And.intro fin.1.1 (And.intro fin.1.2 (And.intro fin.2 trivial))))) (And.intro rfl (And.intro rfl trivial)), by show _ - (i + 1) < _ - i; omega⟩
        have c5 : ¬ nth l i = 5 := of_decide_eq_false c5
        refine And.intro (fun c6 => ?_) (fun c6 => ?_)
        · refine And.intro (fun _ => ?_) (fun h => absurd (c6.symm.trans h) (by simp))
          exact ⟨[0, 1], ⟨i + 1, hlt⟩, And.intro (And.intro rfl (And.intro rfl (And.intro fin.1.1 (And.intro fin.1.2 (And.intro fin.2 trivial))))) (And.intro rfl (And.intro rfl trivial)), by show _ - (i + 1) < _ - i; omega⟩
        have c6 : ¬ nth l i = 6 := of_decide_eq_false c6
        refine And.intro (fun c8 => ?_) (fun c8 => ?_)
        · refine And.intro (fun _ => ?_) (fun h => absurd (c8.symm.trans h) (by simp))
          exact ⟨[0, 1], ⟨i + 1, hlt⟩, And.intro (And.intro rfl (And.intro rfl (And.intro fin.1.1 (And.intro fin.1.2 (And.intro fin.2 trivial))))) (And.intro rfl (And.intro rfl trivial)), by show _ - (i + 1) < _ - i; omega⟩
        have c8 : ¬ nth l i = 8 := of_decide_eq_false c8
        refine And.intro (fun c9 => ?_) (fun c9 => ?_)
        · exact ⟨[0, 1], ⟨i + 1, hlt⟩, And.intro (And.intro rfl (And.intro rfl (And.intro fin.1.1 (And.intro fin.1.2 (And.intro fin.2 trivial))))) (And.intro rfl (And.intro rfl trivial)), by show _ - (i + 1) < _ - i; omega⟩
        have c9 : ¬ nth l i = 9 := of_decide_eq_false c9
        have q1 := eco ⟨c1, c2, c3, c4, c5, c6, c8, c9⟩
        refine Or.inl ⟨by kernel_rfl, ?_⟩
        refine And.intro ⟨by show (0 : Int) ≤ (i : Int); omega, by show (i : Int) < ((weakX l sos).length : Nat); omega⟩ ?_
        refine And.intro ⟨by show (0 : Int) ≤ (i : Int); omega, by show (i : Int) < (l.length : Nat); omega⟩ ?_
        refine And.intro (fun h => ?_) (fun _ => ?_)
        · have h : ¬ nth (weakX l sos) i = nth l i := by simpa using h
          exact absurd q1 h
        exact ⟨[0, 1], ⟨i + 1, hlt⟩, And.intro (And.intro rfl (And.intro rfl (And.intro fin.1.1 (And.intro fin.1.2 (And.intro fin.2 trivial))))) (And.intro rfl (And.intro rfl trivial)), by show _ - (i + 1) < _ - i; omega⟩
    · exact Or.inl ⟨_, fun ρ S w' hm => arabic_c w', fun ρ S w' hi => ⟨rfl, hi.below⟩⟩
end Go.Proofs.Ytcpaaekghajalaa
