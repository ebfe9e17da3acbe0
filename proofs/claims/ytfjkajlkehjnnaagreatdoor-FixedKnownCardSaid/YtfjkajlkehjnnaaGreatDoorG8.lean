/- The reference's numbers: less, zero. -/
import Derived.Test.YtfjkajlkehjnnaaGreatDoorG7
namespace Go.Proofs.YtfjkajlkehjnnaaGreatDoor
open Go Go.Eng Go.RowKit Go.Ar

theorem nd_t {p : Prop} [Decidable p] (h : (!decide p) = true) : ¬ p := by
  rw [Bool.not_eq_true'] at h; exact of_decide_eq_false h
theorem nd_f {p : Prop} [Decidable p] (h : (!decide p) = false) : p := by
  rw [Bool.not_eq_false'] at h; exact of_decide_eq_true h
theorem val_big {xs : List Nat} (h : Dg xs) {k : Nat} (hk : xs.length ≤ k) : val xs / R ^ k = 0 :=
  Nat.div_eq_of_lt (Nat.lt_of_lt_of_le (val_lt h) (Nat.pow_le_pow_right (by decide) hk))
theorem nth_out {xs : List Nat} {j : Nat} (h : ¬ j < xs.length) : nth xs j = 0 := by
  unfold nth
  rw [List.getD_eq_getElem?_getD, List.getElem?_eq_none (by omega)]; rfl
theorem less_dec {A C j : Nat} (he : A / R ^ (j + 1) = C / R ^ (j + 1)) (hne : A / R ^ j % R ≠ C / R ^ j % R) : (A / R ^ j % R < C / R ^ j % R ↔ A < C) := by
  rw [pdiv, pdiv] at he
  have key : ∀ {P Q : Nat}, P / R ^ j / R = Q / R ^ j / R → P / R ^ j % R < Q / R ^ j % R → P < Q := fun {P Q} h1 h2 => by
    rcases Nat.lt_or_ge P Q with h | h
    · exact h
    · have := Nat.div_le_div_right (c := R ^ j) h
      have d1 := Nat.div_add_mod (P / R ^ j) R
      have d2 := Nat.div_add_mod (Q / R ^ j) R
      rw [h1] at d1
      omega
  constructor
  · exact key he
  · intro h
    rcases Nat.lt_trichotomy (A / R ^ j % R) (C / R ^ j % R) with h1 | h1 | h1
    · exact h1
    · exact absurd h1 hne
    · have := key he.symm h1; omega
theorem less_eq {A C j : Nat} (he : A / R ^ (j + 1) = C / R ^ (j + 1)) (h : A / R ^ j % R = C / R ^ j % R) : A / R ^ j = C / R ^ j := by
  rw [pdiv, pdiv] at he
  have d1 := Nat.div_add_mod (A / R ^ j) R
  have d2 := Nat.div_add_mod (C / R ^ j) R
  rw [he, h] at d1
  omega

structure Less (xs ys : List Nat) where
  k : Nat
  hk : k ≤ max xs.length ys.length
  he : val xs / R ^ k = val ys / R ^ k
theorem less_c (xs ys : List Nat) (u v : Value) (w : World) (hx : Dg xs) (hy : Dg ys) (hlx : xs.length ≤ 100000) (hly : ys.length ≤ 100000) (hu : Rd w u 1 uE xs) (hv : Rd w v 1 uE ys) :
    Calls Tryz.prog 48 #[u, v] w fun e w' => e = .returned (.bool (decide (val xs < val ys))) ∧ Below w.heap.size w w' := by
  refine calls_exec (cf := cf) cfok (fn := Tryz.f48) Tryz.func48 rfl [.sl 0, .sl 1] [rdU xs, rdU ys] (ρ := fun i => if i = 0 then u else v) (· < w.heap.size) rfl rfl rfl (by simp [svOkL, svOk]) (memRd (fun _ h => h) ⟨hu, hv, trivial⟩) ?_
  refine ⟨Less xs ys, fun s => ⟨40, [⟨0, [], .sl 0⟩, ⟨1, [], .sl 1⟩, ⟨5, [], .v (.int .i64 ((s.k : Int) - 1))⟩], [rdU xs, rdU ys], [], dropL nats 2⟩, fun s => s.k, ⟨[0, 1], ⟨max xs.length ys.length, Nat.le_refl _, by rw [val_big hx (Nat.le_max_left _ _), val_big hy (Nat.le_max_right _ _)]⟩, ?_⟩, fun s => ?_⟩
  · refine And.intro (And.intro rfl (And.intro rfl (And.intro (svI ?_) trivial))) (And.intro rfl (And.intro rfl trivial))
    show IntKind.i64.wrap (max (xs.length : Int) (ys.length : Int) - 1) = ((max xs.length ys.length : Nat) : Int) - 1
    rw [i64_id _ (by omega) (by omega)]; omega
  have hk := s.hk
  refine And.intro (fun hge => ?_) (fun hlt => ?_)
  · have hge : (s.k : Int) - 1 ≥ 0 := of_decide_eq_true hge
    obtain ⟨j, hj⟩ : ∃ j, s.k = j + 1 := ⟨s.k - 1, by omega⟩
    have hi : (s.k : Int) - 1 = (j : Int) := by omega
    have hiN : ((s.k : Int) - 1).toNat = j := by omega
    have he := s.he
    rw [hj] at he
    have nx := nth_val hx j
    have ny := nth_val hy j
    have hwr : IntKind.i64.wrap ((s.k : Int) - 1 - 1) = (j : Int) - 1 := by rw [i64_id _ (by omega) (by omega)]; omega
    have tX : nth xs ((s.k : Int) - 1).toNat = nth xs j := by rw [hiN]
    have tY : nth ys ((s.k : Int) - 1).toNat = nth ys j := by rw [hiN]
    refine And.intro (fun hx1 => ?_) (fun hx1 => ?_)
    · have hx1 : (s.k : Int) - 1 < (xs.length : Int) := of_decide_eq_true hx1
      refine And.intro ⟨by omega, by omega⟩ ?_
      refine And.intro (fun hy1 => ?_) (fun hy1 => ?_)
      · have hy1 : (s.k : Int) - 1 < (ys.length : Int) := of_decide_eq_true hy1
        refine And.intro ⟨by omega, by omega⟩ ?_
        refine And.intro (fun hne => ?_) (fun heq => ?_)
        · have hne : ¬ (((nth xs ((s.k : Int) - 1).toNat : Nat) : Int) : Int) = (((nth ys ((s.k : Int) - 1).toNat : Nat) : Int) : Int) := by
            have := nd_t hne
            exact this
          have hd := less_dec he (by rw [← nx, ← ny]; intro e; apply hne; omega)
          rw [← nx, ← ny] at hd
          refine fun ρ S w' hi => ⟨?_, hi.below⟩
          show Ending.returned (.bool (decide ((((nth xs ((s.k : Int) - 1).toNat : Nat) : Int) : Int) < (((nth ys ((s.k : Int) - 1).toNat : Nat) : Int) : Int)))) = _
          congr 2
          exact decide_eq_decide.2 (by omega)
        · have heq : (((nth xs ((s.k : Int) - 1).toNat : Nat) : Int) : Int) = (((nth ys ((s.k : Int) - 1).toNat : Nat) : Int) : Int) := by
            have := nd_f heq
            exact this
          have h2 := less_eq he (by rw [← nx, ← ny]; omega)
          exact ⟨[0, 1], ⟨j, by omega, h2⟩, And.intro (And.intro rfl (And.intro rfl (And.intro (svI hwr) trivial))) (And.intro rfl (And.intro rfl trivial)), by show j < s.k; omega⟩
      · have hy1 : ¬ (s.k : Int) - 1 < (ys.length : Int) := of_decide_eq_false hy1
        have zy := nth_out (xs := ys) (j := j) (by omega)
        refine And.intro (fun hne => ?_) (fun heq => ?_)
        · have hne : ¬ (((nth xs ((s.k : Int) - 1).toNat : Nat) : Int) : Int) = (0 : Int) := by
            have := nd_t hne
            exact this
          have hd := less_dec he (by rw [← nx, ← ny]; intro e; apply hne; omega)
          rw [← nx, ← ny] at hd
          refine fun ρ S w' hi => ⟨?_, hi.below⟩
          show Ending.returned (.bool (decide ((((nth xs ((s.k : Int) - 1).toNat : Nat) : Int) : Int) < (0 : Int)))) = _
          congr 2
          exact decide_eq_decide.2 (by omega)
        · have heq : (((nth xs ((s.k : Int) - 1).toNat : Nat) : Int) : Int) = (0 : Int) := by
            have := nd_f heq
            exact this
          have h2 := less_eq he (by rw [← nx, ← ny]; omega)
          exact ⟨[0, 1], ⟨j, by omega, h2⟩, And.intro (And.intro rfl (And.intro rfl (And.intro (svI hwr) trivial))) (And.intro rfl (And.intro rfl trivial)), by show j < s.k; omega⟩
    · have hx1 : ¬ (s.k : Int) - 1 < (xs.length : Int) := of_decide_eq_false hx1
      have zx := nth_out (xs := xs) (j := j) (by omega)
      refine And.intro (fun hy1 => ?_) (fun hy1 => ?_)
      · have hy1 : (s.k : Int) - 1 < (ys.length : Int) := of_decide_eq_true hy1
        refine And.intro ⟨by omega, by omega⟩ ?_
        refine And.intro (fun hne => ?_) (fun heq => ?_)
        · have hne : ¬ (0 : Int) = (((nth ys ((s.k : Int) - 1).toNat : Nat) : Int) : Int) := by
            have := nd_t hne
            exact this
          have hd := less_dec he (by rw [← nx, ← ny]; intro e; apply hne; omega)
          rw [← nx, ← ny] at hd
          refine fun ρ S w' hi => ⟨?_, hi.below⟩
          show Ending.returned (.bool (decide ((0 : Int) < (((nth ys ((s.k : Int) - 1).toNat : Nat) : Int) : Int)))) = _
          congr 2
          exact decide_eq_decide.2 (by omega)
        · have heq : (0 : Int) = (((nth ys ((s.k : Int) - 1).toNat : Nat) : Int) : Int) := by
            have := nd_f heq
            exact this
          have h2 := less_eq he (by rw [← nx, ← ny]; omega)
          exact ⟨[0, 1], ⟨j, by omega, h2⟩, And.intro (And.intro rfl (And.intro rfl (And.intro (svI hwr) trivial))) (And.intro rfl (And.intro rfl trivial)), by show j < s.k; omega⟩
      · have hy1 : ¬ (s.k : Int) - 1 < (ys.length : Int) := of_decide_eq_false hy1
        have zy := nth_out (xs := ys) (j := j) (by omega)
        refine And.intro (fun hne => ?_) (fun heq => ?_)
        · have hne : ¬ (0 : Int) = (0 : Int) := by
            have := nd_t hne
            exact this
          have hd := less_dec he (by rw [← nx, ← ny]; intro e; apply hne; omega)
          rw [← nx, ← ny] at hd
          refine fun ρ S w' hi => ⟨?_, hi.below⟩
          show Ending.returned (.bool (decide ((0 : Int) < (0 : Int)))) = _
          congr 2
          exact decide_eq_decide.2 (by omega)
        · have heq : (0 : Int) = (0 : Int) := by
            have := nd_f heq
            exact this
          have h2 := less_eq he (by rw [← nx, ← ny]; omega)
          exact ⟨[0, 1], ⟨j, by omega, h2⟩, And.intro (And.intro rfl (And.intro rfl (And.intro (svI hwr) trivial))) (And.intro rfl (And.intro rfl trivial)), by show j < s.k; omega⟩
  · have hlt : ¬ (s.k : Int) - 1 ≥ 0 := of_decide_eq_false hlt
    have hk0 : s.k = 0 := by omega
    have he := s.he
    rw [hk0] at he
    simp only [Nat.pow_zero, Nat.div_one] at he
    refine fun ρ S w' hi => ⟨?_, hi.below⟩
    rw [he]
    show Ending.returned (.bool false) = _
    congr 2
    exact (decide_eq_false (Nat.lt_irrefl _)).symm
end Go.Proofs.YtfjkajlkehjnnaaGreatDoor
