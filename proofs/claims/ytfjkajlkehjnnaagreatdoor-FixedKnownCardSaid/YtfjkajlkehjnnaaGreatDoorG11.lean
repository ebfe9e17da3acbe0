/- The reference's numbers: divide. -/
import Derived.Test.YtfjkajlkehjnnaaGreatDoorG10
namespace Go.Proofs.YtfjkajlkehjnnaaGreatDoor
open Go Go.Eng Go.RowKit Go.Ar

theorem and1u {x : Nat} (hx : x < B) : bitsV .and .u32 (x : Int) 1 = ((x % 2 : Nat) : Int) := by
  have h1 : (BitVec.ofInt IntKind.u32.bits (x : Int)).toNat = x := by
    simp only [B] at hx
    simp [IntKind.bits]
    omega
  have h2 : (BitVec.ofInt IntKind.u32.bits (1 : Int)).toNat = 1 := by decide
  simp only [bitsV, BitVec.toNat_and, h1, h2]
  rw [show (1 : Nat) = 2 ^ 1 - 1 from rfl, Nat.and_two_pow_sub_one_eq_mod]
  have : x % 2 ^ 1 < 2 ^ 1 := Nat.mod_lt _ (by decide)
  exact u32i (by simp only [B]; omega)
theorem bit_of (V j : Nat) : V / R ^ (j / 16) % R / 2 ^ (j % 16) % 2 = V / 2 ^ j % 2 := by
  have hj := Nat.div_add_mod j 16
  have ht := Nat.mod_lt j (by decide : 16 > 0)
  generalize j / 16 = a at *
  generalize j % 16 = t at *
  subst hj
  have e1 : (R : Nat) = 2 ^ t * 2 ^ (16 - t) := by rw [← Nat.pow_add, show t + (16 - t) = 16 by omega]
  have e2 : V / R ^ a % R / 2 ^ t = V / R ^ a / 2 ^ t % 2 ^ (16 - t) := by
    conv => lhs; rw [show V / R ^ a % R = V / R ^ a % (2 ^ t * 2 ^ (16 - t)) by rw [← e1]]
    rw [Nat.mod_mul_right_div_self]
  rw [e2, Nat.mod_mod_of_dvd _ (by rw [show 16 - t = (15 - t) + 1 by omega, Nat.pow_succ]; exact Nat.dvd_mul_left _ _), Nat.div_div_eq_div_mul, Rpow, ← Nat.pow_add]
theorem div_t {A j C : Nat} (hC : 0 < C) (h : ¬ 2 * (A / 2 ^ (j + 1) % C) + A / 2 ^ j % 2 < C) :
    2 * (A / 2 ^ (j + 1) / C) + 1 = A / 2 ^ j / C ∧ 2 * (A / 2 ^ (j + 1) % C) + A / 2 ^ j % 2 - C = A / 2 ^ j % C := by
  rw [show A / 2 ^ (j + 1) = A / 2 ^ j / 2 by rw [Nat.pow_succ, Nat.div_div_eq_div_mul]] at *
  generalize A / 2 ^ j = V at *
  have d1 := Nat.div_add_mod (V / 2) C
  have d2 := Nat.mod_lt (V / 2) hC
  have e : V = C * (2 * (V / 2 / C) + 1) + (2 * (V / 2 % C) + V % 2 - C) := by
    rw [Nat.mul_add, Nat.mul_left_comm]; omega
  have hr : 2 * (V / 2 % C) + V % 2 - C < C := by omega
  constructor
  · conv => rhs; rw [e]
    rw [Nat.mul_add_div hC, Nat.div_eq_of_lt hr, Nat.add_zero]
  · conv => rhs; rw [e]
    rw [Nat.mul_add_mod, Nat.mod_eq_of_lt hr]
theorem div_f {A j C : Nat} (hC : 0 < C) (h : 2 * (A / 2 ^ (j + 1) % C) + A / 2 ^ j % 2 < C) :
    2 * (A / 2 ^ (j + 1) / C) + 0 = A / 2 ^ j / C ∧ 2 * (A / 2 ^ (j + 1) % C) + A / 2 ^ j % 2 = A / 2 ^ j % C := by
  rw [show A / 2 ^ (j + 1) = A / 2 ^ j / 2 by rw [Nat.pow_succ, Nat.div_div_eq_div_mul]] at *
  generalize A / 2 ^ j = V at *
  have d1 := Nat.div_add_mod (V / 2) C
  have e : V = C * (2 * (V / 2 / C)) + (2 * (V / 2 % C) + V % 2) := by
    rw [Nat.mul_left_comm]; omega
  constructor
  · conv => rhs; rw [e]
    rw [Nat.mul_add_div hC, Nat.div_eq_of_lt h]
  · conv => rhs; rw [e]
    rw [Nat.mul_add_mod, Nat.mod_eq_of_lt h]

theorem divide_l (xs ys : List Nat) (hx : Dg xs) (hy : Dg ys) (hlx : xs.length ≤ 1000) (hly : ys.length ≤ 1000) (hC : 0 < val ys) :
    LCall Tryz.prog ⟨0, [], [owU xs, owU ys], [], []⟩ 47 [.sl 0, .sl 1] (fun st' s => st'.ch = [owU xs, owU ys, owU (toL (val xs / val ys)), owU (toL (val xs % val ys))] ∧ s = .tup [.sl 2, .sl 3]) := by
  refine lcall_exec (cf := cf) cfok (fn := Tryz.f47) Tryz.func47 rfl _ _ [owU xs, owU ys, owU (toL (val xs / val ys)), owU (toL (val xs % val ys))] (.tup [.sl 2, .sl 3]) rfl rfl (by simp [svOkL, svOk]) rfl ⟨⟨Nat.le_refl _, rfl⟩, ⟨Nat.le_refl _, rfl⟩, trivial⟩ rfl rfl ?_
  refine ⟨{ k : Nat // k ≤ 16 * xs.length }, fun s => ⟨41, [⟨0, [], .sl 0⟩, ⟨1, [], .sl 1⟩, ⟨6, [], .sl 2⟩, ⟨7, [], .sl 3⟩, ⟨8, [], .v (.int .i64 ((s.1 : Int) - 1))⟩], [owU xs, owU ys, owU (toL (val xs / 2 ^ s.1 / val ys)), owU (toL (val xs / 2 ^ s.1 % val ys))], [], dropL nats 4⟩, fun s => s.1, ⟨[0, 1, 1000, 1001], ⟨16 * xs.length, Nat.le_refl _⟩, ?_⟩, fun s => ?_⟩
  · have h0 : val xs / 2 ^ (16 * xs.length) = 0 := Nat.div_eq_of_lt (by rw [← Rpow]; exact val_lt hx)
    refine And.intro (And.intro rfl (And.intro rfl (And.intro rfl (And.intro rfl (And.intro (svI ?_) trivial))))) (And.intro rfl (And.intro rfl (And.intro ?_ (And.intro ?_ trivial))))
    · show IntKind.i64.wrap (IntKind.i64.wrap (16 * (xs.length : Int)) - 1) = ((16 * xs.length : Nat) : Int) - 1
      rw [i64_id (16 * _) (by omega) (by omega), i64_id _ (by omega) (by omega)]; omega
    · show toL (val xs / 2 ^ (16 * xs.length) / val ys) = []
      rw [h0, Nat.zero_div, toL_zero]
    · show toL (val xs / 2 ^ (16 * xs.length) % val ys) = []
      rw [h0, Nat.zero_mod, toL_zero]
  obtain ⟨k, hk⟩ := s
  refine And.intro (fun hge => ?_) (fun hlt => ?_)
  · have hge : (k : Int) - 1 ≥ 0 := of_decide_eq_true hge
    obtain ⟨j, hj⟩ : ∃ j, k = j + 1 := ⟨k - 1, by omega⟩
    subst hj
    have hi : ((j + 1 : Nat) : Int) - 1 = (j : Int) := by omega
    have hwr : IntKind.i64.wrap (((j + 1 : Nat) : Int) - 1 - 1) = (j : Int) - 1 := by rw [i64_id _ (by omega) (by omega)]; omega
    have hjl : j / 16 < xs.length := by omega
    have hdv : IntKind.i64.wrap ((((j + 1 : Nat) : Int) - 1).tdiv 16) = ((j / 16 : Nat) : Int) := by
      rw [hi, Int.tdiv_eq_ediv_of_nonneg (by omega), i64_id _ (by omega) (by omega)]; rfl
    have hrm : (((j + 1 : Nat) : Int) - 1).tmod 16 = ((j % 16 : Nat) : Int) := by
      rw [hi, Int.tmod_eq_emod_of_nonneg (by omega)]; rfl
    have h16 : (16 : Int) = 0 → False := by decide
    have hbit : bitsV .and .u32 (shrV .u32 ((nth xs (IntKind.i64.wrap ((((j + 1 : Nat) : Int) - 1).tdiv 16)).toNat : Nat) : Int) ((((j + 1 : Nat) : Int) - 1).tmod 16)) 1 = ((val xs / 2 ^ j % 2 : Nat) : Int) := by
      rw [hdv, hrm, Int.toNat_natCast, shr_n _ (by simp only [IntKind.bits]; omega), nth_val hx, and1u (by
        have : val xs / R ^ (j / 16) % R < R := Nat.mod_lt _ (by decide)
        exact Nat.lt_of_le_of_lt (Nat.div_le_self _ _) (Nat.lt_trans this (by decide))), bit_of]
    have hb2 : val xs / 2 ^ j % 2 < 2 := Nat.mod_lt _ (by decide)
    have hle : ∀ n, n ≤ val xs → (toL n).length ≤ 1000 := fun n hn => by
      have := toL_len (k := xs.length) (Nat.lt_of_le_of_lt hn (val_lt hx)); omega
    have hq : val xs / 2 ^ (j + 1) / val ys ≤ val xs := Nat.le_trans (Nat.div_le_self _ _) (Nat.div_le_self _ _)
    have hr : val xs / 2 ^ (j + 1) % val ys ≤ val xs := Nat.le_trans (Nat.mod_le _ _) (Nat.div_le_self _ _)
    have hm2 : val xs / 2 ^ (j + 1) % val ys < val ys := Nat.mod_lt _ hC
    have hlr : (toL (2 * (val xs / 2 ^ (j + 1) % val ys) + val xs / 2 ^ j % 2)).length ≤ 2000 := by
      have h2 : 2 * (val xs / 2 ^ (j + 1) % val ys) + val xs / 2 ^ j % 2 < R ^ (ys.length + 1) := by
        have h3 := val_lt hy
        rw [show R ^ (ys.length + 1) = R ^ ys.length * R from Nat.pow_succ _ _]
        generalize R ^ ys.length = P at h3 ⊢
        have h4 : P * 2 ≤ P * R := Nat.mul_le_mul_left _ (by decide)
        generalize P * R = Q at h4 ⊢
        omega
      have := toL_len h2
      omega
    refine And.intro h16 ?_
    refine And.intro ⟨by rw [hdv]; omega, by rw [hdv]; omega⟩ ?_
    refine And.intro h16 ?_
    refine And.intro (by rw [hrm]; exact Int.natCast_nonneg _) ?_
    refine Or.inr (lcall_fresh (toL (2 * (val xs / 2 ^ (j + 1) % val ys) + val xs / 2 ^ j % 2)) (fun ρ S w hm => by
      have h := double_c (toL (val xs / 2 ^ (j + 1) % val ys)) (val xs / 2 ^ j % 2) (ρ 3) w (dg_toL _) hb2 (Nat.le_trans (hle _ hr) (by decide)) (hm.own 3 rfl rfl)
      rw [val_toL, ← hbit] at h
      exact h) ?_)
    generalize hr' : 2 * (val xs / 2 ^ (j + 1) % val ys) + val xs / 2 ^ j % 2 = r' at *
    refine Or.inl ⟨.bool (decide (r' < val ys)), fun ρ S w hm => by
      have h := less_c (toL r') ys (ρ 4) (ρ 1) w (dg_toL _) hy (by omega) (by omega) (hm.own 4 rfl rfl) (hm.own 1 rfl rfl)
      rw [val_toL] at h
      exact h, ?_⟩
    refine And.intro (fun hn => ?_) (fun hn => ?_)
    · have hn : ¬ r' < val ys := nd_t hn
      rw [← hr'] at hn
      obtain ⟨t1, t2⟩ := div_t hC hn
      rw [hr'] at hn t2
      refine Or.inr (lcall_fresh (toL (r' - val ys)) (fun ρ S w hm => by
        have h := minus_c (toL r') ys (ρ 4) (ρ 1) w (dg_toL _) hy (by omega) (by rw [val_toL]; omega) (by omega) (hm.own 4 rfl rfl) (hm.own 1 rfl rfl)
        rw [val_toL] at h
        exact h) ?_)
      refine Or.inr (lcall_fresh (toL (2 * (val xs / 2 ^ (j + 1) / val ys) + 1)) (fun ρ S w hm => by
        have h := double_c (toL (val xs / 2 ^ (j + 1) / val ys)) 1 (ρ 2) w (dg_toL _) (by decide) (Nat.le_trans (hle _ hq) (by decide)) (hm.own 2 rfl rfl)
        rw [val_toL] at h
        exact h) ?_)
      exact ⟨[0, 1, 6, 5], ⟨j, by omega⟩, And.intro (And.intro rfl (And.intro rfl (And.intro rfl (And.intro rfl (And.intro (svI hwr) trivial))))) (And.intro rfl (And.intro rfl (And.intro (owEq (by rw [t1])) (And.intro (owEq (by rw [t2])) trivial)))), by show j < j + 1; omega⟩
    · have hn : r' < val ys := nd_f hn
      rw [← hr'] at hn
      obtain ⟨t1, t2⟩ := div_f hC hn
      rw [hr'] at hn t2
      refine Or.inr (lcall_fresh (toL (2 * (val xs / 2 ^ (j + 1) / val ys) + 0)) (fun ρ S w hm => by
        have h := double_c (toL (val xs / 2 ^ (j + 1) / val ys)) 0 (ρ 2) w (dg_toL _) (by decide) (Nat.le_trans (hle _ hq) (by decide)) (hm.own 2 rfl rfl)
        rw [val_toL] at h
        exact h) ?_)
      exact ⟨[0, 1, 5, 4], ⟨j, by omega⟩, And.intro (And.intro rfl (And.intro rfl (And.intro rfl (And.intro rfl (And.intro (svI hwr) trivial))))) (And.intro rfl (And.intro rfl (And.intro (owEq (by rw [t1])) (And.intro (owEq (by rw [t2])) trivial)))), by show j < j + 1; omega⟩
  · have hlt : ¬ (k : Int) - 1 ≥ 0 := of_decide_eq_false hlt
    have hk0 : k = 0 := by omega
    subst hk0
    have e0 : val xs / 2 ^ 0 = val xs := by rw [Nat.pow_zero, Nat.div_one]
    exact ⟨[0, 1, 2, 3], rfl, rfl, rfl, And.intro rfl (And.intro rfl (And.intro (owEq (by rw [e0])) (And.intro (owEq (by rw [e0])) trivial))), rfl⟩
end Go.Proofs.YtfjkajlkehjnnaaGreatDoor
