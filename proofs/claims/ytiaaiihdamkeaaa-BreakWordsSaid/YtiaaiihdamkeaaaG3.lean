/- bits.Div64, walked. -/
import Derived.Test.YtiaaiihdamkeaaaG2
namespace Go.Proofs.Ytiaaiihdamkeaaa
open Go Go.Eng Go.RowKit Go.Ar

theorem or_add {a b s : Nat} (hb : b < 2 ^ s) : (a * 2 ^ s) ||| b = a * 2 ^ s + b := by
  rw [Nat.mul_comm]; exact (Nat.two_pow_add_eq_or_of_lt hb a).symm
theorem u64_lin (a b c : Int) (h0 : 0 ≤ a + b - c) (h1 : a + b - c < 18446744073709551616) : IntKind.u64.wrap (IntKind.u64.wrap (IntKind.u64.wrap a + b) - IntKind.u64.wrap c) = a + b - c := by
  simp only [IntKind.wrap, IntKind.bits, IntKind.signed, Bool.false_and]
  simp
  omega
theorem u64_lin2 (a b : Int) (h0 : 0 ≤ a + b) (h1 : a + b < 18446744073709551616) : IntKind.u64.wrap (IntKind.u64.wrap a + b) = a + b := by
  simp only [IntKind.wrap, IntKind.bits, IntKind.signed, Bool.false_and]
  simp
  omega
theorem u64_sub2 (a b : Int) (h0 : 0 ≤ a - b) (h1 : a - b < 18446744073709551616) : IntKind.u64.wrap (a - IntKind.u64.wrap b) = a - b := by
  simp only [IntKind.wrap, IntKind.bits, IntKind.signed, Bool.false_and]
  simp
  omega
theorem wdiv {x y : Nat} (hx : x < W) : IntKind.u64.wrap ((x : Int).tdiv (y : Int)) = ((x / y : Nat) : Int) := by
  rw [IntWalk.up_tdiv rfl rfl, IntWalk.u64_in _ ?_]
  have := Nat.div_le_self x y
  simp only [W] at hx
  exact ⟨Int.natCast_nonneg _, by omega⟩
theorem wmodv {x y : Nat} : (x : Int).tmod (y : Int) = ((x % y : Nat) : Int) := IntWalk.up_tmod rfl rfl

def dgE (lo hi y s v v1 v0 U L un1 un0 : Nat) (q r : Nat) : List Ent := [⟨15, [], .v (.int .u64 q)⟩, ⟨16, [], .v (.int .u64 r)⟩, ⟨2, [], .v (.int .u64 v)⟩, ⟨8, [], .v (.int .u64 s)⟩, ⟨9, [], .v (.int .u64 v1)⟩, ⟨10, [], .v (.int .u64 v0)⟩, ⟨11, [], .v (.int .u64 U)⟩, ⟨13, [], .v (.int .u64 un1)⟩, ⟨14, [], .v (.int .u64 un0)⟩]
def dgE2 (s v v1 v0 un0 q1 un21 : Nat) (q r : Nat) : List Ent := [⟨18, [], .v (.int .u64 q)⟩, ⟨16, [], .v (.int .u64 r)⟩, ⟨2, [], .v (.int .u64 v)⟩, ⟨8, [], .v (.int .u64 s)⟩, ⟨9, [], .v (.int .u64 v1)⟩, ⟨10, [], .v (.int .u64 v0)⟩, ⟨14, [], .v (.int .u64 un0)⟩, ⟨15, [], .v (.int .u64 q1)⟩, ⟨17, [], .v (.int .u64 un21)⟩]
theorem svw {k : IntKind} {a b : Int} (h : a = b) : SV.v (.int k a) = SV.v (.int k b) := by rw [h]
theorem wself {x : Nat} (h : x < W) : IntKind.u64.wrap (x : Int) = (x : Int) := IntWalk.u64_in _ (by simp only [W] at h; omega)

set_option maxHeartbeats 2000000 in
theorem div64_c (hi lo y : Nat) (w : World) (hlo : lo < W) (hy : y < W) (hlt : hi < y) : Calls Try.prog 38 #[.int .u64 hi, .int .u64 lo, .int .u64 y] w fun e w' => e = .returned (.tuple #[.int .u64 (((hi * W + lo) / y : Nat) : Int), .int .u64 (((hi * W + lo) % y : Nat) : Int)]) ∧ Below w.heap.size w w' := by
  refine calls_exec (cf := cf) cfok (fn := Try.f38) Try.func38 rfl [.v (.int .u64 hi), .v (.int .u64 lo), .v (.int .u64 y)] [] (ρ := fun _ => undef) (· < w.heap.size) rfl rfl rfl (by simp [svOkL, svOk]) (memNil fun _ h => h) ?_
  have hy0 : 0 < y := by omega
  have hyi : ((y : Nat) : Int) ≠ 0 := by omega
  refine And.intro (fun h => absurd (of_decide_eq_true h) hyi) (fun _ => ?_)
  refine And.intro (fun h => absurd (of_decide_eq_true h) (by show ¬ ((y : Int) ≤ (hi : Int)); omega)) (fun _ => ?_)
  refine And.intro (fun h0 => ?_) (fun h0 => ?_)
  · have h0 : hi = 0 := by have := of_decide_eq_true h0; omega
    subst h0
    refine Or.inl ⟨by kernel_rfl, ?_⟩
    refine And.intro hyi ?_
    refine And.intro hyi ?_
    refine fun ρ S w' hi => ⟨ret2 ?_ ?_, hi.below⟩
    · show IntKind.u64.wrap ((lo : Int).tdiv (y : Int)) = _
      rw [wdiv hlo]; simp
    · show (lo : Int).tmod (y : Int) = _
      rw [wmodv]; simp
  have hi0 : 0 < hi := by have := of_decide_eq_false h0; omega
  have hL := isLen64 y
  have hL64 := len64_le hy
  obtain ⟨s, hs⟩ : ∃ s, s = 64 - len64 y := ⟨_, rfl⟩
  have hls : len64 y = 64 - s := by omega
  have hs63 : s ≤ 63 := by
    have h2 := hL.2 (by omega)
    rcases Nat.eq_zero_or_pos (len64 y) with e | e
    · have h1 := hL.1; rw [e] at h1; omega
    · omega
  rw [hls] at hL
  have e64 : 2 ^ s * 2 ^ (64 - s) = W := by rw [← Nat.pow_add, show s + (64 - s) = 64 from by omega]
  have hp := Nat.two_pow_pos s
  have hsW : 2 ^ s ≤ W := by rw [← e64]; exact Nat.le_mul_of_pos_right _ (Nat.two_pow_pos _)
  have hvW : y * 2 ^ s < W := by rw [← e64, Nat.mul_comm y]; exact Nat.mul_lt_mul_of_pos_left hL.1 hp
  have hv63 : W ≤ 2 * (y * 2 ^ s) := by
    have := Nat.mul_le_mul_left (2 ^ s) (hL.2 (by omega))
    rw [e64, Nat.mul_left_comm, Nat.mul_comm (2 ^ s)] at this
    exact this
  obtain ⟨a1, a2, a3, a4⟩ := div_whole hs63 hy0 hlt hlo hvW
  have dend := fun (U L v : Nat) (h1 : v = y * 2 ^ s) (h2 : U * W + L = (hi * W + lo) * 2 ^ s) (h3 : L < W) => div_end hp hy0 h1 h2 h3
  refine Or.inl ⟨_, fun ρ S w' hm => lz64_c y w' hy, ?_⟩
  rw [← hs]
  have hsn : (0 : Int) ≤ IntKind.u64.wrap (s : Int) := by rw [IntWalk.u64_in _ (by omega)]; omega
  have e64s : IntKind.u64.wrap (s : Int) = (s : Int) := IntWalk.u64_in _ (by omega)
  have hs64 : (0 : Int) ≤ IntKind.u64.wrap (64 - (s : Int)) := by rw [IntWalk.u64_in _ (by omega)]; omega
  have e64d : IntKind.u64.wrap (64 - (s : Int)) = ((64 - s : Nat) : Int) := by rw [IntWalk.u64_in _ (by omega)]; omega
  have h32 : (0 : Int) ≤ 32 := by decide
  refine And.intro hsn ?_
  rw [e64s, shl_n y (by omega), Nat.mod_eq_of_lt hvW]
  obtain ⟨v, hv⟩ : ∃ v, v = y * 2 ^ s := ⟨_, rfl⟩
  rw [← hv] at hvW hv63 a3 ⊢
  refine And.intro h32 ?_
  refine And.intro (Int.natCast_nonneg s) ?_
  refine And.intro hs64 ?_
  rw [e64d, shl_n hi (by omega), shr_n (k := .u64) lo (n := 64 - s) (by show 64 - s ≤ 64; omega), Nat.mod_eq_of_lt a1, shr32, and32 hvW]
  refine And.intro (Int.natCast_nonneg s) ?_
  rw [shl_n lo (by omega), or_w a1 (by omega), or_add a2]
  obtain ⟨U, hU⟩ : ∃ U, U = hi * 2 ^ s + lo / 2 ^ (64 - s) := ⟨_, rfl⟩
  obtain ⟨L, hLd⟩ : ∃ L, L = lo * 2 ^ s % W := ⟨_, rfl⟩
  have hLW : L < W := by rw [hLd]; exact Nat.mod_lt _ (by decide)
  rw [← hU, ← hLd] at a4
  rw [← hU] at a3
  rw [← hU, ← hLd]
  refine And.intro h32 ?_
  rw [shr32]
  have hvs : v = v / B * B + v % B := by simp only [B]; omega
  have hv0 : v % B < B := Nat.mod_lt _ (by decide)
  have hv1 : B / 2 ≤ v / B := by simp only [W, B] at *; omega
  have hv1' : v / B < B := by simp only [W, B] at *; omega
  have hd1 : L / B < B := by simp only [W, B] at *; omega
  have hd0 : L % B < B := Nat.mod_lt _ (by decide)
  have hUW : U < W := by omega
  obtain ⟨v1, hv1e⟩ : ∃ v1, v1 = v / B := ⟨_, rfl⟩
  obtain ⟨v0, hv0e⟩ : ∃ v0, v0 = v % B := ⟨_, rfl⟩
  obtain ⟨un1, hun1⟩ : ∃ un1, un1 = L / B := ⟨_, rfl⟩
  obtain ⟨un0, hun0⟩ : ∃ un0, un0 = L % B := ⟨_, rfl⟩
  rw [← hv1e, ← hv0e] at hvs
  rw [← hv0e] at hv0
  rw [← hv1e] at hv1 hv1'
  rw [← hun1] at hd1
  rw [← hun0] at hd0
  have hv1n : ((v1 : Nat) : Int) ≠ 0 := by simp only [B] at *; omega
  rw [← hv1e, ← hv0e, ← hun1]
  refine And.intro hv1n ?_
  rw [and32 hLW, ← hun0]
  rw [wdiv hUW]
  have D1 := Dig.start hvs hv0 hv1 hv1' a3 hd1
  have hqmul : U / v1 * v1 ≤ U := Nat.div_mul_le_self _ _
  refine ⟨Dig U v v1 v0 un1, fun t => ⟨135, dgE lo hi y s v v1 v0 U L un1 un0 t.q t.r, [], [], dropL nats 0⟩, fun t => t.q, ⟨[], Dig.start hvs hv0 hv1 hv1' a3 hd1, ?_⟩, fun t => ?_⟩
  · refine And.intro (And.intro rfl (And.intro (svw ?_) (And.intro rfl (And.intro rfl (And.intro rfl (And.intro rfl (And.intro rfl (And.intro rfl (And.intro rfl trivial))))))))) trivial
    show IntKind.u64.wrap ((U : Int) - IntKind.u64.wrap (((U / v1 : Nat) : Int) * (v1 : Int))) = ((U % v1 : Nat) : Int)
    rw [wmul (by omega), wsub hqmul hUW]
    have := Nat.div_add_mod U v1
    rw [Nat.mul_comm] at this
    omega
  have hvp : 0 < v := by omega
  have hcond : ∀ (u d : Nat) (t : Dig u v v1 v0 d), d < B → (decide ((t.q : Int) ≥ 4294967296) || decide (IntKind.u64.wrap ((t.q : Int) * (v0 : Int)) > IntKind.u64.wrap (IntKind.u64.wrap (4294967296 * (t.r : Int)) + (d : Int)))) = true → B ≤ t.q ∨ t.q * v0 > B * t.r + d := by
    intro u d t hd h
    rcases Nat.lt_or_ge t.q B with hq | hq
    · right
      obtain ⟨c1, c2, c3⟩ := t.cond_lt hv0 hq hd
      have e1 : IntKind.u64.wrap (4294967296 * (t.r : Int)) = ((B * t.r : Nat) : Int) := wmul (x := B) c2
      rw [wmul c1, e1, wadd c3] at h
      have hqn : ¬ ((t.q : Int) ≥ 4294967296) := by simp only [B] at hq; omega
      rw [decide_eq_false hqn, Bool.false_or] at h
      have := of_decide_eq_true h
      omega
    · exact .inl hq
  have hcondF : ∀ (u d : Nat) (t : Dig u v v1 v0 d), d < B → (decide ((t.q : Int) ≥ 4294967296) || decide (IntKind.u64.wrap ((t.q : Int) * (v0 : Int)) > IntKind.u64.wrap (IntKind.u64.wrap (4294967296 * (t.r : Int)) + (d : Int)))) = false → t.q * v0 ≤ B * t.r + d := by
    intro u d t hd h
    rw [Bool.or_eq_false_iff] at h
    have hq : t.q < B := by have := of_decide_eq_false h.1; simp only [B]; omega
    obtain ⟨c1, c2, c3⟩ := t.cond_lt hv0 hq hd
    have e1 : IntKind.u64.wrap (4294967296 * (t.r : Int)) = ((B * t.r : Nat) : Int) := wmul (x := B) c2
    have h2 := h.2
    rw [wmul c1, e1, wadd c3] at h2
    have := of_decide_eq_false h2
    omega
  have hstep : ∀ (u d : Nat) (t : Dig u v v1 v0 d), (u * B + d) / v < t.q → IntKind.u64.wrap ((t.q : Int) - 1) = ((t.q - 1 : Nat) : Int) ∧ IntKind.u64.wrap ((t.r : Int) + (v1 : Int)) = ((t.r + v1 : Nat) : Int) := by
    intro u d t h
    have h0 : 0 < t.q := Nat.lt_of_le_of_lt (Nat.zero_le _) h
    have h1 := t.hB
    have h2 := t.hr
    refine ⟨wsub (y := 1) h0 (by simp only [W, B] at *; omega), wadd (by simp only [W, B] at *; omega)⟩
  obtain ⟨q1, hq1⟩ : ∃ q1, q1 = (U * B + un1) / v := ⟨_, rfl⟩
  obtain ⟨R, hR⟩ : ∃ R, R = (U * B + un1) % v := ⟨_, rfl⟩
  have hRv : R < v := by rw [hR]; exact Nat.mod_lt _ hvp
  have hq1B : q1 < B := by rw [hq1]; exact half_B a3 hd1
  have hsum1 : v * q1 + R = U * B + un1 := by rw [hq1, hR]; exact Nat.div_add_mod _ _
  obtain ⟨q0, hq0⟩ : ∃ q0, q0 = (R * B + un0) / v := ⟨_, rfl⟩
  obtain ⟨R0, hR0⟩ : ∃ R0, R0 = (R * B + un0) % v := ⟨_, rfl⟩
  have hR0v : R0 < v := by rw [hR0]; exact Nat.mod_lt _ hvp
  have hq0B : q0 < B := by rw [hq0]; exact half_B hRv hd0
  have hsum0 : v * q0 + R0 = R * B + un0 := by rw [hq0, hR0]; exact Nat.div_add_mod _ _
  obtain ⟨f1, f2⟩ := dend U L v hv a4 hLW
  rw [← hun1, ← hun0, ← hq1, ← hR, ← hq0] at f1
  rw [← hun1, ← hun0, ← hR, ← hR0] at f2
  have hRW : R < W := by omega
  have e21 : IntKind.u64.wrap (IntKind.u64.wrap (IntKind.u64.wrap ((U : Int) * 4294967296) + (un1 : Int)) - IntKind.u64.wrap ((q1 : Int) * (v : Int))) = ((R : Nat) : Int) := by
    have hc : ((v * q1 : Nat) : Int) + (R : Int) = (U : Int) * 4294967296 + (un1 : Int) := by have := hsum1; simp only [B] at this; omega
    have hm : (q1 : Int) * (v : Int) = ((v * q1 : Nat) : Int) := by rw [Nat.mul_comm]; rfl
    rw [hm]
    simp only [W] at *
    rw [u64_lin _ _ _ (by omega) (by omega)]
    omega
  have e20 : IntKind.u64.wrap (IntKind.u64.wrap (IntKind.u64.wrap ((R : Int) * 4294967296) + (un0 : Int)) - IntKind.u64.wrap ((q0 : Int) * (v : Int))) = ((R0 : Nat) : Int) := by
    have hc : ((v * q0 : Nat) : Int) + (R0 : Int) = (R : Int) * 4294967296 + (un0 : Int) := by have := hsum0; simp only [B] at this; omega
    have hm : (q0 : Int) * (v : Int) = ((v * q0 : Nat) : Int) := by rw [Nat.mul_comm]; rfl
    rw [hm]
    simp only [W] at *
    rw [u64_lin _ _ _ (by omega) (by omega)]
    omega
  refine And.intro (fun hc => ?_) (fun hc => ?_)
  case' refine_1 =>
    have hgt := t.gt hvs a3 hd1 (hcond U un1 t hd1 hc)
    obtain ⟨s1, s2⟩ := hstep U un1 t hgt
    refine And.intro (fun hb => ?_) (fun hb => ?_)
    case' refine_1 =>
      have hb : B ≤ t.r + v1 := by
        have hb := of_decide_eq_true hb
        rw [s2] at hb
        simp only [B]; omega
      have hq := t.stop hvs hv0 a3 hgt hb
      rw [s1, hq, ← hq1]
    case' refine_2 =>
      have hb : t.r + v1 < B := by
        have hb := of_decide_eq_false hb
        rw [s2] at hb
        simp only [B]; omega
      have hq0' : 0 < t.q := Nat.lt_of_le_of_lt (Nat.zero_le _) hgt
      exact ⟨[], t.next hgt hb, And.intro (And.intro (svw s1) (And.intro (svw s2) (And.intro rfl (And.intro rfl (And.intro rfl (And.intro rfl (And.intro rfl (And.intro rfl (And.intro rfl trivial))))))))) trivial, by show t.q - 1 < t.q; omega⟩
  case' refine_2 =>
    have hq := t.done hvs a3 (hcondF U un1 t hd1 hc)
    rw [← hq1] at hq
    rw [hq]
  all_goals
    refine And.intro hv1n ?_
    rw [e21, wdiv hRW]
    have D2 := Dig.start hvs hv0 hv1 hv1' hRv hd0
    have hqmul2 : R / v1 * v1 ≤ R := Nat.div_mul_le_self _ _
    refine ⟨Dig R v v1 v0 un0, fun t => ⟨135, dgE2 s v v1 v0 un0 q1 R t.q t.r, [], [], dropL nats 0⟩, fun t => t.q, ⟨[], Dig.start hvs hv0 hv1 hv1' hRv hd0, ?_⟩, fun t2 => ?_⟩
    · refine And.intro (And.intro rfl (And.intro (svw ?_) (And.intro rfl (And.intro rfl (And.intro rfl (And.intro rfl (And.intro rfl (And.intro rfl (And.intro rfl trivial))))))))) trivial
      show IntKind.u64.wrap ((R : Int) - IntKind.u64.wrap (((R / v1 : Nat) : Int) * (v1 : Int))) = ((R % v1 : Nat) : Int)
      rw [wmul (by omega), wsub hqmul2 hRW]
      have := Nat.div_add_mod R v1
      rw [Nat.mul_comm] at this
      omega
    refine And.intro (fun hc => ?_) (fun hc => ?_)
    case' refine_1 =>
      have hgt := t2.gt hvs hRv hd0 (hcond R un0 t2 hd0 hc)
      obtain ⟨s1, s2⟩ := hstep R un0 t2 hgt
      refine And.intro (fun hb => ?_) (fun hb => ?_)
      case' refine_1 =>
        have hb : B ≤ t2.r + v1 := by
          have hb := of_decide_eq_true hb
          rw [s2] at hb
          simp only [B]; omega
        have hq := t2.stop hvs hv0 hRv hgt hb
        rw [s1, hq, ← hq0]
      case' refine_2 =>
        have hb : t2.r + v1 < B := by
          have hb := of_decide_eq_false hb
          rw [s2] at hb
          simp only [B]; omega
        have hq0' : 0 < t2.q := Nat.lt_of_le_of_lt (Nat.zero_le _) hgt
        exact ⟨[], t2.next hgt hb, And.intro (And.intro (svw s1) (And.intro (svw s2) (And.intro rfl (And.intro rfl (And.intro rfl (And.intro rfl (And.intro rfl (And.intro rfl (And.intro rfl trivial))))))))) trivial, by show t2.q - 1 < t2.q; omega⟩
    case' refine_2 =>
      have hq := t2.done hvs hRv (hcondF R un0 t2 hd0 hc)
      rw [← hq0] at hq
      rw [hq]
    all_goals
      refine And.intro (Int.natCast_nonneg s) ?_
      refine fun ρ S w' hi => ⟨ret2 ?_ ?_, hi.below⟩
      · show IntKind.u64.wrap (IntKind.u64.wrap ((q1 : Int) * 4294967296) + (q0 : Int)) = _
        have e1 : ((q1 : Int) * 4294967296 + (q0 : Int)) = ((q1 * B + q0 : Nat) : Int) := by simp only [B]; omega
        rw [u64_lin2 _ _ (by omega) (by simp only [B] at *; omega), e1, f1]
      · show shrV .u64 (IntKind.u64.wrap (IntKind.u64.wrap (IntKind.u64.wrap ((R : Int) * 4294967296) + (un0 : Int)) - IntKind.u64.wrap ((q0 : Int) * (v : Int)))) (s : Int) = _
        rw [e20, shr_n (k := .u64) R0 (n := s) (by show s ≤ 64; omega), f2]
end Go.Proofs.Ytiaaiihdamkeaaa
