/- The laws of glue: GlueSpreads, GlueSums. -/
import Derived.Test.YtciflfejkncdeaaG19
namespace Go.Proofs.Ytciflfejkncdeaa
open Go Go.Eng Go.RowKit Go.Ar

theorem spread_len (sum n : Int) : (spreadF sum n).1.length ≤ 65536 := by
  unfold spreadF
  split
  · rename_i h
    obtain ⟨n0, n1, _, _⟩ := okS_iff.1 h
    show (parts sum n n.toNat).length ≤ 65536
    rw [parts_len]; omega
  · exact Nat.zero_le _

theorem lawSpr_c (sum n : Int) (w : World) : Calls Try.prog 4 #[.int .i64 sum, .int .i64 n] w fun e w' => e = .returned (.bool true) ∧ Below w.heap.size w w' := by
  refine calls_exec (cf := cf) cfok (fn := Try.f4) Try.func4 rfl [.v (.int .i64 sum), .v (.int .i64 n)] [] (ρ := fun _ => undef) (· < w.heap.size) rfl rfl rfl (by simp [svOkL, svOk]) (memNil fun _ h => h) ?_
  refine And.intro (fun _ => ?_) (fun _ => ?_)
  · refine Or.inl ⟨_, fun ρ S w' _ => works_c w', ?_⟩
    exact fun ρ S w' hi => ⟨rfl, hi.below⟩
  refine Or.inr (lcall_fresh2 (t := 2) (sz := 1) (enc := iE) (spreadF sum n).1 (.int .i64 (spreadF sum n).2) (fun ρ S w' _ => spread_c sum n w') ?_)
  refine Or.inr (lcall_fresh2 (t := 2) (sz := 1) (enc := iE) (spreadF sum n).1 (.int .i64 (spreadF sum n).2) (fun ρ S w' _ => spread2_c sum n w') ?_)
  have hl := spread_len sum n
  generalize spreadF sum n = F at *
  obtain ⟨A, e⟩ := F
  refine And.intro (fun h => ?_) (fun _ => ?_)
  · have h : (!decide ((A.length : Int) = (A.length : Int)) || !decide (e = e)) = true := h
    simp at h
  have hl : A.length ≤ 65536 := hl
  refine ⟨{ i : Nat // i ≤ A.length }, fun i => ⟨55, [⟨5, [], .sl 0⟩, ⟨7, [], .sl 1⟩, ⟨9, [], .v (.int .i64 i.1)⟩], [owL A, owL A], [], dropL nats 2⟩, fun i => A.length - i.1, ⟨[0, 1], ⟨0, by omega⟩, ?_⟩, fun i => ?_⟩
  · exact And.intro (And.intro rfl (And.intro rfl (And.intro rfl trivial))) (And.intro rfl (And.intro rfl trivial))
  obtain ⟨i, hi⟩ := i
  refine And.intro (fun hlt => ?_) (fun hge => ?_)
  · have hlt : i < A.length := by have : (i : Int) < (A.length : Int) := of_decide_eq_true hlt
                                  omega
    refine Or.inl ⟨by kernel_rfl, ?_⟩
    have hb : (0 : Int) ≤ (i : Int) ∧ (i : Int) < (A.length : Int) := ⟨by omega, by omega⟩
    refine And.intro hb ?_
    refine And.intro hb ?_
    refine And.intro (fun h => ?_) (fun _ => ?_)
    · exact absurd rfl (nd_t h)
    · exact ⟨[0, 1], ⟨i + 1, hlt⟩, And.intro (And.intro rfl (And.intro rfl (And.intro (svI (i64_succ i (by omega))) trivial))) (And.intro rfl (And.intro rfl trivial)), by show _ - (i + 1) < _ - i; omega⟩
  · refine Or.inl ⟨_, fun ρ S w' _ => works_c w', ?_⟩
    exact fun ρ S w' hi => ⟨rfl, hi.below⟩

/-! sums -/
theorem cut_step {S k : Int} (hk : 0 < k) (j : Nat) : S / k ≤ cut S k (j + 1) - cut S k j ∧ cut S k (j + 1) - cut S k j ≤ S / k + 1 := by
  unfold cut
  have e : S * ((j + 1 : Nat) : Int) = S * (j : Int) + S := by rw [Int.natCast_add, Int.mul_add]; simp
  rw [e]
  generalize S * (j : Int) = P
  have a1 := Int.mul_ediv_self_le (x := P + S) (k := k) (by omega)
  have a2 := Int.lt_mul_ediv_self_add (x := P + S) hk
  have b1 := Int.mul_ediv_self_le (x := P) (k := k) (by omega)
  have b2 := Int.lt_mul_ediv_self_add (x := P) hk
  have c1 := Int.mul_ediv_self_le (x := S) (k := k) (by omega)
  have c2 := Int.lt_mul_ediv_self_add (x := S) hk
  generalize (P + S) / k = X at *
  generalize P / k = Y at *
  generalize S / k = Z at *
  constructor
  · have : k * (Z - 1) < k * (X - Y) := by rw [Int.mul_sub, Int.mul_sub]; omega
    have := Int.lt_of_mul_lt_mul_left this (by omega)
    omega
  · have : k * (X - Y) < k * (Z + 2) := by rw [Int.mul_sub, Int.mul_add]; omega
    have := Int.lt_of_mul_lt_mul_left this (by omega)
    omega
theorem cut_rest {S k : Int} (hk : 0 < k) (j : Nat) : 0 ≤ S * (j : Int) - cut S k j * k ∧ S * (j : Int) - cut S k j * k < k := by
  unfold cut
  have b1 := Int.ediv_mul_le (S * (j : Int)) (b := k) (by omega)
  have b2 := Int.lt_ediv_add_one_mul_self (S * (j : Int)) hk
  rw [Int.add_mul, Int.one_mul] at b2
  omega
theorem cut_all {S k : Int} (hk : 0 < k) : cut S k k.toNat = S := by
  unfold cut
  rw [show ((k.toNat : Nat) : Int) = k by omega, Int.mul_ediv_cancel _ (by omega)]

theorem u16_wf {n : Int} (h : (Lit.int .u16 n).wf = true) : 0 ≤ n ∧ n ≤ 65535 := by
  simp [Lit.wf] at h; exact h
theorem mulB {a b : Int} (h1 : -1099511627776 ≤ a) (h2 : a ≤ 1099511627776) (b0 : 0 ≤ b) (b1 : b ≤ 3001) : -3299634395755776 ≤ a * b ∧ a * b ≤ 3299634395755776 := by
  have c1 : a * b ≤ 1099511627776 * b := Int.mul_le_mul_of_nonneg_right h2 b0
  have c2 : -1099511627776 * b ≤ a * b := Int.mul_le_mul_of_nonneg_right h1 b0
  omega
theorem lawSum_c (sum n : Int) (w : World) (hn : 0 ≤ n ∧ n ≤ 65535) : Calls Try.prog 5 #[.int .i64 sum, .int .u16 n] w fun e w' => e = .returned (.bool true) ∧ Below w.heap.size w w' := by
  refine calls_exec (cf := cf) cfok (fn := Try.f5) Try.func5 rfl [.v (.int .i64 sum), .v (.int .u16 n)] [] (ρ := fun _ => undef) (· < w.heap.size) rfl rfl rfl (by simp [svOkL, svOk]) (memNil fun _ h => h) ?_
  refine And.intro (show (3001 : Int) = 0 → False by decide) ?_
  obtain ⟨k, hk⟩ : ∃ k : Int, k = IntKind.i64.wrap (n.tmod 3001) := ⟨_, rfl⟩
  have hkr : 0 ≤ k ∧ k ≤ 3000 := by
    rw [hk, Int.tmod_eq_emod_of_nonneg hn.1, i64_id _ (by omega) (by omega)]
    omega
  have hksv : SV.v (.int .i64 (IntKind.i64.wrap (n.tmod 3001))) = SV.v (.int .i64 k) := by rw [hk]
  have hu : ∀ i : Nat, (i : Int) < k → IntKind.i64.wrap ((i : Int) + 1) = ((i + 1 : Nat) : Int) := fun i h => by rw [i64_id _ (by omega) (by omega)]; rfl
  cases hok : okS sum k with
  | false =>
    have hF : spreadF sum k = ([], 2) := by unfold spreadF; rw [hok, if_neg (by decide)]
    refine Or.inr (lcall_fresh2 (t := 2) (sz := 1) (enc := iE) [] (.int .i64 2) (fun ρ S w' _ => by
      show Calls _ 12 #[.int .i64 sum, .int .i64 (IntKind.i64.wrap (n.tmod 3001))] _ _
      rw [← hk]
      have := spread_c sum k w'
      rw [hF] at this
      exact this) ?_)
    refine And.intro (fun _ => ?_) (fun h => by cases h)
    refine Or.inl ⟨_, fun _ ρ S w' _ => works_c w', ?_⟩
    refine fun ρ S w' hi => ⟨?_, hi.below⟩
    show Ending.returned (.bool ((true && (decide (sum < -1099511627776) || decide (sum > 1099511627776))) && true)) = _
    have : ¬ (-1099511627776 ≤ sum ∧ sum ≤ 1099511627776) := fun h => by
      have := okS_iff.2 ⟨hkr.1, by omega, h.1, h.2⟩
      rw [hok] at this
      cases this
    have e : (decide (sum < -1099511627776) || decide (sum > 1099511627776)) = true := by
      rw [Bool.or_eq_true, decide_eq_true_iff, decide_eq_true_iff]; omega
    rw [e]; rfl
  | true =>
    have hF : spreadF sum k = (parts sum k k.toNat, 0) := by unfold spreadF; rw [hok, if_pos rfl]
    obtain ⟨_, _, s0, s1⟩ := okS_iff.1 hok
    refine Or.inr (lcall_fresh2 (t := 2) (sz := 1) (enc := iE) (parts sum k k.toNat) (.int .i64 0) (fun ρ S w' _ => by
      show Calls _ 12 #[.int .i64 sum, .int .i64 (IntKind.i64.wrap (n.tmod 3001))] _ _
      rw [← hk]
      have := spread_c sum k w'
      rw [hF] at this
      exact this) ?_)
    have hlen := parts_len sum k k.toNat
    refine And.intro (fun h => by cases h) (fun _ => ?_)
    refine And.intro (fun h => ?_) (fun _ => ?_)
    · have h : ¬ ((parts sum k k.toNat).length : Int) = IntKind.i64.wrap (n.tmod 3001) := nd_t h
      rw [← hk, hlen] at h
      exact absurd (by omega) h
    refine ⟨{ i : Nat // (i : Int) ≤ k }, fun i => ⟨98, [⟨0, [], .v (.int .i64 sum)⟩, ⟨5, [], .v (.int .i64 k)⟩, ⟨6, [], .sl 0⟩, ⟨8, [], .v (.int .i64 (cut sum k i.1))⟩, ⟨9, [], .v (.int .i64 i.1)⟩], [owL (parts sum k k.toNat)], [], dropL nats 1⟩, fun i => k.toNat - i.1, ⟨[0], ⟨0, hkr.1⟩, ?_⟩, fun i => ?_⟩
    · exact And.intro (And.intro rfl (And.intro hksv (And.intro rfl (And.intro (svI (cut_zero sum k).symm) (And.intro rfl trivial))))) (And.intro rfl trivial)
    obtain ⟨i, hi⟩ := i
    refine And.intro (fun hlt => ?_) (fun hge => ?_)
    · have hlt : (i : Int) < k := of_decide_eq_true hlt
      have hb : (0 : Int) ≤ (i : Int) ∧ (i : Int) < ((parts sum k k.toNat).length : Int) := ⟨by omega, by omega⟩
      have hb0 : (0 : Int) ≤ 0 ∧ (0 : Int) < ((parts sum k k.toNat).length : Int) := ⟨by omega, by omega⟩
      have hp := parts_nth sum k k.toNat i (by omega)
      have hp0 := parts_nth sum k k.toNat 0 (by omega)
      have c1 := cut_range (n := k) (by omega) s0 s1 (j := i + 1) (by omega)
      have hadd : IntKind.i64.wrap (cut sum k i + nth (parts sum k k.toNat) i) = cut sum k (i + 1) := by
        rw [hp, show cut sum k i + (cut sum k (i + 1) - cut sum k i) = cut sum k (i + 1) by omega, i64_id _ (by omega) (by omega)]
      refine And.intro hb ?_
      refine Or.inl ⟨by kernel_rfl, ?_⟩
      refine And.intro hb ?_
      refine And.intro hb0 ?_
      refine And.intro (fun _ => hb0) ?_
      refine And.intro (fun _ => hb) ?_
      refine And.intro (fun hf => ?_) (fun _ => ?_)
      · exfalso
        have hf : (((decide (IntKind.i64.wrap (nth (parts sum k k.toNat) i - nth (parts sum k k.toNat) 0) > 1) || decide (IntKind.i64.wrap (nth (parts sum k k.toNat) 0 - nth (parts sum k k.toNat) i) > 1)) || decide (IntKind.i64.wrap (IntKind.i64.wrap (sum * IntKind.i64.wrap ((i : Int) + 1)) - IntKind.i64.wrap (IntKind.i64.wrap (cut sum k i + nth (parts sum k k.toNat) i) * k)) < 0)) || decide (IntKind.i64.wrap (IntKind.i64.wrap (sum * IntKind.i64.wrap ((i : Int) + 1)) - IntKind.i64.wrap (IntKind.i64.wrap (cut sum k i + nth (parts sum k k.toNat) i) * k)) ≥ k)) = true := hf
        rw [hadd, hu i hlt] at hf
        have d1 := cut_step (S := sum) (k := k) (by omega) i
        have d0 := cut_step (S := sum) (k := k) (by omega) 0
        have hr := cut_rest (S := sum) (k := k) (by omega) (i + 1)
        have m1 := mulB s0 s1 (b := ((i + 1 : Nat) : Int)) (by omega) (by omega)
        have m2 := mulB c1.1 c1.2 (b := k) (by omega) (by omega)
        have z0 := cut_range (n := k) (by omega) s0 s1 (j := i) (by omega)
        have z1 := cut_range (n := k) (by omega) s0 s1 (j := 0) (by omega)
        have z2 := cut_range (n := k) (by omega) s0 s1 (j := 0 + 1) (by omega)
        rw [hp, hp0, i64_id (sum * _) (by omega) (by omega), i64_id (cut sum k (i + 1) * k) (by omega) (by omega), i64_id (sum * _ - _) (by omega) (by omega),
          i64_id (cut sum k (i + 1) - cut sum k i - (cut sum k (0 + 1) - cut sum k 0)) (by omega) (by omega), i64_id (cut sum k (0 + 1) - cut sum k 0 - (cut sum k (i + 1) - cut sum k i)) (by omega) (by omega)] at hf
        simp only [Bool.or_eq_true, decide_eq_true_iff] at hf
        omega
      · exact ⟨[0], ⟨i + 1, by omega⟩, And.intro (And.intro rfl (And.intro rfl (And.intro rfl (And.intro (svI hadd) (And.intro (svI (hu i hlt)) trivial))))) (And.intro rfl trivial), by show k.toNat - (i + 1) < k.toNat - i; omega⟩
    · have hge : ¬ (i : Int) < k := of_decide_eq_false hge
      have he : i = k.toNat := by omega
      subst he
      refine Or.inl ⟨_, fun _ ρ S w' _ => works_c w', ?_⟩
      refine fun ρ S w' hi => ⟨?_, hi.below⟩
      show Ending.returned (.bool ((decide (k = 0) || decide (cut sum k k.toNat = sum)) && true)) = _
      by_cases h0 : k = 0
      · rw [decide_eq_true h0]; rfl
      · rw [cut_all (by omega), decide_eq_true (rfl : sum = sum)]
        simp
end Go.Proofs.Ytciflfejkncdeaa
