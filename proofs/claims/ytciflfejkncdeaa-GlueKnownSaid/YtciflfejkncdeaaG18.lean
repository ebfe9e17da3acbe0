/- glue: Spread and its reference. -/
import Derived.Test.YtciflfejkncdeaaG17
namespace Go.Proofs.Ytciflfejkncdeaa
open Go Go.Eng Go.RowKit Go.Ar

theorem spread_c (sum n : Int) (w : World) : Calls Try.prog 12 #[.int .i64 sum, .int .i64 n] w fun e w' => ∃ v, e = .returned (.tuple #[v, .int .i64 (spreadF sum n).2]) ∧ Below w.heap.size w w' ∧ Fresh w w' v 2 1 iE (spreadF sum n).1 := by
  refine calls_exec (cf := cf) cfok (fn := Try.f12) Try.func12 rfl [.v (.int .i64 sum), .v (.int .i64 n)] [] (ρ := fun _ => undef) (· < w.heap.size) rfl rfl rfl (by simp [svOkL, svOk]) (memNil fun _ h => h) ?_
  unfold spreadF
  refine And.intro (fun hk => ?_) (fun hk => ?_)
  · have hk : (((decide (n < 0) || decide (n > 65536)) || decide (sum < -1099511627776)) || decide (sum > 1099511627776)) = true := hk
    rw [notS, Bool.not_eq_true'] at hk
    rw [hk, if_neg (by decide)]
    exact fun ρ S w' hi => ⟨_, rfl, hi.below, Fresh.nil _ _ _ _ _⟩
  have hk : (((decide (n < 0) || decide (n > 65536)) || decide (sum < -1099511627776)) || decide (sum > 1099511627776)) = false := hk
  rw [notS, Bool.not_eq_false'] at hk
  rw [if_pos hk]
  obtain ⟨n0, n1, s0, s1⟩ := okS_iff.1 hk
  refine Or.inr (lcall_fnRp2 27 [.v (.int .i64 n)] [.v (.int .i64 sum)] (fun ρ S w' hm => parts_c sum n w' S hm.lt) ?_)
  refine ⟨n.toNat, partV sum n, 1, [⟨6, [], .bx 0 0⟩], { j : Nat // j ≤ n.toNat }, fun j => [.bx 27 [.sl 1], owL (parts sum n j.1)], fun j => j.1, fun ρ S w' hm => parts_iter sum n _ _ w' S n0 n1 s0 s1 hm.lt (hm.rpS 1 rfl rfl) (hm.rpS 2 rfl rfl), fun _ => rfl, rfl, rfl, fun _ => rfl, fun _ => rfl, rfl, rfl, ⟨[0, 1000], ⟨0, by omega⟩, rfl, ?_⟩, fun j hj => ?_, fun j hj => ?_⟩
  · exact And.intro (And.intro rfl trivial) (And.intro (And.intro rfl rfl) (And.intro rfl trivial))
  · obtain ⟨j, hjn⟩ := j
    have hj : j < n.toNat := hj
    have hlen := parts_len sum n j
    refine ⟨[cut sum n (j + 1) - cut sum n j], ⟨rfl, rfl, by simp⟩, by show ((parts sum n j).length + 1) * 8 ≤ _; omega, ?_⟩
    exact ⟨[0, 3], ⟨j + 1, hj⟩, rfl, And.intro (And.intro rfl trivial) (And.intro (And.intro rfl rfl) (And.intro rfl trivial))⟩
  · obtain ⟨j, hjn⟩ := j
    have hj : j = n.toNat := hj
    subst hj
    exact fun ρ S w' hi => ⟨_, rfl, hi.below, hi.fresh 1 iE_flat rfl rfl⟩

theorem spread2_c (sum n : Int) (w : World) : Calls Try.prog 13 #[.int .i64 sum, .int .i64 n] w fun e w' => ∃ v, e = .returned (.tuple #[v, .int .i64 (spreadF sum n).2]) ∧ Below w.heap.size w w' ∧ Fresh w w' v 2 1 iE (spreadF sum n).1 := by
  refine calls_exec (cf := cf) cfok (fn := Try.f13) Try.func13 rfl [.v (.int .i64 sum), .v (.int .i64 n)] [] (ρ := fun _ => undef) (· < w.heap.size) rfl rfl rfl (by simp [svOkL, svOk]) (memNil fun _ h => h) ?_
  unfold spreadF
  refine And.intro (fun hk => ?_) (fun hk => ?_)
  · have hk : (((decide (n < 0) || decide (n > 65536)) || decide (sum < -1099511627776)) || decide (sum > 1099511627776)) = true := hk
    rw [notS, Bool.not_eq_true'] at hk
    rw [hk, if_neg (by decide)]
    exact fun ρ S w' hi => ⟨_, rfl, hi.below, Fresh.nil _ _ _ _ _⟩
  have hk : (((decide (n < 0) || decide (n > 65536)) || decide (sum < -1099511627776)) || decide (sum > 1099511627776)) = false := hk
  rw [notS, Bool.not_eq_false'] at hk
  rw [if_pos hk]
  obtain ⟨n0, n1, s0, s1⟩ := okS_iff.1 hk
  refine ⟨{ j : Nat // j ≤ n.toNat }, fun j => ⟨46, [⟨0, [], .v (.int .i64 sum)⟩, ⟨1, [], .v (.int .i64 n)⟩, ⟨6, [], .sl 0⟩, ⟨7, [], .v (.int .i64 (cut sum n j.1))⟩, ⟨8, [], .v (.int .i64 j.1)⟩], [owL (parts sum n j.1)], [], dropL nats 1⟩, fun j => n.toNat - j.1, ⟨[1000], ⟨0, by omega⟩, ?_⟩, fun j => ?_⟩
  · exact And.intro (And.intro rfl (And.intro rfl (And.intro rfl (And.intro (svI (cut_zero sum n).symm) (And.intro rfl trivial))))) (And.intro rfl trivial)
  obtain ⟨j, hjn⟩ := j
  have hlen := parts_len sum n j
  refine And.intro (fun hlt => ?_) (fun hge => ?_)
  · have hlt : (j : Int) < n := of_decide_eq_true hlt
    have hw : IntKind.i64.wrap ((j : Int) + 1) = ((j + 1 : Nat) : Int) := by rw [i64_id _ (by omega) (by omega)]; rfl
    have hc1 := cut_range (n := n) (by omega) s0 s1 (j := j + 1) (by omega)
    have hc0 := cut_range (n := n) (by omega) s0 s1 (j := j) (by omega)
    refine Or.inl ⟨.tuple #[.int .i64 (cut sum n (j + 1)), .int .i64 0], fun ρ S w' _ => by
      show Calls _ 25 #[.int .i64 sum, .int .i64 (IntKind.i64.wrap ((j : Int) + 1)), .int .i64 n] _ _
      rw [hw]
      have := mulDiv2_c sum ((j + 1 : Nat) : Int) n ⟨by omega, by omega⟩ ⟨by omega, by omega⟩ ⟨by omega, by omega⟩ w'
      rw [mulDiv_cut (by omega) s0 s1 (by omega)] at this
      exact this, ?_⟩
    refine ⟨[cut sum n (j + 1) - cut sum n j], ⟨rfl, ?_, by simp⟩, by show ((parts sum n j).length + 1) * 8 ≤ _; omega, ?_⟩
    · show [DV.v (.int .i64 (IntKind.i64.wrap (cut sum n (j + 1) - cut sum n j)))] = [DV.v (.int .i64 (cut sum n (j + 1) - cut sum n j))]
      rw [i64_id _ (by omega) (by omega)]
    · exact ⟨[2], ⟨j + 1, by omega⟩, And.intro (And.intro rfl (And.intro rfl (And.intro rfl (And.intro rfl (And.intro (svI hw) trivial))))) (And.intro rfl trivial), by show n.toNat - (j + 1) < n.toNat - j; omega⟩
  · have hge : ¬ (j : Int) < n := of_decide_eq_false hge
    have hj : j = n.toNat := by omega
    subst hj
    exact fun ρ S w' hi => ⟨_, rfl, hi.below, hi.fresh 0 iE_flat rfl rfl⟩
end Go.Proofs.Ytciflfejkncdeaa
