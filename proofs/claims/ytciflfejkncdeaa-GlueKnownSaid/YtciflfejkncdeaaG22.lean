/- The laws of glue: GlueKnown. -/
import Derived.Test.YtciflfejkncdeaaG21
namespace Go.Proofs.Ytciflfejkncdeaa
open Go Go.Eng Go.RowKit Go.Ar

def edges : List Int := [-1, 0, 1, 2, 3, 7, 8, 100, 104, 108, 109, 1048576, 1099511627775, 1099511627776, 1099511627777, 9223372036854775807, -9223372036854775808]
theorem edges_len : edges.length = 17 := rfl
theorem u16_range (x : Int) : 0 ≤ IntKind.u16.wrap x ∧ IntKind.u16.wrap x ≤ 65535 := by
  simp only [IntKind.wrap, IntKind.bits, IntKind.signed, Bool.false_and]
  simp
  omega

set_option maxRecDepth 100000 in
theorem lawKno_c (w : World) : Calls Try.prog 8 #[] w fun e w' => e = .returned (.bool true) ∧ Below w.heap.size w w' := by
  refine calls_exec (cf := cf) cfok (fn := Try.f8) Try.func8 rfl [] [] (ρ := fun _ => undef) (· < w.heap.size) rfl rfl rfl (by simp [svOkL]) (memNil fun _ h => h) ?_
  refine ⟨{ i : Nat // i ≤ 17 }, fun i => ⟨245, [⟨1, [], .sl 0⟩, ⟨2, [], .v (.int .i64 i.1)⟩], [owL edges], [], dropL nats 1⟩, fun i => 17 - i.1, ⟨[0], ⟨0, by omega⟩, ?_⟩, fun i => ?_⟩
  · exact And.intro (And.intro rfl (And.intro rfl trivial)) (And.intro ⟨rfl, rfl, rfl, rfl, by simp [edges]⟩ trivial)
  obtain ⟨i, hi⟩ := i
  refine And.intro (fun hlt => ?_) (fun hge => ?_)
  · have hlt : i < 17 := by have : (i : Int) < (edges.length : Int) := of_decide_eq_true hlt
                            rw [edges_len] at this; omega
    have bi : (0 : Int) ≤ (i : Int) ∧ (i : Int) < (edges.length : Int) := by rw [edges_len]; omega
    refine ⟨{ j : Nat // j ≤ 17 }, fun j => ⟨245, [⟨1, [], .sl 0⟩, ⟨2, [], .v (.int .i64 i)⟩, ⟨3, [], .v (.int .i64 j.1)⟩], [owL edges], [], dropL nats 1⟩, fun j => 17 - j.1, ⟨[0], ⟨0, by omega⟩, ?_⟩, fun j => ?_⟩
    · exact And.intro (And.intro rfl (And.intro rfl (And.intro rfl trivial))) (And.intro rfl trivial)
    obtain ⟨j, hj⟩ := j
    refine And.intro (fun hlt2 => ?_) (fun hge2 => ?_)
    · have hlt2 : j < 17 := by have : (j : Int) < (edges.length : Int) := of_decide_eq_true hlt2
                               rw [edges_len] at this; omega
      have bj : (0 : Int) ≤ (j : Int) ∧ (j : Int) < (edges.length : Int) := by rw [edges_len]; omega
      refine ⟨{ k : Nat // k ≤ 18 }, fun k => ⟨245, [⟨1, [], .sl 0⟩, ⟨2, [], .v (.int .i64 i)⟩, ⟨3, [], .v (.int .i64 j)⟩, ⟨4, [], .v (.int .i64 k.1)⟩], [owL edges], [], dropL nats 1⟩, fun k => 18 - k.1, ⟨[0], ⟨0, by omega⟩, ?_⟩, fun k => ?_⟩
      · exact And.intro (And.intro rfl (And.intro rfl (And.intro rfl (And.intro rfl trivial)))) (And.intro rfl trivial)
      obtain ⟨k, hk⟩ := k
      refine And.intro (fun hlt3 => ?_) (fun hge3 => ?_)
      · have hlt3 : k < 17 := by have : (k : Int) < (edges.length : Int) := of_decide_eq_true hlt3
                                 rw [edges_len] at this; omega
        have bk : (0 : Int) ≤ (k : Int) ∧ (k : Int) < (edges.length : Int) := by rw [edges_len]; omega
        have hik : (IntKind.i64.wrap ((i : Int) + (k : Int))).tmod (edges.length : Int) = (((i + k) % 17 : Nat) : Int) := by
          rw [edges_len, i64_id _ (by omega) (by omega), ← Int.natCast_add, Int.tmod_eq_emod_of_nonneg (by omega)]; rfl
        have bik : (0 : Int) ≤ (IntKind.i64.wrap ((i : Int) + (k : Int))).tmod (edges.length : Int) ∧ (IntKind.i64.wrap ((i : Int) + (k : Int))).tmod (edges.length : Int) < (edges.length : Int) := by
          rw [hik, edges_len]; omega
        refine Or.inl ⟨by kernel_rfl, ?_⟩
        refine And.intro bi ?_
        refine And.intro bj ?_
        refine And.intro bk ?_
        refine And.intro (fun h : ((edges.length : Nat) : Int) = 0 => by rw [edges_len] at h; cases h) ?_
        refine And.intro bik ?_
        refine ⟨.bool true, fun ρ S w' _ => lawBad_c _ _ _ _ w', ?_⟩
        refine And.intro (fun _ => bi) ?_
        refine And.intro (fun _ => bj) ?_
        refine And.intro (fun _ => bk) ?_
        refine And.intro (fun _ => bj) ?_
        refine And.intro (fun _ h => absurd (show (2 : Int) = 0 from h) (by decide)) ?_
        refine ⟨.bool true, fun _ ρ S w' _ => lawDem_c _ _ _ _ _ w', ?_⟩
        refine And.intro (fun _ => bi) ?_
        refine And.intro (fun _ => bj) ?_
        refine And.intro (fun _ => bk) ?_
        refine And.intro (fun _ => bk) ?_
        refine And.intro (fun _ => bi) ?_
        refine ⟨.bool true, fun _ ρ S w' _ => lawGro_c _ _ _ _ _ w', ?_⟩
        refine And.intro (fun h => by cases h) (fun _ => ?_)
        refine ⟨[0], ⟨k + 2, by omega⟩, And.intro (And.intro rfl (And.intro rfl (And.intro rfl (And.intro (svI ?_) trivial)))) (And.intro rfl trivial), by show 18 - (k + 2) < 18 - k; omega⟩
        show IntKind.i64.wrap ((k : Int) + 2) = ((k + 2 : Nat) : Int)
        rw [i64_id _ (by omega) (by omega)]; rfl
      · exact ⟨[0], ⟨j + 1, hlt2⟩, And.intro (And.intro rfl (And.intro rfl (And.intro (svI (i64_succ j (by omega))) trivial))) (And.intro rfl trivial), by show 17 - (j + 1) < 17 - j; omega⟩
    · refine ⟨{ n : Nat // n ≤ 10 }, fun n => ⟨245, [⟨1, [], .sl 0⟩, ⟨2, [], .v (.int .i64 i)⟩, ⟨5, [], .v (.int .i64 ((n.1 : Int) - 1))⟩], [owL edges], [], dropL nats 1⟩, fun n => 10 - n.1, ⟨[0], ⟨0, by omega⟩, ?_⟩, fun n => ?_⟩
      · exact And.intro (And.intro rfl (And.intro rfl (And.intro rfl trivial))) (And.intro rfl trivial)
      obtain ⟨n, hn⟩ := n
      refine And.intro (fun hlt4 => ?_) (fun hge4 => ?_)
      · have hlt4 : n < 10 := by have : (n : Int) - 1 < 9 := of_decide_eq_true hlt4
                                 omega
        refine And.intro bi ?_
        refine Or.inl ⟨.bool true, fun ρ S w' _ => lawSpr_c _ _ w', ?_⟩
        refine And.intro (fun _ => bi) ?_
        refine Or.inl ⟨.bool true, fun _ ρ S w' _ => lawSpr_c _ _ w', ?_⟩
        refine And.intro (fun _ => bi) ?_
        refine Or.inl ⟨.bool true, fun _ ρ S w' _ => lawSum_c _ _ w' (u16_range _), ?_⟩
        refine And.intro (fun h => by cases h) (fun _ => ?_)
        refine ⟨[0], ⟨n + 1, hlt4⟩, And.intro (And.intro rfl (And.intro rfl (And.intro (svI ?_) trivial))) (And.intro rfl trivial), by show 10 - (n + 1) < 10 - n; omega⟩
        show IntKind.i64.wrap ((n : Int) - 1 + 1) = ((n + 1 : Nat) : Int) - 1
        rw [i64_id _ (by omega) (by omega)]; omega
      · exact ⟨[0], ⟨i + 1, hlt⟩, And.intro (And.intro rfl (And.intro (svI (i64_succ i (by omega))) trivial)) (And.intro rfl trivial), by show 17 - (i + 1) < 17 - i; omega⟩
  · have bad : ∀ a b c d x y z : Int, badnessF a b c d = (x, y, z) → ∀ w, Calls Try.prog 9 #[.int .i64 a, .int .i64 b, .int .i64 c, .int .i64 d] w fun e w' => e = .returned (.tuple #[.int .i64 x, .int .i64 y, .int .i64 z]) ∧ Below w.heap.size w w' := fun a b c d x y z h w => by
      have := badness_c a b c d w
      rw [h] at this
      exact this
    have dem : ∀ (a b c d : Int) (l : Bool) (x y : Int), demF a b c d l = (x, y) → ∀ w, Calls Try.prog 14 #[.int .i64 a, .int .i64 b, .int .i64 c, .int .i64 d, .bool l] w fun e w' => e = .returned (.tuple #[.int .i64 x, .int .i64 y]) ∧ Below w.heap.size w w' := fun a b c d l x y h w => by
      have := demerits_c a b c d l w
      rw [h] at this
      exact this
    refine Or.inl ⟨.tuple #[.int .i64 100, .int .i64 0, .int .i64 0], fun ρ S w' _ => bad 90 100 10 0 _ _ _ (by decide +kernel) w', ?_⟩
    refine Or.inl ⟨.tuple #[.int .i64 10000, .int .i64 0, .int .i64 0], fun ρ S w' _ => bad 90 100 0 5 _ _ _ (by decide +kernel) w', ?_⟩
    refine Or.inl ⟨.tuple #[.int .i64 12, .int .i64 0, .int .i64 0], fun ρ S w' _ => bad 104 100 0 8 _ _ _ (by decide +kernel) w', ?_⟩
    refine Or.inl ⟨.tuple #[.int .i64 10000, .int .i64 1, .int .i64 0], fun ρ S w' _ => bad 109 100 0 8 _ _ _ (by decide +kernel) w', ?_⟩
    refine Or.inl ⟨.tuple #[.int .i64 484, .int .i64 0], fun ρ S w' _ => dem 90 100 20 0 false _ _ (by decide +kernel) w', ?_⟩
    refine Or.inl ⟨.tuple #[.int .i64 100, .int .i64 0], fun ρ S w' _ => dem 90 100 20 0 true _ _ (by decide +kernel) w', ?_⟩
    refine Or.inl ⟨.tuple #[.int .i64 50, .int .i64 33, .int .i64 0], fun ρ S w' _ => by
      have := space_c 100 w'
      rw [show spaceF 100 = (50, 33, 0) by decide +kernel] at this
      exact this, ?_⟩
    refine Or.inr (lcall_fresh2 (t := 2) (sz := 1) (enc := iE) [] (.int .i64 2) (fun ρ S w' _ => by
      have := spread_c 5 65537 w'
      rw [show spreadF 5 65537 = ([], 2) by unfold spreadF; rw [if_neg (by decide)]] at this
      exact this) ?_)
    obtain ⟨P, hP, hl⟩ : ∃ P : List Int, spreadF 5 65536 = (P, 0) ∧ P.length = 65536 := ⟨parts 5 65536 65536, by unfold spreadF; rw [if_pos (by decide)]; rfl, parts_len _ _ _⟩
    refine Or.inr (lcall_fresh2 (t := 2) (sz := 1) (enc := iE) P (.int .i64 0) (fun ρ S w' _ => by
      have := spread_c 5 65536 w'
      rw [hP] at this
      exact this) ?_)
    refine Or.inl ⟨.bool true, fun _ ρ S w' _ => works_c w', ?_⟩
    refine fun ρ S w' hi => ⟨?_, hi.below⟩
    show Ending.returned (.bool ((true && decide ((P.length : Int) = 65536)) && true)) = _
    rw [hl]
    rfl
end Go.Proofs.Ytciflfejkncdeaa
