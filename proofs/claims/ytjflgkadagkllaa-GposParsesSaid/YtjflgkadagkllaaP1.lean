/- The reference's ranges and Coverage. -/
import Derived.Test.YtjflgkadagkllaaN15
set_option maxRecDepth 100000
set_option linter.unusedVariables false
namespace Go.Proofs.Ytjflgkadagkllaa
open Go Go.Eng Go.RowKit

theorem rw_c (b : List Int) (a q : Int) (p : Nat) (hB : Byt b) (hb : b.length ≤ 1000000) (h0 : 0 ≤ a) (h : a + p + 2 ≤ b.length) (hq : q = a + p) (v : Value) (w : World) (hv : Rd w v 1 bE b) :
    Calls Try.prog 67 #[v, .int .i64 q] w fun e w' => e = .returned (.int .i64 (w2 (b.drop a.toNat) p)) ∧ Below w.heap.size w w' := by
  have := w_c b (a + p) q hq hB (by omega) (i64_id _ (by omega) (by omega)) v w hv
  rwa [wF_at h0 h] at this
theorem rw_x (b : List Int) (a q : Int) (p : Nat) (x : Int) (hx : x = w2 (b.drop a.toNat) p) (hB : Byt b) (hb : b.length ≤ 1000000) (h0 : 0 ≤ a) (h : a + p + 2 ≤ b.length) (hq : q = a + p) (v : Value) (w : World) (hv : Rd w v 1 bE b) :
    Calls Try.prog 67 #[v, .int .i64 q] w fun e w' => e = .returned (.int .i64 x) ∧ Below w.heap.size w w' := by
  subst hx
  exact rw_c b a q p hB hb h0 h hq v w hv
theorem all_q (b : List Int) (a n q m : Int) (hb : b.length ≤ 1000000) (ha : 0 ≤ a ∧ a ≤ 10000000000) (hq : q = a) (hm : m = n) (v : Value) (w : World) (hv : Rd w v 1 bE b) :
    Calls Try.prog 68 #[v, .int .i64 q, .int .i64 m] w fun e w' => e = .returned (.bool (!outR b a n)) ∧ Below w.heap.size w w' := by
  subst hq hm
  exact all_c b q m (by omega) (i64_id _ (by omega) (by omega)) v w hv
theorem sF_w2 {d : List Int} (h : Byt d) (i : Nat) : sF d i = w2 d (6 * i) := wd_w2 h _
theorem sL_w2 {d : List Int} (h : Byt d) (i : Nat) : sL d i = w2 d (6 * i + 2) := wd_w2 h _
theorem sT_w2 {d : List Int} (h : Byt d) (i : Nat) : sT d i = w2 d (6 * i + 4) := wd_w2 h _
set_option maxHeartbeats 1000000 in
theorem ranges_c (b : List Int) (a g m q : Int) (n : Nat) (hB : Byt b) (hb : b.length ≤ 1000000) (h0 : 0 ≤ a) (h1 : a ≤ 10000000) (hn : n ≤ 65535) (hm : m = (n : Int)) (hq : q = a) (v : Value) (w : World) (hv : Rd w v 1 bE b) :
    Calls Try.prog 85 #[v, .int .i64 q, .int .i64 m, .int .i64 g] w fun e w' => e = .returned (.bool (!outR b a (6 * (n : Int)) && allN (sB (b.drop a.toNat) g) n)) ∧ Below w.heap.size w w' := by
  subst hm hq
  obtain ⟨X, hX⟩ : ∃ X, (!outR b q (6 * (n : Int)) && allN (sB (b.drop q.toNat) g) n) = X := ⟨_, rfl⟩
  rw [hX]
  refine calls_exec (cf := cf) cfok (fn := Try.f85) Try.func85 rfl [.sl 0, .v (.int .i64 q), .v (.int .i64 (n : Int)), .v (.int .i64 g)] [.rd Int inferInstance 1 bE b] (ρ := fun _ => v) (· < w.heap.size) rfl rfl rfl (by simp [svOkL, svOk]) (memRd (fun _ h => h) ⟨hv, trivial⟩) ?_
  have e6 : IntKind.i64.wrap (6 * (n : Int)) = 6 * (n : Int) := i64_id _ (by omega) (by omega)
  refine Or.inl ⟨.bool (!outR b q (6 * (n : Int))), fun ρ S w hm => all_q b q _ _ _ hb ⟨by omega, by omega⟩ rfl e6 _ w (hm.rd 0 rfl rfl), ?_⟩
  refine And.intro (fun h => ?_) (fun h => ?_)
  · have h : (!(!outR b q (6 * (n : Int)))) = true := h
    rw [Bool.not_not] at h
    rw [h] at hX
    subst hX
    exact fun ρ S w' hi => ⟨rfl, hi.below⟩
  have h : (!(!outR b q (6 * (n : Int)))) = false := h
  rw [Bool.not_not] at h
  rw [h] at hX
  obtain ⟨_, _, h2⟩ := outR_iff.1 h
  have hd := hB.drop q.toNat
  obtain ⟨d, hdd⟩ : ∃ d, d = b.drop q.toNat := ⟨_, rfl⟩
  rw [← hdd] at hX hd
  refine ⟨{ i : Nat // i ≤ n ∧ ∀ j, j < i → sB d g j = false }, fun i => ⟨51, [⟨0, [], .sl 0⟩, ⟨1, [], .v (.int .i64 q)⟩, ⟨2, [], .v (.int .i64 (n : Int))⟩, ⟨3, [], .v (.int .i64 g)⟩, ⟨9, [], .v (.int .i64 (sE d i.1))⟩, ⟨10, [], .v (.int .i64 (i.1 : Nat))⟩], [.rd Int inferInstance 1 bE b], [], dropL nats 1⟩, fun i => n - i.1, ⟨[0], ⟨0, by omega, fun j h => absurd h (by omega)⟩, ?_⟩, fun i => ?_⟩
  · exact And.intro (And.intro rfl (And.intro rfl (And.intro rfl (And.intro rfl (And.intro rfl (And.intro rfl trivial)))))) (And.intro rfl trivial)
  obtain ⟨i, hi, hall⟩ := i
  refine And.intro (fun hlt => ?_) (fun hge => ?_)
  rotate_left
  · have hge : i = n := by
      have : ¬ ((i : Nat) : Int) < ((n : Nat) : Int) := of_decide_eq_false hge
      omega
    subst hge
    rw [allN_true hall] at hX
    subst hX
    exact fun ρ S w' hi => ⟨rfl, hi.below⟩
  have hlt : i < n := by
    have : ((i : Nat) : Int) < ((n : Nat) : Int) := of_decide_eq_true hlt
    omega
  have w6 : IntKind.i64.wrap (6 * (i : Int)) = 6 * (i : Int) := i64_id _ (by omega) (by omega)
  have wa : IntKind.i64.wrap (q + IntKind.i64.wrap (6 * (i : Int))) = q + ((6 * i : Nat) : Int) := by rw [w6, i64_id _ (by omega) (by omega)]; omega
  have wb : IntKind.i64.wrap (IntKind.i64.wrap (q + IntKind.i64.wrap (6 * (i : Int))) + 2) = q + ((6 * i + 2 : Nat) : Int) := by rw [wa, i64_id _ (by omega) (by omega)]; omega
  refine Or.inl ⟨.int .i64 (sF d i), fun ρ S w hm => rw_x b q _ (6 * i) (sF d i) (by rw [sF_w2 hd, hdd]) hB hb h0 (by omega) wa _ w (hm.rd 0 rfl rfl), ?_⟩
  refine Or.inl ⟨.int .i64 (sL d i), fun ρ S w hm => rw_x b q _ (6 * i + 2) (sL d i) (by rw [sL_w2 hd, hdd]) hB hb h0 (by omega) wb _ w (hm.rd 0 rfl rfl), ?_⟩
  refine And.intro (fun hb => ?_) (fun hb => ?_)
  · have hb : sB d g i = true := hb
    rw [allN_false hlt hb] at hX
    subst hX
    exact fun ρ S w' hi => ⟨rfl, hi.below⟩
  have hb : sB d g i = false := hb
  exact ⟨[0], ⟨i + 1, hlt, fun j hj => by
      by_cases he : j = i
      · rw [he]; exact hb
      · exact hall j (by omega)⟩, And.intro (And.intro rfl (And.intro rfl (And.intro rfl (And.intro rfl (And.intro rfl (And.intro (svI (i64_succ i (by omega))) trivial)))))) (And.intro rfl trivial), by show n - (i + 1) < n - i; omega⟩
end Go.Proofs.Ytjflgkadagkllaa
