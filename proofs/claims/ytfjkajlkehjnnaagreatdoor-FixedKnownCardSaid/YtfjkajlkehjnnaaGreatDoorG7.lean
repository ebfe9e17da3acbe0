/- The reference's numbers: double, plusOne. -/
import Derived.Test.YtfjkajlkehjnnaaGreatDoorG6
namespace Go.Proofs.YtfjkajlkehjnnaaGreatDoor
open Go Go.Eng Go.RowKit Go.Ar

/-- m times a number, and b: on the way -/
structure Acc (m b : Nat) (xs : List Nat) where
  i : Nat
  hi : i ≤ xs.length
  out : List Nat
  c : Nat
  hl : out.length = i
  hd : Dg out
  hc : c < 2
  hv : val out + R ^ i * c = m * val (xs.take i) + b
def Acc.start (m b : Nat) (xs : List Nat) (hb : b < 2) : Acc m b xs := ⟨0, by omega, [], b, rfl, Dg.nil, hb, by simp [val]⟩
def Acc.next {m b : Nat} {xs : List Nat} (hm : m ≤ 2) (hx : Dg xs) (s : Acc m b xs) (h : s.i < xs.length) : Acc m b xs where
  i := s.i + 1
  hi := h
  out := s.out ++ [(m * nth xs s.i + s.c) % R]
  c := (m * nth xs s.i + s.c) / R
  hl := by simp [s.hl]
  hd := s.hd.snoc (Nat.mod_lt _ (by decide))
  hc := by
    have h1 := hx.nth s.i
    have h2 := s.hc
    have : m * nth xs s.i ≤ 2 * nth xs s.i := Nat.mul_le_mul_right _ hm
    simp only [R] at *
    omega
  hv := by
    have hv := s.hv
    rw [val_snoc, s.hl, nth_take_succ xs s.i h, val_snoc]
    have hl : (xs.take s.i).length = s.i := by simp; omega
    rw [hl, Nat.pow_succ]
    generalize hX : m * nth xs s.i + s.c = X
    have hdm := Nat.div_add_mod X R
    have e : R ^ s.i * (X % R) + R ^ s.i * R * (X / R) = R ^ s.i * X := by
      rw [Nat.mul_assoc, ← Nat.mul_add, Nat.add_comm (X % R), hdm]
    have e2 : R ^ s.i * X = m * (R ^ s.i * nth xs s.i) + R ^ s.i * s.c := by
      rw [← hX, Nat.mul_add, Nat.mul_left_comm]
    rw [Nat.mul_add]
    omega
theorem Acc.all {m b : Nat} {xs : List Nat} (s : Acc m b xs) (h : s.i = xs.length) : val (s.out ++ [s.c]) = m * val xs + b ∧ Dg (s.out ++ [s.c]) ∧ (s.out ++ [s.c]).length = xs.length + 1 := by
  have hv := s.hv
  rw [h, List.take_length] at hv
  refine ⟨by rw [val_snoc, s.hl, h]; exact hv, s.hd.snoc (Nat.lt_trans s.hc (by decide)), by simp [s.hl, h]⟩
theorem Acc.small {m b : Nat} {xs : List Nat} (hm : m ≤ 2) (hx : Dg xs) (s : Acc m b xs) : m * nth xs s.i + s.c < 131072 := by
  have h1 := hx.nth s.i
  have h2 := s.hc
  have : m * nth xs s.i ≤ 2 * nth xs s.i := Nat.mul_le_mul_right _ hm
  simp only [R] at *
  omega
theorem usum {a b : Nat} (h : a + b < B) : IntKind.u32.wrap ((a : Int) + (b : Int)) = ((a + b : Nat) : Int) := by rw [← Int.natCast_add]; exact u32i h
theorem umul2 {a : Nat} (h : 2 * a < B) : IntKind.u32.wrap ((a : Int) * 2) = ((2 * a : Nat) : Int) := by
  have := u32i h
  rw [← this, Nat.mul_comm]; rfl
theorem shr16u {x : Nat} : shrV .u32 (x : Int) 16 = ((x / R : Nat) : Int) := shr_n (k := .u32) x (n := 16) (by decide)

theorem double_c (xs : List Nat) (bit : Nat) (v : Value) (w : World) (hx : Dg xs) (hb : bit < 2) (hl : xs.length ≤ 100000) (hv : Rd w v 1 uE xs) :
    Calls Tryz.prog 49 #[v, .int .u32 bit] w fun e w' => ∃ u, e = .returned u ∧ Below w.heap.size w w' ∧ Fresh w w' u 77 1 uE (toL (2 * val xs + bit)) := by
  refine calls_exec (cf := cf) cfok (fn := Tryz.f49) Tryz.func49 rfl [.sl 0, .v (.int .u32 bit)] [rdU xs] (ρ := fun _ => v) (· < w.heap.size) rfl rfl rfl (by simp [svOkL, svOk]) (memRd (fun _ h => h) ⟨hv, trivial⟩) ?_
  refine ⟨Acc 2 bit xs, fun s => ⟨34, [⟨0, [], .sl 0⟩, ⟨1, [], .v (.int .u32 s.c)⟩, ⟨5, [], .sl 1⟩, ⟨6, [], .v (.int .i64 s.i)⟩], [rdU xs, owU s.out], [], dropL nats 2⟩, fun s => xs.length - s.i, ⟨[0, 1000], Acc.start 2 bit xs hb, ?_⟩, fun s => ?_⟩
  · exact And.intro (And.intro rfl (And.intro rfl (And.intro rfl (And.intro rfl trivial)))) (And.intro rfl (And.intro rfl trivial))
  have hsi := s.hi
  have hso := s.hl
  refine And.intro (fun hlt => ?_) (fun hge => ?_)
  · have hlt : s.i < xs.length := by have : (s.i : Int) < (xs.length : Int) := of_decide_eq_true hlt
                                     omega
    have hsm := s.small (by decide) hx
    have eX : IntKind.u32.wrap (IntKind.u32.wrap (((nth xs s.i : Nat) : Int) * 2) + (s.c : Int)) = ((2 * nth xs s.i + s.c : Nat) : Int) := by
      rw [umul2 (by simp only [B]; omega), usum (by simp only [B]; omega)]
    refine And.intro ⟨by omega, by omega⟩ ?_
    refine ⟨[(2 * nth xs s.i + s.c) % R], ⟨rfl, dvU ?_, by simp⟩, ?_, ?_⟩
    · refine Eq.trans (congrArg (fun z => bitsV .and .u32 z 65535) eX) (and16u (by simp only [B]; omega))
    · show (s.out.length + 1) * 4 ≤ _
      omega
    · refine And.intro (show (0 : Int) ≤ 16 by decide) ?_
      exact ⟨[0, 3], s.next (by decide) hx hlt, And.intro (And.intro rfl (And.intro (svI ((congrArg (fun z => shrV .u32 z 16) eX).trans shr16u)) (And.intro rfl (And.intro (svI (i64_succ s.i (by omega))) trivial)))) (And.intro rfl (And.intro rfl trivial)), by show _ - (s.i + 1) < _ - s.i; omega⟩
  · have hge : s.i = xs.length := by have : ¬ (s.i : Int) < (xs.length : Int) := of_decide_eq_false hge
                                     omega
    obtain ⟨a1, a2, a3⟩ := s.all hge
    refine ⟨[s.c], ⟨rfl, dvU rfl, by simp⟩, by show (s.out.length + 1) * 4 ≤ _; omega, ?_⟩
    by_cases hn : s.out ++ [s.c] ≠ [] ∧ nth (s.out ++ [s.c]) ((s.out ++ [s.c]).length - 1) = 0
    · refine Or.inr (lcall_sub [3] (trim_cut _ a2 (by omega) hn) rfl rfl rfl rfl rfl (And.intro rfl trivial) ?_)
      rw [a1]
      exact fun ρ S w' hi => ⟨_, rfl, hi.below, hi.fresh 4 uE_flat rfl rfl⟩
    · have hn : s.out ++ [s.c] ≠ [] → nth (s.out ++ [s.c]) ((s.out ++ [s.c]).length - 1) ≠ 0 := fun h1 h2 => hn ⟨h1, h2⟩
      refine Or.inr (lcall_sub [3] (trim_id _ (by omega) hn) rfl rfl rfl rfl rfl (And.intro rfl trivial) ?_)
      refine fun ρ S w' hi => ⟨_, rfl, hi.below, ?_⟩
      rw [← a1, ← toL_of a2 hn]
      exact hi.fresh 3 uE_flat rfl rfl
theorem plusOne_c (xs : List Nat) (v : Value) (w : World) (hx : Dg xs) (hl : xs.length ≤ 100000) (hv : Rd w v 1 uE xs) :
    Calls Tryz.prog 50 #[v] w fun e w' => ∃ u, e = .returned u ∧ Below w.heap.size w w' ∧ Fresh w w' u 77 1 uE (toL (val xs + 1)) := by
  refine calls_exec (cf := cf) cfok (fn := Tryz.f50) Tryz.func50 rfl [.sl 0] [rdU xs] (ρ := fun _ => v) (· < w.heap.size) rfl rfl rfl (by simp [svOkL, svOk]) (memRd (fun _ h => h) ⟨hv, trivial⟩) ?_
  refine ⟨Acc 1 1 xs, fun s => ⟨32, [⟨0, [], .sl 0⟩, ⟨3, [], .sl 1⟩, ⟨4, [], .v (.int .u32 s.c)⟩, ⟨5, [], .v (.int .i64 s.i)⟩], [rdU xs, owU s.out], [], dropL nats 2⟩, fun s => xs.length - s.i, ⟨[0, 1000], Acc.start 1 1 xs (by decide), ?_⟩, fun s => ?_⟩
  · exact And.intro (And.intro rfl (And.intro rfl (And.intro rfl (And.intro rfl trivial)))) (And.intro rfl (And.intro rfl trivial))
  have hsi := s.hi
  have hso := s.hl
  refine And.intro (fun hlt => ?_) (fun hge => ?_)
  · have hlt : s.i < xs.length := by have : (s.i : Int) < (xs.length : Int) := of_decide_eq_true hlt
                                     omega
    have hsm := s.small (by decide) hx
    have eX : IntKind.u32.wrap (((nth xs s.i : Nat) : Int) + (s.c : Int)) = ((1 * nth xs s.i + s.c : Nat) : Int) := by
      rw [usum (by simp only [B]; omega), Nat.one_mul]
    refine And.intro ⟨by omega, by omega⟩ ?_
    refine ⟨[(1 * nth xs s.i + s.c) % R], ⟨rfl, dvU ?_, by simp⟩, ?_, ?_⟩
    · refine Eq.trans (congrArg (fun z => bitsV .and .u32 z 65535) eX) (and16u (by simp only [B]; omega))
    · show (s.out.length + 1) * 4 ≤ _
      omega
    · refine And.intro (show (0 : Int) ≤ 16 by decide) ?_
      exact ⟨[0, 3], s.next (by decide) hx hlt, And.intro (And.intro rfl (And.intro rfl (And.intro (svI ((congrArg (fun z => shrV .u32 z 16) eX).trans shr16u)) (And.intro (svI (i64_succ s.i (by omega))) trivial)))) (And.intro rfl (And.intro rfl trivial)), by show _ - (s.i + 1) < _ - s.i; omega⟩
  · have hge : s.i = xs.length := by have : ¬ (s.i : Int) < (xs.length : Int) := of_decide_eq_false hge
                                     omega
    obtain ⟨a1, a2, a3⟩ := s.all hge
    rw [Nat.one_mul] at a1
    refine ⟨[s.c], ⟨rfl, dvU rfl, by simp⟩, by show (s.out.length + 1) * 4 ≤ _; omega, ?_⟩
    by_cases hn : s.out ++ [s.c] ≠ [] ∧ nth (s.out ++ [s.c]) ((s.out ++ [s.c]).length - 1) = 0
    · refine Or.inr (lcall_sub [3] (trim_cut _ a2 (by omega) hn) rfl rfl rfl rfl rfl (And.intro rfl trivial) ?_)
      rw [a1]
      exact fun ρ S w' hi => ⟨_, rfl, hi.below, hi.fresh 4 uE_flat rfl rfl⟩
    · have hn : s.out ++ [s.c] ≠ [] → nth (s.out ++ [s.c]) ((s.out ++ [s.c]).length - 1) ≠ 0 := fun h1 h2 => hn ⟨h1, h2⟩
      refine Or.inr (lcall_sub [3] (trim_id _ (by omega) hn) rfl rfl rfl rfl rfl (And.intro rfl trivial) ?_)
      refine fun ρ S w' hi => ⟨_, rfl, hi.below, ?_⟩
      rw [← a1, ← toL_of a2 hn]
      exact hi.fresh 3 uE_flat rfl rfl
end Go.Proofs.YtfjkajlkehjnnaaGreatDoor
