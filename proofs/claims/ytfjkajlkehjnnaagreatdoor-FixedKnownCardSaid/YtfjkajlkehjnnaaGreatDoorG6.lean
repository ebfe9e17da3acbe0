/- The reference's numbers: of, trim, double, plusOne. -/
import Derived.Test.YtfjkajlkehjnnaaGreatDoorG5
import Derived.Test.YtfjkajlkehjnnaaGreatDoorA3
namespace Go.Proofs.YtfjkajlkehjnnaaGreatDoor
open Go Go.Eng Go.RowKit Go.Ar

abbrev uE : Nat → List DV := fun n => [.v (.int .u32 (n : Int))]
theorem uE_flat : FlatE uE := ⟨fun n => [.int .u32 (n : Int)], fun _ => rfl⟩
abbrev rdU (xs : List Nat) : Chunk := .rd Nat inferInstance 1 uE xs
abbrev owU (xs : List Nat) : Chunk := .own 77 Nat inferInstance 1 uE xs
theorem owEq {a b : List Nat} (h : a = b) : owU a = owU b := by rw [h]
theorem svI {k : IntKind} {a b : Int} (h : a = b) : SV.v (.int k a) = SV.v (.int k b) := by rw [h]
theorem dvU {a : Int} {b : Nat} (h : a = b) : [DV.v (.int .u32 a)] = List.flatMap uE [b] := by rw [h]; rfl
theorem u32i {x : Nat} (h : x < B) : IntKind.u32.wrap (x : Int) = (x : Int) := by
  simp only [IntKind.wrap, IntKind.bits, IntKind.signed, Bool.false_and]
  simp only [B] at h
  simp
  omega
theorem and16 {x : Nat} (hx : x < W) : bitsV .and .u64 (x : Int) 65535 = ((x % R : Nat) : Int) := by
  have := and_w hx (y := 65535) (by simp [W])
  rw [show ((65535 : Nat) : Int) = 65535 from rfl] at this
  rw [this, show (65535 : Nat) = 2 ^ 16 - 1 from rfl, Nat.and_two_pow_sub_one_eq_mod]
theorem and16u {x : Nat} (hx : x < B) : bitsV .and .u32 (x : Int) 65535 = ((x % R : Nat) : Int) := by
  have h1 : (BitVec.ofInt IntKind.u32.bits (x : Int)).toNat = x := by
    simp only [B] at hx
    simp [BitVec.toNat_ofInt, IntKind.bits]
    omega
  have h2 : (BitVec.ofInt IntKind.u32.bits (65535 : Int)).toNat = 65535 := by decide
  simp only [bitsV, BitVec.toNat_and, h1, h2]
  rw [show (65535 : Nat) = 2 ^ 16 - 1 from rfl, Nat.and_two_pow_sub_one_eq_mod]
  have : x % 2 ^ 16 < 2 ^ 16 := Nat.mod_lt _ (by decide)
  exact u32i (by simp only [B]; omega)
theorem Rpow (i : Nat) : R ^ i = 2 ^ (16 * i) := by rw [Nat.pow_mul]

def ofL (n : Nat) : Nat → List Nat
  | 0 => []
  | i + 1 => ofL n i ++ [n / R ^ i % R]
theorem ofL_len (n : Nat) : ∀ i, (ofL n i).length = i
  | 0 => rfl
  | i + 1 => by simp [ofL, ofL_len n i]
theorem ofL_dg (n : Nat) : ∀ i, Dg (ofL n i)
  | 0 => Dg.nil
  | i + 1 => (ofL_dg n i).snoc (Nat.mod_lt _ (by decide))
theorem ofL_val (n : Nat) : ∀ i, val (ofL n i) = n % R ^ i
  | 0 => by simp [ofL, val, Nat.mod_one]
  | i + 1 => by rw [ofL, val_snoc, ofL_len, ofL_val n i, pmod]

theorem of_c (n : Nat) (w : World) (hn : n < W) : Calls Tryz.prog 83 #[.int .u64 n] w fun e w' => ∃ v, e = .returned v ∧ Below w.heap.size w w' ∧ Fresh w w' v 77 1 uE (ofL n 4) := by
  refine calls_exec (cf := cf) cfok (fn := Tryz.f83) Tryz.func83 rfl [.v (.int .u64 n)] [] (ρ := fun _ => undef) (· < w.heap.size) rfl rfl rfl (by simp [svOkL, svOk]) (memNil fun _ h => h) ?_
  refine ⟨{ i : Nat // i ≤ 4 }, fun i => ⟨19, [⟨0, [], .v (.int .u64 n)⟩, ⟨3, [], .sl 0⟩, ⟨4, [], .v (.int .i64 i.1)⟩], [owU (ofL n i.1)], [], dropL nats 1⟩, fun i => 4 - i.1, ⟨[1000], ⟨0, by omega⟩, ?_⟩, fun i => ?_⟩
  · exact And.intro (And.intro rfl (And.intro rfl (And.intro rfl trivial))) (And.intro rfl trivial)
  obtain ⟨i, hi⟩ := i
  have hlen := ofL_len n i
  refine And.intro (fun hlt => ?_) (fun hge => ?_)
  · have hlt : i < 4 := by have : (i : Int) < 4 := of_decide_eq_true hlt
                           omega
    have hsh : IntKind.i64.wrap (16 * (i : Int)) = ((16 * i : Nat) : Int) := by rw [i64_id _ (by omega) (by omega)]; omega
    refine And.intro (by rw [hsh]; exact Int.natCast_nonneg _) ?_
    refine ⟨[n / R ^ i % R], ⟨rfl, dvU ?_, by simp⟩, ?_, ?_⟩
    · have hq : n / R ^ i < W := Nat.lt_of_le_of_lt (Nat.div_le_self _ _) hn
      rw [hsh, shr_n _ (by simp only [IntKind.bits]; omega), ← Rpow, and16 hq]
      have : n / R ^ i % R < R := Nat.mod_lt _ (by decide)
      exact u32i (Nat.lt_trans this (by decide))
    · show ((ofL n i).length + 1) * _ ≤ _
      rw [hlen]
      show (i + 1) * 4 ≤ _
      omega
    · exact ⟨[2], ⟨i + 1, hlt⟩, And.intro (And.intro rfl (And.intro rfl (And.intro (svI (i64_succ i (by omega))) trivial))) (And.intro rfl trivial), by show _ - (i + 1) < _ - i; omega⟩
  · have hge : i = 4 := by have : ¬ (i : Int) < 4 := of_decide_eq_false hge
                           omega
    subst hge
    exact fun ρ S w' hi => ⟨_, rfl, hi.below, hi.fresh 0 uE_flat rfl rfl⟩

theorem trimI (ys : List Nat) (hl : ys.length ≤ 1000000) (h : ys ≠ []) : IntKind.i64.wrap ((ys.length : Int) - 1) = ((ys.length - 1 : Nat) : Int) := by
  have := List.length_pos_iff.2 h
  rw [i64_id _ (by omega) (by omega)]; omega
/-- is the last digit there, and nought -/
theorem trimT {ys : List Nat} (hl : ys.length ≤ 1000000) (h : (decide ((ys.length : Int) > 0) && decide (((nth ys (IntKind.i64.wrap ((ys.length : Int) - 1)).toNat : Nat) : Int) = 0)) = true) : ys ≠ [] ∧ nth ys (ys.length - 1) = 0 := by
  rw [Bool.and_eq_true, decide_eq_true_iff, decide_eq_true_iff] at h
  obtain ⟨h1, h2⟩ := h
  have hne : ys ≠ [] := fun e => by rw [e] at h1; simp at h1
  rw [trimI ys hl hne] at h2
  exact ⟨hne, by simpa using h2⟩
theorem trimF {ys : List Nat} (hl : ys.length ≤ 1000000) (h : (decide ((ys.length : Int) > 0) && decide (((nth ys (IntKind.i64.wrap ((ys.length : Int) - 1)).toNat : Nat) : Int) = 0)) = false) : ys ≠ [] → nth ys (ys.length - 1) ≠ 0 := by
  intro hne h0
  rw [trimI ys hl hne] at h
  have := List.length_pos_iff.2 hne
  have e1 : decide ((ys.length : Int) > 0) = true := decide_eq_true (by omega)
  rw [e1] at h
  simp [h0] at h
theorem trimG {ys : List Nat} (hl : ys.length ≤ 1000000) (hg : decide ((ys.length : Int) > 0) = true) : 0 ≤ IntKind.i64.wrap ((ys.length : Int) - 1) ∧ IntKind.i64.wrap ((ys.length : Int) - 1) < (ys.length : Int) := by
  have hg : (ys.length : Int) > 0 := of_decide_eq_true hg
  rw [trimI ys hl (fun e => by rw [e] at hg; simp at hg)]
  omega

theorem trim_id (xs : List Nat) (hl : xs.length ≤ 1000000) (hn : xs ≠ [] → nth xs (xs.length - 1) ≠ 0) : LCall Tryz.prog ⟨0, [], [owU xs], [], []⟩ 66 [.sl 0] (fun st' s => st'.ch = [owU xs] ∧ s = .sl 0) := by
  refine lcall_exec (cf := cf) cfok (fn := Tryz.f66) Tryz.func66 rfl _ _ [owU xs] (.sl 0) rfl rfl (by simp [svOkL, svOk]) rfl ⟨⟨Nat.le_refl _, rfl⟩, trivial⟩ rfl rfl ?_
  refine ⟨Unit, fun _ => ⟨21, [⟨0, [], .sl 0⟩], [owU xs], [], dropL nats 1⟩, fun _ => 0, ⟨[0], (), ?_⟩, fun _ => ?_⟩
  · exact And.intro (And.intro rfl trivial) (And.intro rfl trivial)
  refine And.intro (fun hg => trimG hl hg) ?_
  refine And.intro (fun h => ?_) (fun h => ?_)
  · have := trimT hl h
    exact absurd this.2 (hn this.1)
  · exact ⟨[0], rfl, rfl, rfl, And.intro rfl trivial, rfl⟩
structure Cut (xs : List Nat) where
  k : Nat
  hk : k ≤ xs.length
  hv : val (xs.take k) = val xs
theorem toL_cut {xs : List Nat} (hd : Dg xs) (s : Cut xs) (h : xs.take s.k ≠ [] → nth (xs.take s.k) ((xs.take s.k).length - 1) ≠ 0) : xs.take s.k = toL (val xs) := by
  rw [toL_of (hd.take s.k) h, s.hv]
theorem cut_next (xs : List Nat) (s : Cut xs) (h : xs.take s.k ≠ [] ∧ nth (xs.take s.k) ((xs.take s.k).length - 1) = 0) : ∃ s' : Cut xs, s'.k + 1 = s.k := by
  obtain ⟨h1, h2⟩ := h
  have hk := s.hk
  have hl : (xs.take s.k).length = s.k := by simp [Nat.min_eq_left hk]
  have hpos := List.length_pos_iff.2 h1
  rw [hl] at h2 hpos
  obtain ⟨j, hj⟩ : ∃ j, s.k = j + 1 := ⟨s.k - 1, by omega⟩
  refine ⟨⟨j, by omega, ?_⟩, hj.symm⟩
  have hv := s.hv
  rw [hj] at hv h2 hk
  rw [nth_take_succ xs j (by omega)] at hv h2
  rw [val_snoc] at hv
  have : nth (xs.take j ++ [nth xs j]) j = nth xs j := by
    have hjl : (xs.take j).length = j := by simp; omega
    unfold nth
    simp [List.getD_eq_getElem?_getD, hjl]
  rw [show j + 1 - 1 = j from rfl, this] at h2
  rw [h2] at hv
  simpa using hv
theorem trim_cut (xs : List Nat) (hd : Dg xs) (hl : xs.length ≤ 1000000) (hn : xs ≠ [] ∧ nth xs (xs.length - 1) = 0) : LCall Tryz.prog ⟨0, [], [owU xs], [], []⟩ 66 [.sl 0] (fun st' s => st'.ch = [.dead, owU (toL (val xs))] ∧ s = .sl 1) := by
  refine lcall_exec (cf := cf) cfok (fn := Tryz.f66) Tryz.func66 rfl _ _ [.dead, owU (toL (val xs))] (.sl 1) rfl rfl (by simp [svOkL, svOk]) rfl ?_ rfl rfl ?_
  · exact ⟨trivial, trivial⟩
  refine ⟨Option (Cut xs), fun o => match o with
    | none => ⟨21, [⟨0, [], .sl 0⟩], [owU xs], [], dropL nats 1⟩
    | some s => ⟨21, [⟨0, [], .sl 1⟩], [.dead, owU (xs.take s.k)], [], dropL nats 2⟩, fun o => match o with | none => xs.length + 1 | some s => s.k, ⟨[0], none, ?_⟩, fun o => ?_⟩
  · exact And.intro (And.intro rfl trivial) (And.intro rfl trivial)
  cases o with
  | none =>
    refine And.intro (fun hg => trimG hl hg) ?_
    refine And.intro (fun h => ?_) (fun h => ?_)
    · obtain ⟨s', hs'⟩ := cut_next xs ⟨xs.length, Nat.le_refl _, by rw [List.take_length]⟩ (by simpa using hn)
      have hs' : s'.k + 1 = xs.length := hs'
      have hi := trimI xs hl hn.1
      refine ⟨by rw [hi]; omega, Or.inl ⟨rfl, ?_⟩⟩
      exact ⟨[0, 1], some s', And.intro (And.intro rfl trivial) (And.intro trivial (And.intro (owEq (by rw [hi]; congr 1; show xs.length - 1 = s'.k; omega)) trivial)), by show s'.k < xs.length + 1; omega⟩
    · exact absurd hn.2 (trimF hl h hn.1)
  | some s =>
    have hk := s.hk
    have hlk : (xs.take s.k).length = s.k := by simp [Nat.min_eq_left hk]
    refine And.intro (fun hg => trimG (by omega) hg) ?_
    refine And.intro (fun h => ?_) (fun h => ?_)
    · have hT := trimT (by omega) h
      obtain ⟨s', hs'⟩ := cut_next xs s hT
      have hi := trimI (xs.take s.k) (by omega) hT.1
      refine ⟨by rw [hi]; omega, Or.inl ⟨rfl, ?_⟩⟩
      refine ⟨[0, 2], some s', And.intro (And.intro rfl trivial) (And.intro trivial (And.intro (owEq ?_) trivial)), by show s'.k < s.k; omega⟩
      rw [hi, hlk]
      show (xs.take s.k).take (s.k - 1) = xs.take s'.k
      rw [List.take_take]
      congr 1
      omega
    · exact ⟨[0, 1], rfl, rfl, rfl, And.intro trivial (And.intro (owEq (toL_cut hd s (trimF (by omega) h))) trivial), rfl⟩
end Go.Proofs.YtfjkajlkehjnnaaGreatDoor
