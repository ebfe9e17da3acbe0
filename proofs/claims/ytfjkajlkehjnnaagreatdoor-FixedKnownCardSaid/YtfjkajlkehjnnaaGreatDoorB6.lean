/- fixed.Read's part, bit by bit: its digits doubled. -/
import Derived.Test.YtfjkajlkehjnnaaGreatDoorB5
set_option maxRecDepth 100000
set_option linter.unusedVariables false
namespace Go.Proofs.YtfjkajlkehjnnaaGreatDoor
open Go Go.Eng Go.RowKit

abbrev dRow (ds : List UInt8) : Chunk := .own 65 UInt8 inferInstance 1 bE ds
/-- the digits below j doubled, from the last one on -/
def dblGo : Nat → List UInt8 → Nat → List UInt8 × Nat
  | 0, ds, c => (ds, c)
  | j + 1, ds, c => dblGo j (ds.set j (UInt8.ofNat ((2 * (nth ds j).toNat + c) % 10))) ((2 * (nth ds j).toNat + c) / 10)
def dig10 (ds : List UInt8) : Prop := ∀ x ∈ ds, x.toNat < 10
theorem dig10_nth {ds : List UInt8} (h : dig10 ds) {j : Nat} (hj : j < ds.length) : (nth ds j).toNat < 10 := by
  rw [nth_eq ds j hj]; exact h _ (List.getElem_mem _)
theorem dig10_set {ds : List UInt8} (h : dig10 ds) (j : Nat) {n : Nat} (hn : n < 10) : dig10 (ds.set j (UInt8.ofNat n)) := by
  intro x hx
  rcases List.mem_or_eq_of_mem_set hx with hx | rfl
  · exact h x hx
  · rw [UInt8.toNat_ofNat_of_lt' (by simp [UInt8.size]; omega)]; exact hn
theorem ofNat_u8 {n : Nat} (h : n < 256) : ((UInt8.ofNat n).toNat : Int) = (n : Int) := by
  rw [UInt8.toNat_ofNat_of_lt' (by simp [UInt8.size]; omega)]

structure Db (R : List UInt8 × Nat) where
  j : Nat
  ds : List UInt8
  c : Nat
  hj : j ≤ 40
  hl : ds.length = 40
  hc : c ≤ 1
  hd : dig10 ds
  e : dblGo j ds c = R
def Db.next {R : List UInt8 × Nat} (s : Db R) (i : Nat) (h : s.j = i + 1) : Db R where
  j := i
  ds := s.ds.set i (UInt8.ofNat ((2 * (nth s.ds i).toNat + s.c) % 10))
  c := (2 * (nth s.ds i).toNat + s.c) / 10
  hj := by have := s.hj; omega
  hl := by rw [List.length_set]; exact s.hl
  hc := by
    have := dig10_nth s.hd (j := i) (by have := s.hl; have := s.hj; omega)
    have := s.hc
    omega
  hd := dig10_set s.hd i (Nat.mod_lt _ (by decide))
  e := by have := s.e; rw [h] at this; exact this

theorem bit_c (part ds : List UInt8) (hl : ds.length = 40) (hd : dig10 ds) (hn : part.length ≤ 40) :
    LCall Tryz.prog ⟨0, [], [.bx 9 [.v (.string (bs part))], dRow ds], [], []⟩ 30 [.bx 0 0, .bx 1 0]
      (fun st' s => st'.ch = [.bx 9 [.v (.string (bs part))], dRow (dblGo part.length ds 0).1] ∧ s = .v (.int .u64 ((dblGo part.length ds 0).2 : Nat))) := by
  obtain ⟨R, hR⟩ : ∃ R, R = dblGo part.length ds 0 := ⟨_, rfl⟩
  rw [← hR]
  have hRl : R.1.length = 40 := by
    have : ∀ j (ds : List UInt8) c, (dblGo j ds c).1.length = ds.length := by
      intro j
      induction j with
      | zero => intro ds c; rfl
      | succ j ih => intro ds c; rw [dblGo, ih, List.length_set]
    rw [hR, this, hl]
  refine lcall_exec (cf := cf) cfok (fn := Tryz.f30) Tryz.func30 rfl _ _ [.bx 9 [.v (.string (bs part))], dRow R.1] (.v (.int .u64 (R.2 : Nat))) rfl rfl (by simp [svOkL, svOk]) rfl (And.intro trivial (And.intro ⟨by rw [hRl, hl]; exact Nat.le_refl _, rfl⟩ trivial)) rfl rfl ?_
  have e0 : IntKind.i64.wrap (((bs part).size : Int) - 1) = ((part.length : Nat) : Int) - 1 := by rw [bs_size, IntWalk.i64_in _ ⟨by omega, by omega⟩]
  refine ⟨Db R, fun s => ⟨27, [⟨0, [], .bx 0 0⟩, ⟨1, [], .bx 1 0⟩, ⟨3, [], .v (.int .u8 (s.c : Nat))⟩, ⟨4, [], .v (.int .i64 ((s.j : Int) - 1))⟩], [.bx 9 [.v (.string (bs part))], dRow s.ds], [], dropL nats 2⟩, fun s => s.j, ⟨[0, 1], ⟨part.length, ds, 0, hn, hl, by decide, hd, hR.symm⟩, ?_⟩, fun s => ?_⟩
  · exact And.intro (And.intro rfl (And.intro rfl (And.intro rfl (And.intro (congrArg (fun z : Int => SV.v (Value.int IntKind.i64 z)) e0) trivial)))) (And.intro (And.intro rfl rfl) (And.intro rfl trivial))
  have hsj := s.hj
  have hsl := s.hl
  have hsc := s.hc
  refine And.intro (fun h => ?_) (fun h => ?_)
  · have h : 1 ≤ s.j := by have : (s.j : Int) - 1 ≥ 0 := of_decide_eq_true h
                           omega
    obtain ⟨i, hi⟩ : ∃ i, s.j = i + 1 := ⟨s.j - 1, by omega⟩
    have ej : ((s.j : Int) - 1) = (i : Int) := by omega
    have hdi := dig10_nth s.hd (j := i) (by omega)
    refine And.intro ⟨by omega, by rw [ej]; show (i : Int) < ((40 : Nat) : Int); omega, by rw [ej, hsl]; omega⟩ ?_
    have ex : IntKind.u8.wrap (IntKind.u8.wrap (2 * (((nth s.ds ((s.j : Int) - 1).toNat).toNat : Nat) : Int)) + ((s.c : Nat) : Int)) = ((2 * (nth s.ds i).toNat + s.c : Nat) : Int) := by
      rw [ej, Int.toNat_natCast, IntWalk.u8_in (2 * (((nth s.ds i).toNat : Nat) : Int)) ⟨by omega, by omega⟩, IntWalk.u8_in _ ⟨by omega, by omega⟩]
      omega
    have em : (IntKind.u8.wrap (IntKind.u8.wrap (2 * (((nth s.ds ((s.j : Int) - 1).toNat).toNat : Nat) : Int)) + ((s.c : Nat) : Int))).tmod 10 = ((UInt8.ofNat ((2 * (nth s.ds i).toNat + s.c) % 10)).toNat : Int) := by
      rw [ex, ofNat_u8 (by omega)]; rfl
    have eq : IntKind.u8.wrap ((IntKind.u8.wrap (IntKind.u8.wrap (2 * (((nth s.ds ((s.j : Int) - 1).toNat).toNat : Nat) : Int)) + ((s.c : Nat) : Int))).tdiv 10) = (((2 * (nth s.ds i).toNat + s.c) / 10 : Nat) : Int) := by
      rw [ex]
      show IntKind.u8.wrap (((2 * (nth s.ds i).toNat + s.c) / 10 : Nat) : Int) = _
      rw [IntWalk.u8_in _ ⟨by omega, by omega⟩]
    refine And.intro (show (10 : Int) ≠ 0 by decide) ?_
    refine And.intro (show (10 : Int) ≠ 0 by decide) ?_
    refine And.intro ⟨by omega, by rw [ej]; show (i : Int) < ((40 : Nat) : Int); omega, by rw [ej, hsl]; omega⟩ ?_
    refine ⟨UInt8.ofNat ((2 * (nth s.ds i).toNat + s.c) % 10), congrArg (fun z : Int => [DV.v (Value.int IntKind.u8 z)]) em.symm, rfl, ?_⟩
    have e4 : IntKind.i64.wrap ((s.j : Int) - 1 - 1) = ((i : Nat) : Int) - 1 := by rw [IntWalk.i64_in _ ⟨by omega, by omega⟩]; omega
    have e5 : s.ds.set ((s.j : Int) - 1).toNat (UInt8.ofNat ((2 * (nth s.ds i).toNat + s.c) % 10)) = (s.next i hi).ds := by rw [ej, Int.toNat_natCast]; rfl
    refine ⟨[0, 1], s.next i hi, And.intro (And.intro rfl (And.intro rfl (And.intro (congrArg (fun z : Int => SV.v (Value.int IntKind.u8 z)) eq) (And.intro (congrArg (fun z : Int => SV.v (Value.int IntKind.i64 z)) e4) trivial)))) (And.intro (And.intro rfl rfl) (And.intro (congrArg dRow e5) trivial)), ?_⟩
    show i < s.j
    omega
  · have h : s.j = 0 := by have : ¬ ((s.j : Int) - 1 ≥ 0) := of_decide_eq_false h
                           omega
    have he := s.e
    rw [h] at he
    have he1 : s.ds = R.1 := congrArg Prod.fst he
    have he2 : s.c = R.2 := congrArg Prod.snd he
    have e6 : IntKind.u64.wrap ((s.c : Nat) : Int) = ((R.2 : Nat) : Int) := by rw [← he2, IntWalk.u64_in _ ⟨by omega, by omega⟩]
    exact ⟨[0, 1], rfl, rfl, rfl, And.intro (And.intro rfl rfl) (And.intro (congrArg dRow he1) trivial), congrArg (fun z : Int => SV.v (Value.int IntKind.u64 z)) e6⟩
end Go.Proofs.YtfjkajlkehjnnaaGreatDoor
