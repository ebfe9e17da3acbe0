/- fixed.Print: scaled points as decimals. -/
import Derived.Test.YtfjkajlkehjnnaaGreatDoorB2
import Derived.Test.YtfjkajlkehjnnaaGreatDoorG1
import Derived.Lib.ItoaNum
set_option maxRecDepth 100000
set_option linter.unusedVariables false
namespace Go.Proofs.YtfjkajlkehjnnaaGreatDoor
open Go Go.Eng Go.RowKit

/-- the digits behind the point -/
def fracL : Nat → Nat → List UInt8
  | 0, _ => []
  | f + 1, r => if r = 0 then [] else UInt8.ofNat (48 + r * 10 / 65536) :: fracL f (r * 10 % 65536)
theorem fracL_zero : ∀ f, fracL f 0 = []
  | 0 => rfl
  | f + 1 => by simp [fracL]
theorem fracL_succ {f r : Nat} (h : 0 < r) : fracL (f + 1) r = UInt8.ofNat (48 + r * 10 / 65536) :: fracL f (r * 10 % 65536) := by
  simp [fracL, show r ≠ 0 by omega]
theorem fracL_len : ∀ f r, (fracL f r).length ≤ f
  | 0, _ => by simp [fracL]
  | f + 1, r => by
    unfold fracL
    split
    · simp
    · simp [fracL_len f]

/-- the digits on the way -/
structure Fr (tot : List UInt8) where
  acc : List UInt8
  r : Nat
  f : Nat
  lt : r < 65536
  e : acc ++ fracL f r = tot
  z : r * 10 ^ f % 65536 = 0
theorem Fr.pos {tot : List UInt8} (s : Fr tot) (h : 0 < s.r) : ∃ f, s.f = f + 1 := by
  cases hf : s.f with
  | zero => have := s.z; rw [hf, Nat.pow_zero, Nat.mul_one, Nat.mod_eq_of_lt s.lt] at this; omega
  | succ f => exact ⟨f, rfl⟩
def Fr.next {tot : List UInt8} (s : Fr tot) (h : 0 < s.r) : Fr tot where
  acc := s.acc ++ [UInt8.ofNat (48 + s.r * 10 / 65536)]
  r := s.r * 10 % 65536
  f := s.f - 1
  lt := Nat.mod_lt _ (by decide)
  e := by
    obtain ⟨f, hf⟩ := s.pos h
    have he := s.e
    rw [hf, fracL_succ h] at he
    rw [hf, List.append_assoc]
    exact he
  z := by
    obtain ⟨f, hf⟩ := s.pos h
    have hz := s.z
    rw [hf, Nat.pow_succ] at hz
    rw [hf, Nat.add_sub_cancel, Nat.mod_mul_mod, ← hz]
    congr 1
    rw [Nat.mul_assoc, Nat.mul_comm 10]
theorem Fr.done {tot : List UInt8} (s : Fr tot) (h : s.r = 0) : s.acc = tot := by
  have := s.e
  rw [h, fracL_zero, List.append_nil] at this
  exact this

def printB (sp : Int) : List UInt8 :=
  (if sp < 0 then [45] else []) ++ Lib.decDigits (sp.natAbs / 65536) ++ ((if 0 < sp.natAbs % 65536 then [46] else []) ++ fracL 16 (sp.natAbs % 65536))

theorem quot_nat (n : Nat) : ((n : Int)).tdiv 65536 = ((n / 65536 : Nat) : Int) := rfl
theorem rem_nat (n : Nat) : ((n : Int)).tmod 65536 = ((n % 65536 : Nat) : Int) := rfl
theorem dig_u8 {n : Nat} (h : n < 10) : IntKind.u8.wrap (48 + IntKind.u8.wrap (n : Int)) = ((UInt8.ofNat (48 + n)).toNat : Int) := by
  match n, h with
  | 0, _ | 1, _ | 2, _ | 3, _ | 4, _ | 5, _ | 6, _ | 7, _ | 8, _ | 9, _ => decide
theorem pow16 (n : Nat) : n * 10 ^ 16 % 65536 = 0 := by
  rw [show (10 : Nat) ^ 16 = 152587890625 * 65536 from rfl, ← Nat.mul_assoc, Nat.mul_mod_left]

theorem print_c (sp : Int) (w : World) (h1 : -9223372036854775808 ≤ sp) (h2 : sp ≤ 9223372036854775807)
    (hF : ∀ w, Calls Tryz.prog 21 #[.int .u64 ((sp.natAbs / 65536 : Nat) : Int), .int .i64 10] w fun e w' => e = .returned (.string ⟨(Lib.decDigits (sp.natAbs / 65536)).toArray⟩) ∧ Below w.heap.size w w') :
    Calls Tryz.prog 6 #[.int .i64 sp] w fun e w' => e = .returned (.string ⟨(printB sp).toArray⟩) ∧ Below w.heap.size w w' := by
  have hnat : sp.natAbs ≤ 9223372036854775808 := by omega
  have hdl : (Lib.decDigits (sp.natAbs / 65536)).length ≤ 20 := by
    rw [Lib.decDigits_length]
    rcases Nat.eq_zero_or_pos (sp.natAbs / 65536) with h | h
    · rw [h, Lib.nDigits_small (by omega)]; omega
    · have := Lib.numDigits_eq (sp.natAbs / 65536) h (by omega)
      split at this <;> omega
  have hbs : (⟨(Lib.decDigits (sp.natAbs / 65536)).toArray⟩ : ByteArray).size = (Lib.decDigits (sp.natAbs / 65536)).length := List.size_toArray
  obtain ⟨tot, htot⟩ : ∃ tot, tot = printB sp := ⟨_, rfl⟩
  have hlen : tot.length ≤ 100 := by
    rw [htot]
    have := fracL_len 16 (sp.natAbs % 65536)
    unfold printB
    split <;> split <;> simp only [List.length_append, List.length_singleton, List.length_nil] <;> omega
  have hne : tot ≠ [] := by
    rw [htot]
    intro e
    have := congrArg List.length e
    have h3 := Lib.nDigits_pos (sp.natAbs / 65536)
    rw [← Lib.decDigits_length] at h3
    unfold printB at this
    simp only [List.length_append, List.length_nil] at this
    omega
  rw [← htot]
  refine calls_exec (cf := cf) cfok (fn := Tryz.f6) Tryz.func6 rfl [.v (.int .i64 sp)] [] (ρ := fun _ => undef) (· < w.heap.size) rfl rfl rfl (by simp [svOkL, svOk]) (memNil fun _ h => h) ?_
  refine And.intro (fun hneg => ?_) (fun hpos => ?_)
  · have hneg : sp < 0 := of_decide_eq_true hneg
    refine Or.inr (lcall_sub [0] (writeByte_f 45) rfl rfl rfl rfl rfl (And.intro (And.intro rfl rfl) trivial) ?_)
    refine Or.inl ⟨_, fun ρ S w' hm => size_c sp w' h1 h2, ?_⟩
    refine And.intro (show (65536 : Int) ≠ 0 by decide) ?_
    refine Or.inl ⟨.string ⟨(Lib.decDigits (sp.natAbs / 65536)).toArray⟩, fun ρ S w' hm => ?_, ?_⟩
    · show Calls _ 21 #[.int .u64 (IntKind.u64.wrap ((sp.natAbs : Int).tdiv 65536)), .int .i64 10] _ _
      rw [quot_nat, IntWalk.u64_in _ (by omega)]
      exact hF w'
    refine Or.inr (lcall_sub [0, 1] (writeString_u [45] ⟨(Lib.decDigits (sp.natAbs / 65536)).toArray⟩ (by rw [hbs]; simp only [List.length_singleton]; omega)) rfl rfl rfl rfl rfl (And.intro (And.intro rfl rfl) (And.intro rfl trivial)) ?_)
    refine And.intro (show (65536 : Int) ≠ 0 by decide) ?_
    refine And.intro (fun hr => ?_) (fun hr => ?_)
    · have hr : 0 < sp.natAbs % 65536 := by have : (0 : Int) < ((sp.natAbs : Int).tmod 65536) := of_decide_eq_true hr
                                            rw [rem_nat] at this
                                            omega
      refine Or.inr (lcall_sub [0, 2] (writeByte_u ([45] ++ Lib.decDigits (sp.natAbs / 65536)) 46 (by rw [List.length_append, List.length_singleton]; omega)) rfl rfl rfl rfl rfl (And.intro (And.intro rfl rfl) (And.intro rfl trivial)) ?_)
      have he : ([45] ++ Lib.decDigits (sp.natAbs / 65536) ++ [46]) ++ fracL 16 (sp.natAbs % 65536) = tot := by
        rw [htot]
        unfold printB
        rw [if_pos hneg, if_pos hr]
        simp only [List.append_assoc, List.nil_append]
      refine ⟨Fr tot, fun s => ⟨31, [⟨3, [], .bx 0 0⟩, ⟨4, [], .v (.int .u64 s.r)⟩], [.bx 43 [.bx 0 0, .sl 1], bys s.acc], [], dropL nats 2⟩, fun s => s.f, ⟨[0, 3], ⟨[45] ++ Lib.decDigits (sp.natAbs / 65536) ++ [46], sp.natAbs % 65536, 16, Nat.mod_lt _ (by decide), he, pow16 _⟩, ?_⟩, fun s => ?_⟩
      · exact And.intro (And.intro rfl (And.intro rfl trivial)) (And.intro (And.intro rfl rfl) (And.intro rfl trivial))
      have hlt := s.lt
      have hal : s.acc.length ≤ 200 := by
        have h1 := congrArg List.length s.e
        rw [List.length_append] at h1
        omega
      refine And.intro (fun h => ?_) (fun h => ?_)
      · have h : 0 < s.r := by have : (0 : Int) < (s.r : Int) := of_decide_eq_true h
                               omega
        obtain ⟨f, hf⟩ := s.pos h
        have e1 : IntKind.u64.wrap ((s.r : Int) * 10) = ((s.r * 10 : Nat) : Int) := by rw [IntWalk.u64_in _ (by omega)]; omega
        refine And.intro (show (65536 : Int) ≠ 0 by decide) ?_
        have e2 : IntKind.u8.wrap (48 + IntKind.u8.wrap (IntKind.u64.wrap ((IntKind.u64.wrap ((s.r : Int) * 10)).tdiv 65536))) = ((UInt8.ofNat (48 + s.r * 10 / 65536)).toNat : Int) := by
          rw [e1, quot_nat, IntWalk.u64_in _ (by omega)]
          exact dig_u8 (by omega)
        refine Or.inr (lcall_sub [0, 1] (writeByte_u s.acc (UInt8.ofNat (48 + s.r * 10 / 65536)) (by omega)) (congrArg (fun z : Int => [SV.bx 0 0, SV.v (Value.int IntKind.u8 z)]) e2) rfl rfl rfl rfl (And.intro (And.intro rfl rfl) (And.intro rfl trivial)) ?_)
        refine And.intro (show (65536 : Int) ≠ 0 by decide) ?_
        have e3 : (IntKind.u64.wrap ((s.r : Int) * 10)).tmod 65536 = (((s.next h).r : Nat) : Int) := by rw [e1]; rfl
        refine ⟨[0, 2], s.next h, And.intro (And.intro rfl (And.intro (congrArg (fun z : Int => SV.v (Value.int IntKind.u64 z)) e3) trivial)) (And.intro (And.intro rfl rfl) (And.intro rfl trivial)), ?_⟩
        show s.f - 1 < s.f
        omega
      · have h : s.r = 0 := by have : ¬ (0 : Int) < (s.r : Int) := of_decide_eq_false h
                               omega
        have hd := s.done h
        refine Or.inr (lcall_sub [0, 1] (string_c s.acc (by rw [hd]; exact hne) (.bx 0 0)) rfl rfl rfl rfl rfl (And.intro (And.intro rfl rfl) (And.intro rfl trivial)) ?_)
        exact fun ρ S w' hi => ⟨congrArg (fun l : List UInt8 => Ending.returned (Value.string ⟨l.toArray⟩)) hd, hi.below⟩
    · have hr : ¬ 0 < sp.natAbs % 65536 := by have : ¬ (0 : Int) < ((sp.natAbs : Int).tmod 65536) := of_decide_eq_false hr
                                              rw [rem_nat] at this
                                              omega
      have he : ([45] ++ Lib.decDigits (sp.natAbs / 65536)) ++ fracL 16 (sp.natAbs % 65536) = tot := by
        rw [htot]
        unfold printB
        rw [if_pos hneg, if_neg hr]
        simp only [List.append_assoc, List.nil_append]
      refine ⟨Fr tot, fun s => ⟨31, [⟨3, [], .bx 0 0⟩, ⟨4, [], .v (.int .u64 s.r)⟩], [.bx 43 [.bx 0 0, .sl 1], bys s.acc], [], dropL nats 2⟩, fun s => s.f, ⟨[0, 2], ⟨[45] ++ Lib.decDigits (sp.natAbs / 65536), sp.natAbs % 65536, 16, Nat.mod_lt _ (by decide), he, pow16 _⟩, ?_⟩, fun s => ?_⟩
      · exact And.intro (And.intro rfl (And.intro rfl trivial)) (And.intro (And.intro rfl rfl) (And.intro rfl trivial))
      have hlt := s.lt
      have hal : s.acc.length ≤ 200 := by
        have h1 := congrArg List.length s.e
        rw [List.length_append] at h1
        omega
      refine And.intro (fun h => ?_) (fun h => ?_)
      · have h : 0 < s.r := by have : (0 : Int) < (s.r : Int) := of_decide_eq_true h
                               omega
        obtain ⟨f, hf⟩ := s.pos h
        have e1 : IntKind.u64.wrap ((s.r : Int) * 10) = ((s.r * 10 : Nat) : Int) := by rw [IntWalk.u64_in _ (by omega)]; omega
        refine And.intro (show (65536 : Int) ≠ 0 by decide) ?_
        have e2 : IntKind.u8.wrap (48 + IntKind.u8.wrap (IntKind.u64.wrap ((IntKind.u64.wrap ((s.r : Int) * 10)).tdiv 65536))) = ((UInt8.ofNat (48 + s.r * 10 / 65536)).toNat : Int) := by
          rw [e1, quot_nat, IntWalk.u64_in _ (by omega)]
          exact dig_u8 (by omega)
        refine Or.inr (lcall_sub [0, 1] (writeByte_u s.acc (UInt8.ofNat (48 + s.r * 10 / 65536)) (by omega)) (congrArg (fun z : Int => [SV.bx 0 0, SV.v (Value.int IntKind.u8 z)]) e2) rfl rfl rfl rfl (And.intro (And.intro rfl rfl) (And.intro rfl trivial)) ?_)
        refine And.intro (show (65536 : Int) ≠ 0 by decide) ?_
        have e3 : (IntKind.u64.wrap ((s.r : Int) * 10)).tmod 65536 = (((s.next h).r : Nat) : Int) := by rw [e1]; rfl
        refine ⟨[0, 2], s.next h, And.intro (And.intro rfl (And.intro (congrArg (fun z : Int => SV.v (Value.int IntKind.u64 z)) e3) trivial)) (And.intro (And.intro rfl rfl) (And.intro rfl trivial)), ?_⟩
        show s.f - 1 < s.f
        omega
      · have h : s.r = 0 := by have : ¬ (0 : Int) < (s.r : Int) := of_decide_eq_false h
                               omega
        have hd := s.done h
        refine Or.inr (lcall_sub [0, 1] (string_c s.acc (by rw [hd]; exact hne) (.bx 0 0)) rfl rfl rfl rfl rfl (And.intro (And.intro rfl rfl) (And.intro rfl trivial)) ?_)
        exact fun ρ S w' hi => ⟨congrArg (fun l : List UInt8 => Ending.returned (Value.string ⟨l.toArray⟩)) hd, hi.below⟩
  · have hneg : ¬ sp < 0 := of_decide_eq_false hpos
    refine Or.inl ⟨_, fun ρ S w' hm => size_c sp w' h1 h2, ?_⟩
    refine And.intro (show (65536 : Int) ≠ 0 by decide) ?_
    refine Or.inl ⟨.string ⟨(Lib.decDigits (sp.natAbs / 65536)).toArray⟩, fun ρ S w' hm => ?_, ?_⟩
    · show Calls _ 21 #[.int .u64 (IntKind.u64.wrap ((sp.natAbs : Int).tdiv 65536)), .int .i64 10] _ _
      rw [quot_nat, IntWalk.u64_in _ (by omega)]
      exact hF w'
    refine Or.inr (lcall_sub [0] (writeString_f ⟨(Lib.decDigits (sp.natAbs / 65536)).toArray⟩ (by rw [hbs]; omega)) rfl rfl rfl rfl rfl (And.intro (And.intro rfl rfl) trivial) ?_)
    refine And.intro (show (65536 : Int) ≠ 0 by decide) ?_
    refine And.intro (fun hr => ?_) (fun hr => ?_)
    · have hr : 0 < sp.natAbs % 65536 := by have : (0 : Int) < ((sp.natAbs : Int).tmod 65536) := of_decide_eq_true hr
                                            rw [rem_nat] at this
                                            omega
      refine Or.inr (lcall_sub [0, 1] (writeByte_u (Lib.decDigits (sp.natAbs / 65536)) 46 (by rw [show (Lib.decDigits (sp.natAbs / 65536)).length = (Lib.decDigits (sp.natAbs / 65536)).length from rfl]; omega)) rfl rfl rfl rfl rfl (And.intro (And.intro rfl rfl) (And.intro rfl trivial)) ?_)
      have he : (Lib.decDigits (sp.natAbs / 65536) ++ [46]) ++ fracL 16 (sp.natAbs % 65536) = tot := by
        rw [htot]
        unfold printB
        rw [if_neg hneg, if_pos hr]
        simp only [List.append_assoc, List.nil_append]
      refine ⟨Fr tot, fun s => ⟨31, [⟨3, [], .bx 0 0⟩, ⟨4, [], .v (.int .u64 s.r)⟩], [.bx 43 [.bx 0 0, .sl 1], bys s.acc], [], dropL nats 2⟩, fun s => s.f, ⟨[0, 2], ⟨Lib.decDigits (sp.natAbs / 65536) ++ [46], sp.natAbs % 65536, 16, Nat.mod_lt _ (by decide), he, pow16 _⟩, ?_⟩, fun s => ?_⟩
      · exact And.intro (And.intro rfl (And.intro rfl trivial)) (And.intro (And.intro rfl rfl) (And.intro rfl trivial))
      have hlt := s.lt
      have hal : s.acc.length ≤ 200 := by
        have h1 := congrArg List.length s.e
        rw [List.length_append] at h1
        omega
      refine And.intro (fun h => ?_) (fun h => ?_)
      · have h : 0 < s.r := by have : (0 : Int) < (s.r : Int) := of_decide_eq_true h
                               omega
        obtain ⟨f, hf⟩ := s.pos h
        have e1 : IntKind.u64.wrap ((s.r : Int) * 10) = ((s.r * 10 : Nat) : Int) := by rw [IntWalk.u64_in _ (by omega)]; omega
        refine And.intro (show (65536 : Int) ≠ 0 by decide) ?_
        have e2 : IntKind.u8.wrap (48 + IntKind.u8.wrap (IntKind.u64.wrap ((IntKind.u64.wrap ((s.r : Int) * 10)).tdiv 65536))) = ((UInt8.ofNat (48 + s.r * 10 / 65536)).toNat : Int) := by
          rw [e1, quot_nat, IntWalk.u64_in _ (by omega)]
          exact dig_u8 (by omega)
        refine Or.inr (lcall_sub [0, 1] (writeByte_u s.acc (UInt8.ofNat (48 + s.r * 10 / 65536)) (by omega)) (congrArg (fun z : Int => [SV.bx 0 0, SV.v (Value.int IntKind.u8 z)]) e2) rfl rfl rfl rfl (And.intro (And.intro rfl rfl) (And.intro rfl trivial)) ?_)
        refine And.intro (show (65536 : Int) ≠ 0 by decide) ?_
        have e3 : (IntKind.u64.wrap ((s.r : Int) * 10)).tmod 65536 = (((s.next h).r : Nat) : Int) := by rw [e1]; rfl
        refine ⟨[0, 2], s.next h, And.intro (And.intro rfl (And.intro (congrArg (fun z : Int => SV.v (Value.int IntKind.u64 z)) e3) trivial)) (And.intro (And.intro rfl rfl) (And.intro rfl trivial)), ?_⟩
        show s.f - 1 < s.f
        omega
      · have h : s.r = 0 := by have : ¬ (0 : Int) < (s.r : Int) := of_decide_eq_false h
                               omega
        have hd := s.done h
        refine Or.inr (lcall_sub [0, 1] (string_c s.acc (by rw [hd]; exact hne) (.bx 0 0)) rfl rfl rfl rfl rfl (And.intro (And.intro rfl rfl) (And.intro rfl trivial)) ?_)
        exact fun ρ S w' hi => ⟨congrArg (fun l : List UInt8 => Ending.returned (Value.string ⟨l.toArray⟩)) hd, hi.below⟩
    · have hr : ¬ 0 < sp.natAbs % 65536 := by have : ¬ (0 : Int) < ((sp.natAbs : Int).tmod 65536) := of_decide_eq_false hr
                                              rw [rem_nat] at this
                                              omega
      have he : (Lib.decDigits (sp.natAbs / 65536)) ++ fracL 16 (sp.natAbs % 65536) = tot := by
        rw [htot]
        unfold printB
        rw [if_neg hneg, if_neg hr]
        simp only [List.append_assoc, List.nil_append]
      refine ⟨Fr tot, fun s => ⟨31, [⟨3, [], .bx 0 0⟩, ⟨4, [], .v (.int .u64 s.r)⟩], [.bx 43 [.bx 0 0, .sl 1], bys s.acc], [], dropL nats 2⟩, fun s => s.f, ⟨[0, 1], ⟨Lib.decDigits (sp.natAbs / 65536), sp.natAbs % 65536, 16, Nat.mod_lt _ (by decide), he, pow16 _⟩, ?_⟩, fun s => ?_⟩
      · exact And.intro (And.intro rfl (And.intro rfl trivial)) (And.intro (And.intro rfl rfl) (And.intro rfl trivial))
      have hlt := s.lt
      have hal : s.acc.length ≤ 200 := by
        have h1 := congrArg List.length s.e
        rw [List.length_append] at h1
        omega
      refine And.intro (fun h => ?_) (fun h => ?_)
      · have h : 0 < s.r := by have : (0 : Int) < (s.r : Int) := of_decide_eq_true h
                               omega
        obtain ⟨f, hf⟩ := s.pos h
        have e1 : IntKind.u64.wrap ((s.r : Int) * 10) = ((s.r * 10 : Nat) : Int) := by rw [IntWalk.u64_in _ (by omega)]; omega
        refine And.intro (show (65536 : Int) ≠ 0 by decide) ?_
        have e2 : IntKind.u8.wrap (48 + IntKind.u8.wrap (IntKind.u64.wrap ((IntKind.u64.wrap ((s.r : Int) * 10)).tdiv 65536))) = ((UInt8.ofNat (48 + s.r * 10 / 65536)).toNat : Int) := by
          rw [e1, quot_nat, IntWalk.u64_in _ (by omega)]
          exact dig_u8 (by omega)
        refine Or.inr (lcall_sub [0, 1] (writeByte_u s.acc (UInt8.ofNat (48 + s.r * 10 / 65536)) (by omega)) (congrArg (fun z : Int => [SV.bx 0 0, SV.v (Value.int IntKind.u8 z)]) e2) rfl rfl rfl rfl (And.intro (And.intro rfl rfl) (And.intro rfl trivial)) ?_)
        refine And.intro (show (65536 : Int) ≠ 0 by decide) ?_
        have e3 : (IntKind.u64.wrap ((s.r : Int) * 10)).tmod 65536 = (((s.next h).r : Nat) : Int) := by rw [e1]; rfl
        refine ⟨[0, 2], s.next h, And.intro (And.intro rfl (And.intro (congrArg (fun z : Int => SV.v (Value.int IntKind.u64 z)) e3) trivial)) (And.intro (And.intro rfl rfl) (And.intro rfl trivial)), ?_⟩
        show s.f - 1 < s.f
        omega
      · have h : s.r = 0 := by have : ¬ (0 : Int) < (s.r : Int) := of_decide_eq_false h
                               omega
        have hd := s.done h
        refine Or.inr (lcall_sub [0, 1] (string_c s.acc (by rw [hd]; exact hne) (.bx 0 0)) rfl rfl rfl rfl rfl (And.intro (And.intro rfl rfl) (And.intro rfl trivial)) ?_)
        exact fun ρ S w' hi => ⟨congrArg (fun l : List UInt8 => Ending.returned (Value.string ⟨l.toArray⟩)) hd, hi.below⟩
end Go.Proofs.YtfjkajlkehjnnaaGreatDoor
