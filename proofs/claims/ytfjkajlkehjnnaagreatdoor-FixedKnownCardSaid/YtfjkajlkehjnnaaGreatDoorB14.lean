/- The reference's decimals. -/
import Derived.Test.YtfjkajlkehjnnaaGreatDoorB5
import Derived.Test.YtfjkajlkehjnnaaGreatDoorG6
import Derived.Test.YtfjkajlkehjnnaaGreatDoorG11
import Derived.Test.YtfjkajlkehjnnaaGreatDoorG13
set_option maxRecDepth 100000
set_option linter.unusedVariables false
namespace Go.Proofs.YtfjkajlkehjnnaaGreatDoor
open Go Go.Eng Go.RowKit

theorem bs_append (a b : List UInt8) : bs a ++ bs b = bs (a ++ b) := by
  apply ba_ext
  simp
theorem ten_fin : ∀ i : Fin 10, ((bs [48, 49, 50, 51, 52, 53, 54, 55, 56, 57]).extract i.val (i.val + 1)).data.toList = [UInt8.ofNat (48 + i.val)] := by decide +kernel
theorem dd_small {v : Nat} (h : v < 10) : Lib.decDigits v = [UInt8.ofNat (48 + v)] := Lib.decDigits_one h
theorem dd_big {v : Nat} (h : ¬ v < 10) : Lib.decDigits v = Lib.decDigits (v / 10) ++ [UInt8.ofNat (48 + v % 10)] := by rw [Lib.decDigits, dif_neg h]
theorem dd_ne (v : Nat) : Lib.decDigits v ≠ [] := by
  intro e
  have h := Lib.nDigits_pos v
  rw [← Lib.decDigits_length, e] at h
  simp at h

structure Dd (D : List UInt8) where
  v : Nat
  acc : List UInt8
  lt : v < 18446744073709551616
  e : (v = 0 ∧ acc ≠ [] ∧ acc = D) ∨ ((0 < v ∨ acc = []) ∧ Lib.decDigits v ++ acc = D)
theorem Dd.len {D : List UInt8} (s : Dd D) : s.acc.length ≤ D.length := by
  rcases s.e with ⟨_, _, h⟩ | ⟨_, h⟩
  · exact Nat.le_of_eq (congrArg List.length h)
  · have := congrArg List.length h
    rw [List.length_append] at this
    omega
def Dd.next {D : List UInt8} (s : Dd D) (h : 0 < s.v ∨ s.acc = []) : Dd D where
  v := s.v / 10
  acc := [UInt8.ofNat (48 + s.v % 10)] ++ s.acc
  lt := by have := s.lt; omega
  e := by
    have he : Lib.decDigits s.v ++ s.acc = D := by
      rcases s.e with ⟨h1, h2, _⟩ | ⟨_, h2⟩
      · rcases h with h | h
        · omega
        · exact absurd h h2
      · exact h2
    by_cases hv : s.v < 10
    · left
      refine ⟨by omega, by simp, ?_⟩
      rw [dd_small hv] at he
      rw [Nat.mod_eq_of_lt hv]
      exact he
    · right
      refine ⟨.inl (by omega), ?_⟩
      rw [dd_big hv, List.append_assoc] at he
      exact he
theorem Dd.done {D : List UInt8} (s : Dd D) (h : ¬ (0 < s.v ∨ s.acc = [])) : s.acc = D := by
  rcases s.e with ⟨_, _, h1⟩ | ⟨h1, _⟩
  · exact h1
  · exact absurd h1 h
theorem dd_len (n : Nat) (h : n < 18446744073709551616) : (Lib.decDigits n).length ≤ 20 := by
  rw [Lib.decDigits_length]
  rcases Nat.eq_zero_or_pos n with h0 | h0
  · rw [h0, Lib.nDigits_small (by omega)]; omega
  · have := Lib.numDigits_eq n h0 h
    split at this <;> omega

theorem refDigits_c (n : Nat) (h : n < 18446744073709551616) (w : World) : Calls Tryz.prog 59 #[.int .u64 n] w fun e w' => e = .returned (.string (bs (Lib.decDigits n))) ∧ Below w.heap.size w w' := by
  refine calls_exec (cf := cf) cfok (fn := Tryz.f59) Tryz.func59 rfl [.v (.int .u64 n)] [] (ρ := fun _ => undef) (· < w.heap.size) rfl rfl rfl (by simp [svOkL, svOk]) (memNil fun _ h => h) ?_
  obtain ⟨D, hD⟩ : ∃ D, D = Lib.decDigits n := ⟨_, rfl⟩
  have hDl : D.length ≤ 20 := by rw [hD]; exact dd_len n h
  rw [← hD]
  refine ⟨Dd D, fun s => ⟨22, [⟨0, [], .v (.int .u64 (s.v : Nat))⟩, ⟨3, [], .v (.string (bs s.acc))⟩], [], [], nats⟩, fun s => s.v + (if s.acc = [] then 1 else 0), ⟨[], ⟨n, [], h, .inr ⟨.inr rfl, by rw [hD, List.append_nil]⟩⟩, ?_⟩, fun s => ?_⟩
  · exact And.intro (And.intro rfl (And.intro rfl trivial)) trivial
  have hsl := s.len
  have hlt := s.lt
  have ec : (decide (((s.v : Nat) : Int) > 0) || (bs s.acc).toList == (bs []).toList) = decide (0 < s.v ∨ s.acc = []) := by
    rw [bs_list, bs_list, Bool.eq_iff_iff]
    simp
  refine And.intro (fun hc => ?_) (fun hc => ?_)
  · have hc : 0 < s.v ∨ s.acc = [] := of_decide_eq_true (ec.symm.trans hc)
    refine And.intro (show (10 : Int) ≠ 0 by decide) ?_
    have hm : s.v % 10 < 10 := Nat.mod_lt _ (by decide)
    have e1 : IntKind.u64.wrap (((s.v % 10 : Nat) : Int) + 1) = ((s.v % 10 + 1 : Nat) : Int) := by rw [IntWalk.u64_in _ ⟨by omega, by omega⟩]; omega
    refine And.intro ⟨(show (0 : Int) ≤ ((s.v % 10 : Nat) : Int) by omega), (show ((s.v % 10 : Nat) : Int) ≤ IntKind.u64.wrap (((s.v % 10 : Nat) : Int) + 1) by rw [e1]; omega), (show IntKind.u64.wrap (((s.v % 10 : Nat) : Int) + 1) ≤ 10 by rw [e1]; omega)⟩ ?_
    have e2 : (bs [48, 49, 50, 51, 52, 53, 54, 55, 56, 57]).extract (((s.v % 10 : Nat) : Int)).toNat (IntKind.u64.wrap (((s.v % 10 : Nat) : Int) + 1)).toNat = bs [UInt8.ofNat (48 + s.v % 10)] := by
      rw [e1, Int.toNat_natCast, Int.toNat_natCast]
      exact ba_ext (ten_fin ⟨s.v % 10, hm⟩)
    refine And.intro ?_ ?_
    · show ((((bs [48, 49, 50, 51, 52, 53, 54, 55, 56, 57]).extract (((s.v % 10 : Nat) : Int)).toNat (IntKind.u64.wrap (((s.v % 10 : Nat) : Int) + 1)).toNat).size + (bs s.acc).size : Nat) : Int) ≤ IntKind.i64.max
      rw [e2, bs_size, bs_size]
      show ((1 + s.acc.length : Nat) : Int) ≤ 9223372036854775807
      omega
    refine And.intro (show (10 : Int) ≠ 0 by decide) ?_
    have e3 : (bs [48, 49, 50, 51, 52, 53, 54, 55, 56, 57]).extract (((s.v % 10 : Nat) : Int)).toNat (IntKind.u64.wrap (((s.v % 10 : Nat) : Int) + 1)).toNat ++ bs s.acc = bs (s.next hc).acc := by
      rw [e2, bs_append]; rfl
    have e4 : IntKind.u64.wrap (((s.v : Nat) : Int).tdiv 10) = (((s.next hc).v : Nat) : Int) := by
      show IntKind.u64.wrap (((s.v / 10 : Nat) : Int)) = ((s.v / 10 : Nat) : Int)
      rw [IntWalk.u64_in _ ⟨by omega, by omega⟩]
    refine ⟨[], s.next hc, And.intro (And.intro (congrArg (fun z : Int => SV.v (Value.int IntKind.u64 z)) e4) (And.intro (congrArg (fun b : ByteArray => SV.v (Value.string b)) e3) trivial)) trivial, ?_⟩
    show s.v / 10 + (if [UInt8.ofNat (48 + s.v % 10)] ++ s.acc = [] then 1 else 0) < s.v + (if s.acc = [] then 1 else 0)
    rw [if_neg (by simp)]
    rcases hc with hc | hc
    · split <;> omega
    · rw [if_pos hc]; omega
  · have hc : ¬ (0 < s.v ∨ s.acc = []) := of_decide_eq_false (ec.symm.trans hc)
    exact fun ρ S w' hi => ⟨congrArg (fun l : List UInt8 => Ending.returned (.string (bs l))) (s.done hc), hi.below⟩

theorem refPrint_c (sp : Int) (w : World) (h1 : -9223372036854775808 ≤ sp) (h2 : sp ≤ 9223372036854775807) :
    Calls Tryz.prog 40 #[.int .i64 sp] w fun e w' => e = .returned (.string (bs (printB sp))) ∧ Below w.heap.size w w' := by
  have hdl : (Lib.decDigits (sp.natAbs / 65536)).length ≤ 20 := dd_len _ (by omega)
  obtain ⟨tot, htot⟩ : ∃ tot, tot = printB sp := ⟨_, rfl⟩
  have hlen : tot.length ≤ 100 := by
    rw [htot]
    have := fracL_len 16 (sp.natAbs % 65536)
    unfold printB
    split <;> split <;> simp only [List.length_append, List.length_singleton, List.length_nil] <;> omega
  rw [← htot]
  refine calls_exec (cf := cf) cfok (fn := Tryz.f40) Tryz.func40 rfl [.v (.int .i64 sp)] [] (ρ := fun _ => undef) (· < w.heap.size) rfl rfl rfl (by simp [svOkL, svOk]) (memNil fun _ h => h) ?_
  refine Or.inl ⟨_, fun ρ S w' hm => size2_c sp w' h1 h2, ?_⟩
  refine And.intro (show (65536 : Int) ≠ 0 by decide) ?_
  refine Or.inl ⟨.string (bs (Lib.decDigits (sp.natAbs / 65536))), fun ρ S w' hm => ?_, ?_⟩
  · show Calls _ 59 #[.int .u64 (IntKind.u64.wrap ((sp.natAbs : Int).tdiv 65536))] _ _
    rw [quot_nat, IntWalk.u64_in _ (by omega)]
    exact refDigits_c _ (by omega) w'
  refine And.intro (fun hneg => ?_) (fun hneg => ?_)
  · have hneg : sp < 0 := of_decide_eq_true hneg
    refine And.intro ?_ ?_
    · show (((bs [45]).size + (bs (Lib.decDigits (sp.natAbs / 65536))).size : Nat) : Int) ≤ 9223372036854775807
      rw [bs_size, bs_size]
      show ((1 + (Lib.decDigits (sp.natAbs / 65536)).length : Nat) : Int) ≤ 9223372036854775807
      omega
    refine And.intro (show (65536 : Int) ≠ 0 by decide) ?_
    refine And.intro (fun hr => ?_) (fun hr => ?_)
    · have hr : 0 < sp.natAbs % 65536 := by have : (0 : Int) < ((sp.natAbs : Int).tmod 65536) := of_decide_eq_true hr
                                            rw [rem_nat] at this
                                            omega
      have he : (([45] ++ Lib.decDigits (sp.natAbs / 65536)) ++ [46]) ++ fracL 16 (sp.natAbs % 65536) = tot := by
        rw [htot]
        unfold printB
        rw [if_pos hneg, if_pos hr]
        simp only [List.append_assoc, List.nil_append]
      refine And.intro ?_ ?_
      · show (((bs [45] ++ bs (Lib.decDigits (sp.natAbs / 65536))).size + (bs [46]).size : Nat) : Int) ≤ 9223372036854775807
        rw [bs_append, bs_size, bs_size, List.length_append]
        simp only [List.length_singleton]
        omega
      refine ⟨Fr tot, fun s => ⟨33, [⟨4, [], .v (.string (bs s.acc))⟩, ⟨5, [], .v (.int .u64 s.r)⟩], [], [], nats⟩, fun s => s.f, ⟨[], ⟨([45] ++ Lib.decDigits (sp.natAbs / 65536)) ++ [46], sp.natAbs % 65536, 16, Nat.mod_lt _ (by decide), he, pow16 _⟩, ?_⟩, fun s => ?_⟩
      · exact And.intro (And.intro (congrArg (fun b : ByteArray => SV.v (Value.string b)) (by rw [bs_append, bs_append])) (And.intro rfl trivial)) trivial
      have hlt := s.lt
      have hal : s.acc.length ≤ 200 := by
        have h1 := congrArg List.length s.e
        rw [List.length_append] at h1
        omega
      refine And.intro (fun h => ?_) (fun h => ?_)
      · have h : 0 < s.r := by have : (0 : Int) < (s.r : Int) := of_decide_eq_true h
                               omega
        obtain ⟨f, hf⟩ := s.pos h
        have e1 : IntKind.u64.wrap ((s.r : Int) * 10) = ((s.r * 10 : Nat) : Int) := by rw [IntWalk.u64_in _ (by omega)]; omega
        have e2 : IntKind.u64.wrap ((IntKind.u64.wrap ((s.r : Int) * 10)).tdiv 65536) = ((s.r * 10 / 65536 : Nat) : Int) := by
          rw [e1, quot_nat, IntWalk.u64_in _ (by omega)]
        refine And.intro (show (65536 : Int) ≠ 0 by decide) ?_
        refine Or.inl ⟨.string (bs [UInt8.ofNat (48 + s.r * 10 / 65536)]), fun ρ S w' hm => ?_, ?_⟩
        · show Calls _ 59 #[.int .u64 (IntKind.u64.wrap ((IntKind.u64.wrap ((s.r : Int) * 10)).tdiv 65536))] _ _
          rw [e2, ← dd_small (v := s.r * 10 / 65536) (by omega)]
          exact refDigits_c _ (by omega) w'
        refine And.intro ?_ ?_
        · show (((bs s.acc).size + (bs [UInt8.ofNat (48 + s.r * 10 / 65536)]).size : Nat) : Int) ≤ 9223372036854775807
          rw [bs_size, bs_size]
          show ((s.acc.length + 1 : Nat) : Int) ≤ 9223372036854775807
          omega
        refine And.intro (show (65536 : Int) ≠ 0 by decide) ?_
        have e3 : (IntKind.u64.wrap ((s.r : Int) * 10)).tmod 65536 = (((s.next h).r : Nat) : Int) := by rw [e1]; rfl
        refine ⟨[], s.next h, And.intro (And.intro (congrArg (fun b : ByteArray => SV.v (Value.string b)) (bs_append s.acc [UInt8.ofNat (48 + s.r * 10 / 65536)])) (And.intro (congrArg (fun z : Int => SV.v (Value.int IntKind.u64 z)) e3) trivial)) trivial, ?_⟩
        show s.f - 1 < s.f
        omega
      · have h : s.r = 0 := by have : ¬ (0 : Int) < (s.r : Int) := of_decide_eq_false h
                               omega
        exact fun ρ S w' hi => ⟨congrArg (fun l : List UInt8 => Ending.returned (.string (bs l))) (s.done h), hi.below⟩
    · have hr : ¬ 0 < sp.natAbs % 65536 := by have : ¬ (0 : Int) < ((sp.natAbs : Int).tmod 65536) := of_decide_eq_false hr
                                              rw [rem_nat] at this
                                              omega
      have he : ([45] ++ Lib.decDigits (sp.natAbs / 65536)) ++ fracL 16 (sp.natAbs % 65536) = tot := by
        rw [htot]
        unfold printB
        rw [if_pos hneg, if_neg hr]
        simp only [List.append_assoc, List.nil_append]
      refine ⟨Fr tot, fun s => ⟨33, [⟨4, [], .v (.string (bs s.acc))⟩, ⟨5, [], .v (.int .u64 s.r)⟩], [], [], nats⟩, fun s => s.f, ⟨[], ⟨([45] ++ Lib.decDigits (sp.natAbs / 65536)), sp.natAbs % 65536, 16, Nat.mod_lt _ (by decide), he, pow16 _⟩, ?_⟩, fun s => ?_⟩
      · exact And.intro (And.intro (congrArg (fun b : ByteArray => SV.v (Value.string b)) (bs_append [45] _)) (And.intro rfl trivial)) trivial
      have hlt := s.lt
      have hal : s.acc.length ≤ 200 := by
        have h1 := congrArg List.length s.e
        rw [List.length_append] at h1
        omega
      refine And.intro (fun h => ?_) (fun h => ?_)
      · have h : 0 < s.r := by have : (0 : Int) < (s.r : Int) := of_decide_eq_true h
                               omega
        obtain ⟨f, hf⟩ := s.pos h
        have e1 : IntKind.u64.wrap ((s.r : Int) * 10) = ((s.r * 10 : Nat) : Int) := by rw [IntWalk.u64_in _ (by omega)]; omega
        have e2 : IntKind.u64.wrap ((IntKind.u64.wrap ((s.r : Int) * 10)).tdiv 65536) = ((s.r * 10 / 65536 : Nat) : Int) := by
          rw [e1, quot_nat, IntWalk.u64_in _ (by omega)]
        refine And.intro (show (65536 : Int) ≠ 0 by decide) ?_
        refine Or.inl ⟨.string (bs [UInt8.ofNat (48 + s.r * 10 / 65536)]), fun ρ S w' hm => ?_, ?_⟩
        · show Calls _ 59 #[.int .u64 (IntKind.u64.wrap ((IntKind.u64.wrap ((s.r : Int) * 10)).tdiv 65536))] _ _
          rw [e2, ← dd_small (v := s.r * 10 / 65536) (by omega)]
          exact refDigits_c _ (by omega) w'
        refine And.intro ?_ ?_
        · show (((bs s.acc).size + (bs [UInt8.ofNat (48 + s.r * 10 / 65536)]).size : Nat) : Int) ≤ 9223372036854775807
          rw [bs_size, bs_size]
          show ((s.acc.length + 1 : Nat) : Int) ≤ 9223372036854775807
          omega
        refine And.intro (show (65536 : Int) ≠ 0 by decide) ?_
        have e3 : (IntKind.u64.wrap ((s.r : Int) * 10)).tmod 65536 = (((s.next h).r : Nat) : Int) := by rw [e1]; rfl
        refine ⟨[], s.next h, And.intro (And.intro (congrArg (fun b : ByteArray => SV.v (Value.string b)) (bs_append s.acc [UInt8.ofNat (48 + s.r * 10 / 65536)])) (And.intro (congrArg (fun z : Int => SV.v (Value.int IntKind.u64 z)) e3) trivial)) trivial, ?_⟩
        show s.f - 1 < s.f
        omega
      · have h : s.r = 0 := by have : ¬ (0 : Int) < (s.r : Int) := of_decide_eq_false h
                               omega
        exact fun ρ S w' hi => ⟨congrArg (fun l : List UInt8 => Ending.returned (.string (bs l))) (s.done h), hi.below⟩
  · have hneg : ¬ sp < 0 := of_decide_eq_false hneg
    refine And.intro (show (65536 : Int) ≠ 0 by decide) ?_
    refine And.intro (fun hr => ?_) (fun hr => ?_)
    · have hr : 0 < sp.natAbs % 65536 := by have : (0 : Int) < ((sp.natAbs : Int).tmod 65536) := of_decide_eq_true hr
                                            rw [rem_nat] at this
                                            omega
      have he : ((Lib.decDigits (sp.natAbs / 65536)) ++ [46]) ++ fracL 16 (sp.natAbs % 65536) = tot := by
        rw [htot]
        unfold printB
        rw [if_neg hneg, if_pos hr]
        simp only [List.append_assoc, List.nil_append]
      refine And.intro ?_ ?_
      · show (((bs (Lib.decDigits (sp.natAbs / 65536))).size + (bs [46]).size : Nat) : Int) ≤ 9223372036854775807
        rw [bs_size, bs_size]
        show (((Lib.decDigits (sp.natAbs / 65536)).length + 1 : Nat) : Int) ≤ 9223372036854775807
        omega
      refine ⟨Fr tot, fun s => ⟨33, [⟨4, [], .v (.string (bs s.acc))⟩, ⟨5, [], .v (.int .u64 s.r)⟩], [], [], nats⟩, fun s => s.f, ⟨[], ⟨(Lib.decDigits (sp.natAbs / 65536)) ++ [46], sp.natAbs % 65536, 16, Nat.mod_lt _ (by decide), he, pow16 _⟩, ?_⟩, fun s => ?_⟩
      · exact And.intro (And.intro (congrArg (fun b : ByteArray => SV.v (Value.string b)) (bs_append _ [46])) (And.intro rfl trivial)) trivial
      have hlt := s.lt
      have hal : s.acc.length ≤ 200 := by
        have h1 := congrArg List.length s.e
        rw [List.length_append] at h1
        omega
      refine And.intro (fun h => ?_) (fun h => ?_)
      · have h : 0 < s.r := by have : (0 : Int) < (s.r : Int) := of_decide_eq_true h
                               omega
        obtain ⟨f, hf⟩ := s.pos h
        have e1 : IntKind.u64.wrap ((s.r : Int) * 10) = ((s.r * 10 : Nat) : Int) := by rw [IntWalk.u64_in _ (by omega)]; omega
        have e2 : IntKind.u64.wrap ((IntKind.u64.wrap ((s.r : Int) * 10)).tdiv 65536) = ((s.r * 10 / 65536 : Nat) : Int) := by
          rw [e1, quot_nat, IntWalk.u64_in _ (by omega)]
        refine And.intro (show (65536 : Int) ≠ 0 by decide) ?_
        refine Or.inl ⟨.string (bs [UInt8.ofNat (48 + s.r * 10 / 65536)]), fun ρ S w' hm => ?_, ?_⟩
        · show Calls _ 59 #[.int .u64 (IntKind.u64.wrap ((IntKind.u64.wrap ((s.r : Int) * 10)).tdiv 65536))] _ _
          rw [e2, ← dd_small (v := s.r * 10 / 65536) (by omega)]
          exact refDigits_c _ (by omega) w'
        refine And.intro ?_ ?_
        · show (((bs s.acc).size + (bs [UInt8.ofNat (48 + s.r * 10 / 65536)]).size : Nat) : Int) ≤ 9223372036854775807
          rw [bs_size, bs_size]
          show ((s.acc.length + 1 : Nat) : Int) ≤ 9223372036854775807
          omega
        refine And.intro (show (65536 : Int) ≠ 0 by decide) ?_
        have e3 : (IntKind.u64.wrap ((s.r : Int) * 10)).tmod 65536 = (((s.next h).r : Nat) : Int) := by rw [e1]; rfl
        refine ⟨[], s.next h, And.intro (And.intro (congrArg (fun b : ByteArray => SV.v (Value.string b)) (bs_append s.acc [UInt8.ofNat (48 + s.r * 10 / 65536)])) (And.intro (congrArg (fun z : Int => SV.v (Value.int IntKind.u64 z)) e3) trivial)) trivial, ?_⟩
        show s.f - 1 < s.f
        omega
      · have h : s.r = 0 := by have : ¬ (0 : Int) < (s.r : Int) := of_decide_eq_false h
                               omega
        exact fun ρ S w' hi => ⟨congrArg (fun l : List UInt8 => Ending.returned (.string (bs l))) (s.done h), hi.below⟩
    · have hr : ¬ 0 < sp.natAbs % 65536 := by have : ¬ (0 : Int) < ((sp.natAbs : Int).tmod 65536) := of_decide_eq_false hr
                                              rw [rem_nat] at this
                                              omega
      have he : (Lib.decDigits (sp.natAbs / 65536)) ++ fracL 16 (sp.natAbs % 65536) = tot := by
        rw [htot]
        unfold printB
        rw [if_neg hneg, if_neg hr]
        simp only [List.append_assoc, List.nil_append]
      refine ⟨Fr tot, fun s => ⟨33, [⟨4, [], .v (.string (bs s.acc))⟩, ⟨5, [], .v (.int .u64 s.r)⟩], [], [], nats⟩, fun s => s.f, ⟨[], ⟨(Lib.decDigits (sp.natAbs / 65536)), sp.natAbs % 65536, 16, Nat.mod_lt _ (by decide), he, pow16 _⟩, ?_⟩, fun s => ?_⟩
      · exact And.intro (And.intro (congrArg (fun b : ByteArray => SV.v (Value.string b)) (rfl)) (And.intro rfl trivial)) trivial
      have hlt := s.lt
      have hal : s.acc.length ≤ 200 := by
        have h1 := congrArg List.length s.e
        rw [List.length_append] at h1
        omega
      refine And.intro (fun h => ?_) (fun h => ?_)
      · have h : 0 < s.r := by have : (0 : Int) < (s.r : Int) := of_decide_eq_true h
                               omega
        obtain ⟨f, hf⟩ := s.pos h
        have e1 : IntKind.u64.wrap ((s.r : Int) * 10) = ((s.r * 10 : Nat) : Int) := by rw [IntWalk.u64_in _ (by omega)]; omega
        have e2 : IntKind.u64.wrap ((IntKind.u64.wrap ((s.r : Int) * 10)).tdiv 65536) = ((s.r * 10 / 65536 : Nat) : Int) := by
          rw [e1, quot_nat, IntWalk.u64_in _ (by omega)]
        refine And.intro (show (65536 : Int) ≠ 0 by decide) ?_
        refine Or.inl ⟨.string (bs [UInt8.ofNat (48 + s.r * 10 / 65536)]), fun ρ S w' hm => ?_, ?_⟩
        · show Calls _ 59 #[.int .u64 (IntKind.u64.wrap ((IntKind.u64.wrap ((s.r : Int) * 10)).tdiv 65536))] _ _
          rw [e2, ← dd_small (v := s.r * 10 / 65536) (by omega)]
          exact refDigits_c _ (by omega) w'
        refine And.intro ?_ ?_
        · show (((bs s.acc).size + (bs [UInt8.ofNat (48 + s.r * 10 / 65536)]).size : Nat) : Int) ≤ 9223372036854775807
          rw [bs_size, bs_size]
          show ((s.acc.length + 1 : Nat) : Int) ≤ 9223372036854775807
          omega
        refine And.intro (show (65536 : Int) ≠ 0 by decide) ?_
        have e3 : (IntKind.u64.wrap ((s.r : Int) * 10)).tmod 65536 = (((s.next h).r : Nat) : Int) := by rw [e1]; rfl
        refine ⟨[], s.next h, And.intro (And.intro (congrArg (fun b : ByteArray => SV.v (Value.string b)) (bs_append s.acc [UInt8.ofNat (48 + s.r * 10 / 65536)])) (And.intro (congrArg (fun z : Int => SV.v (Value.int IntKind.u64 z)) e3) trivial)) trivial, ?_⟩
        show s.f - 1 < s.f
        omega
      · have h : s.r = 0 := by have : ¬ (0 : Int) < (s.r : Int) := of_decide_eq_false h
                               omega
        exact fun ρ S w' hi => ⟨congrArg (fun l : List UInt8 => Ending.returned (.string (bs l))) (s.done h), hi.below⟩
end Go.Proofs.YtfjkajlkehjnnaaGreatDoor
