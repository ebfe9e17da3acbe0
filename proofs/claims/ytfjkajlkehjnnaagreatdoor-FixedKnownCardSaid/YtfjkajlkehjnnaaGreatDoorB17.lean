/- fixed.Print of any number, over the table of the powers of ten. -/
import Derived.Test.YtfjkajlkehjnnaaGreatDoorB3
import Derived.Test.YtfjkajlkehjnnaaGreatDoorB13
set_option maxRecDepth 100000
set_option linter.unusedVariables false
namespace Go.Proofs.YtfjkajlkehjnnaaGreatDoor
open Go Go.Eng Go.RowKit

/-- the table of the powers of ten, as memory that is only read -/
abbrev powG : Chunk := .glb 2 (Lib.pow10Tab.map fun z => .v (.int .u64 z))
theorem memPow {w : World} {n : Nat} {env : List Ent} {ρ : Nat → Value} {ids : List Nat} (htab : Lib.TabIs Tryz.prog w "internal/strconv.uint64pow10" .u64 Lib.pow10Tab) : MemOk ⟨n, env, [powG], [], ids⟩ ρ (· < w.heap.size) w := by
  have hrow : ∃ e fz, w.heap[2]? = some (.cells (Lib.pow10Tab.map fun z => Value.int .u64 z).toArray e fz) := by
    unfold Lib.TabIs World.var? at htab
    rw [show Tryz.prog.globalNamed "internal/strconv.uint64pow10" = some 2 by kernel_rfl] at htab
    simp only [Option.bind_some] at htab
    split at htab
    · rename_i cs e fz hh
      simp only [Option.some.injEq] at htab
      subst htab
      exact ⟨e, fz, hh⟩
    · cases htab
  obtain ⟨e, fz, hrow⟩ := hrow
  refine ⟨fun id hid => ?_, fun id => ?_, fun i j b hi hj hij e1 e2 => ?_, fun i b hi e1 => ?_, fun b hb => hb, fun id => ?_⟩
  · have : id = 0 := by have : id < 1 := hid
                        omega
    subst this
    refine ⟨(Array.getElem?_eq_some_iff.1 hrow).1, _, e, fz, hrow, by simp, fun j d hd => ?_⟩
    rw [List.getElem?_map] at hd
    cases hx : Lib.pow10Tab[j]? with
    | none => simp [hx] at hd
    | some z =>
      simp only [hx, Option.map_some, Option.some.injEq] at hd
      subst hd
      exact ⟨.int .u64 z, by simp [hx], .v _ rfl⟩
  · match id with
    | 0 => exact trivial
    | k + 1 => rw [chGet_out _ _ (by simp)]; exact trivial
  · have h1 : i < 1 := hi
    have h2 : j < 1 := hj
    omega
  · have : i = 0 := by have : i < 1 := hi
                       omega
    subst this
    simp [chGet, ownBlk] at e1
  · match id with
    | 0 => intro q hq; simp [chGet, condsOf] at hq
    | k + 1 => rw [chGet_out _ _ (by simp)]; intro q hq; simp [condsOf] at hq
theorem powOf {st : St} {ρ : Nat → Value} {S : Nat → Prop} {w : World} (hm : MemOk st ρ S w) (h : findG st.ch 2 = some (Lib.pow10Tab.map fun z => .v (.int .u64 z)) := by rfl) : Lib.TabIs Tryz.prog w "internal/strconv.uint64pow10" .u64 Lib.pow10Tab := by
  obtain ⟨_, cs, e, fz, h1, h2, h3⟩ := hm.glbRow h
  unfold Lib.TabIs World.var?
  rw [show Tryz.prog.globalNamed "internal/strconv.uint64pow10" = some 2 by kernel_rfl]
  simp only [Option.bind_some, h1, Option.some.injEq]
  apply Array.ext
  · simpa using h2
  · intro j g1 g2
    have g3 : j < Lib.pow10Tab.length := by simpa using g2
    obtain ⟨x, h4, h5⟩ := h3 j (.v (.int .u64 Lib.pow10Tab[j])) (by simp [g3])
    cases h5
    rw [Array.getElem?_eq_getElem g1] at h4
    simpa using h4
theorem format_g (n : Nat) (h : n < 18446744073709551616) (w : World) (htab : Lib.TabIs Tryz.prog w "internal/strconv.uint64pow10" .u64 Lib.pow10Tab) : Calls Tryz.prog 21 #[.int .u64 n, .int .i64 10] w fun e w' => e = .returned (.string ⟨(Lib.decDigits n).toArray⟩) ∧ Below w.heap.size w w' := by
  by_cases hs : n < 100
  · exact format_small n hs w
  · refine calls_exec (cf := cf) cfok (fn := Tryz.f21) Tryz.func21 rfl [.v (.int .u64 n), .v (.int .i64 10)] [powG] (ρ := fun _ => undef) (· < w.heap.size) rfl rfl rfl (by simp [svOkL, svOk]) (memPow htab) ?_
    refine Or.inl ⟨.string ⟨(Lib.decDigits n).toArray⟩, fun ρ S w' hm => ?_, fun ρ S w' hi => ⟨rfl, hi.below⟩⟩
    refine (format_walk n (by omega) h w' (powOf hm)).mono fun e w'' hh => ?_
    obtain ⟨h1, k, os, h2⟩ := hh
    refine ⟨h1, ?_⟩
    subst h2
    exact Lib.below_grow _ _ (Nat.le_refl _) _ _

theorem print_g (sp : Int) (w : World) (htab : Lib.TabIs Tryz.prog w "internal/strconv.uint64pow10" .u64 Lib.pow10Tab) (h1 : -9223372036854775808 ≤ sp) (h2 : sp ≤ 9223372036854775807) :
    Calls Tryz.prog 6 #[.int .i64 sp] w fun e w' => e = .returned (.string ⟨(printB sp).toArray⟩) ∧ Below w.heap.size w w' := by
  have hnat : sp.natAbs ≤ 9223372036854775808 := by omega
  have hdl : (Lib.decDigits (sp.natAbs / 65536)).length ≤ 20 := by
    rw [Lib.decDigits_length]
    rcases Nat.eq_zero_or_pos (sp.natAbs / 65536) with h | h
    · rw [h, Lib.nDigits_small (by omega)]; omega
    · have := Lib.numDigits_eq (sp.natAbs / 65536) h (by omega)
      split at this <;> omega
  have hbs : (⟨(Lib.decDigits (sp.natAbs / 65536)).toArray⟩ : ByteArray).size = (Lib.decDigits (sp.natAbs / 65536)).length := List.size_toArray
  obtain ⟨tot, htot⟩ : ∃ tot, tot = printB sp := ⟨_, rfl⟩
  have hlen : tot.length ≤ 100 := by
    rw [htot]
    have := fracL_len 16 (sp.natAbs % 65536)
    unfold printB
    split <;> split <;> simp only [List.length_append, List.length_singleton, List.length_nil] <;> omega
  have hne : tot ≠ [] := by
    rw [htot]
    intro e
    have := congrArg List.length e
    have h3 := Lib.nDigits_pos (sp.natAbs / 65536)
    rw [← Lib.decDigits_length] at h3
    unfold printB at this
    simp only [List.length_append, List.length_nil] at this
    omega
  rw [← htot]
  refine calls_exec (cf := cf) cfok (fn := Tryz.f6) Tryz.func6 rfl [.v (.int .i64 sp)] [powG] (ρ := fun _ => undef) (· < w.heap.size) rfl rfl rfl (by simp [svOkL, svOk]) (memPow htab) ?_
  refine And.intro (fun hneg => ?_) (fun hpos => ?_)
  · have hneg : sp < 0 := of_decide_eq_true hneg
    refine Or.inr (lcall_sub [1] (writeByte_f 45) rfl rfl rfl rfl rfl (And.intro (And.intro rfl rfl) trivial) ?_)
    refine Or.inl ⟨_, fun ρ S w' hm => size_c sp w' h1 h2, ?_⟩
    refine And.intro (show (65536 : Int) ≠ 0 by decide) ?_
    refine Or.inl ⟨.string ⟨(Lib.decDigits (sp.natAbs / 65536)).toArray⟩, fun ρ S w' hm => ?_, ?_⟩
    · show Calls _ 21 #[.int .u64 (IntKind.u64.wrap ((sp.natAbs : Int).tdiv 65536)), .int .i64 10] _ _
      rw [quot_nat, IntWalk.u64_in _ (by omega)]
      exact format_g _ (by omega) w' (powOf hm)
    refine Or.inr (lcall_sub [1, 2] (writeString_u [45] ⟨(Lib.decDigits (sp.natAbs / 65536)).toArray⟩ (by rw [hbs]; simp only [List.length_singleton]; omega)) rfl rfl rfl rfl rfl (And.intro (And.intro rfl rfl) (And.intro rfl trivial)) ?_)
    refine And.intro (show (65536 : Int) ≠ 0 by decide) ?_
    refine And.intro (fun hr => ?_) (fun hr => ?_)
    · have hr : 0 < sp.natAbs % 65536 := by have : (0 : Int) < ((sp.natAbs : Int).tmod 65536) := of_decide_eq_true hr
                                            rw [rem_nat] at this
                                            omega
      refine Or.inr (lcall_sub [1, 3] (writeByte_u ([45] ++ Lib.decDigits (sp.natAbs / 65536)) 46 (by rw [List.length_append, List.length_singleton]; omega)) rfl rfl rfl rfl rfl (And.intro (And.intro rfl rfl) (And.intro rfl trivial)) ?_)
      have he : ([45] ++ Lib.decDigits (sp.natAbs / 65536) ++ [46]) ++ fracL 16 (sp.natAbs % 65536) = tot := by
        rw [htot]
        unfold printB
        rw [if_pos hneg, if_pos hr]
        simp only [List.append_assoc, List.nil_append]
      refine ⟨Fr tot, fun s => ⟨31, [⟨3, [], .bx 1 0⟩, ⟨4, [], .v (.int .u64 s.r)⟩], [powG, .bx 43 [.bx 1 0, .sl 2], bys s.acc], [], dropL nats 3⟩, fun s => s.f, ⟨[0, 1, 4], ⟨[45] ++ Lib.decDigits (sp.natAbs / 65536) ++ [46], sp.natAbs % 65536, 16, Nat.mod_lt _ (by decide), he, pow16 _⟩, ?_⟩, fun s => ?_⟩
      · exact And.intro (And.intro rfl (And.intro rfl trivial)) (And.intro rfl (And.intro (And.intro rfl rfl) (And.intro rfl trivial)))
      have hlt := s.lt
      have hal : s.acc.length ≤ 200 := by
        have h1 := congrArg List.length s.e
        rw [List.length_append] at h1
        omega
      refine And.intro (fun h => ?_) (fun h => ?_)
      · have h : 0 < s.r := by have : (0 : Int) < (s.r : Int) := of_decide_eq_true h
                               omega
        obtain ⟨f, hf⟩ := s.pos h
        have e1 : IntKind.u64.wrap ((s.r : Int) * 10) = ((s.r * 10 : Nat) : Int) := by rw [IntWalk.u64_in _ (by omega)]; omega
        refine And.intro (show (65536 : Int) ≠ 0 by decide) ?_
        have e2 : IntKind.u8.wrap (48 + IntKind.u8.wrap (IntKind.u64.wrap ((IntKind.u64.wrap ((s.r : Int) * 10)).tdiv 65536))) = ((UInt8.ofNat (48 + s.r * 10 / 65536)).toNat : Int) := by
          rw [e1, quot_nat, IntWalk.u64_in _ (by omega)]
          exact dig_u8 (by omega)
        refine Or.inr (lcall_sub [1, 2] (writeByte_u s.acc (UInt8.ofNat (48 + s.r * 10 / 65536)) (by omega)) (congrArg (fun z : Int => [SV.bx 1 0, SV.v (Value.int IntKind.u8 z)]) e2) rfl rfl rfl rfl (And.intro (And.intro rfl rfl) (And.intro rfl trivial)) ?_)
        refine And.intro (show (65536 : Int) ≠ 0 by decide) ?_
        have e3 : (IntKind.u64.wrap ((s.r : Int) * 10)).tmod 65536 = (((s.next h).r : Nat) : Int) := by rw [e1]; rfl
        refine ⟨[0, 1, 3], s.next h, And.intro (And.intro rfl (And.intro (congrArg (fun z : Int => SV.v (Value.int IntKind.u64 z)) e3) trivial)) (And.intro rfl (And.intro (And.intro rfl rfl) (And.intro rfl trivial))), ?_⟩
        show s.f - 1 < s.f
        omega
      · have h : s.r = 0 := by have : ¬ (0 : Int) < (s.r : Int) := of_decide_eq_false h
                               omega
        have hd := s.done h
        refine Or.inr (lcall_sub [1, 2] (string_c s.acc (by rw [hd]; exact hne) (.bx 0 0)) rfl rfl rfl rfl rfl (And.intro (And.intro rfl rfl) (And.intro rfl trivial)) ?_)
        exact fun ρ S w' hi => ⟨congrArg (fun l : List UInt8 => Ending.returned (Value.string ⟨l.toArray⟩)) hd, hi.below⟩
    · have hr : ¬ 0 < sp.natAbs % 65536 := by have : ¬ (0 : Int) < ((sp.natAbs : Int).tmod 65536) := of_decide_eq_false hr
                                              rw [rem_nat] at this
                                              omega
      have he : ([45] ++ Lib.decDigits (sp.natAbs / 65536)) ++ fracL 16 (sp.natAbs % 65536) = tot := by
        rw [htot]
        unfold printB
        rw [if_pos hneg, if_neg hr]
        simp only [List.append_assoc, List.nil_append]
      refine ⟨Fr tot, fun s => ⟨31, [⟨3, [], .bx 1 0⟩, ⟨4, [], .v (.int .u64 s.r)⟩], [powG, .bx 43 [.bx 1 0, .sl 2], bys s.acc], [], dropL nats 3⟩, fun s => s.f, ⟨[0, 1, 3], ⟨[45] ++ Lib.decDigits (sp.natAbs / 65536), sp.natAbs % 65536, 16, Nat.mod_lt _ (by decide), he, pow16 _⟩, ?_⟩, fun s => ?_⟩
      · exact And.intro (And.intro rfl (And.intro rfl trivial)) (And.intro rfl (And.intro (And.intro rfl rfl) (And.intro rfl trivial)))
      have hlt := s.lt
      have hal : s.acc.length ≤ 200 := by
        have h1 := congrArg List.length s.e
        rw [List.length_append] at h1
        omega
      refine And.intro (fun h => ?_) (fun h => ?_)
      · have h : 0 < s.r := by have : (0 : Int) < (s.r : Int) := of_decide_eq_true h
                               omega
        obtain ⟨f, hf⟩ := s.pos h
        have e1 : IntKind.u64.wrap ((s.r : Int) * 10) = ((s.r * 10 : Nat) : Int) := by rw [IntWalk.u64_in _ (by omega)]; omega
        refine And.intro (show (65536 : Int) ≠ 0 by decide) ?_
        have e2 : IntKind.u8.wrap (48 + IntKind.u8.wrap (IntKind.u64.wrap ((IntKind.u64.wrap ((s.r : Int) * 10)).tdiv 65536))) = ((UInt8.ofNat (48 + s.r * 10 / 65536)).toNat : Int) := by
          rw [e1, quot_nat, IntWalk.u64_in _ (by omega)]
          exact dig_u8 (by omega)
        refine Or.inr (lcall_sub [1, 2] (writeByte_u s.acc (UInt8.ofNat (48 + s.r * 10 / 65536)) (by omega)) (congrArg (fun z : Int => [SV.bx 1 0, SV.v (Value.int IntKind.u8 z)]) e2) rfl rfl rfl rfl (And.intro (And.intro rfl rfl) (And.intro rfl trivial)) ?_)
        refine And.intro (show (65536 : Int) ≠ 0 by decide) ?_
        have e3 : (IntKind.u64.wrap ((s.r : Int) * 10)).tmod 65536 = (((s.next h).r : Nat) : Int) := by rw [e1]; rfl
        refine ⟨[0, 1, 3], s.next h, And.intro (And.intro rfl (And.intro (congrArg (fun z : Int => SV.v (Value.int IntKind.u64 z)) e3) trivial)) (And.intro rfl (And.intro (And.intro rfl rfl) (And.intro rfl trivial))), ?_⟩
        show s.f - 1 < s.f
        omega
      · have h : s.r = 0 := by have : ¬ (0 : Int) < (s.r : Int) := of_decide_eq_false h
                               omega
        have hd := s.done h
        refine Or.inr (lcall_sub [1, 2] (string_c s.acc (by rw [hd]; exact hne) (.bx 0 0)) rfl rfl rfl rfl rfl (And.intro (And.intro rfl rfl) (And.intro rfl trivial)) ?_)
        exact fun ρ S w' hi => ⟨congrArg (fun l : List UInt8 => Ending.returned (Value.string ⟨l.toArray⟩)) hd, hi.below⟩
  · have hneg : ¬ sp < 0 := of_decide_eq_false hpos
    refine Or.inl ⟨_, fun ρ S w' hm => size_c sp w' h1 h2, ?_⟩
    refine And.intro (show (65536 : Int) ≠ 0 by decide) ?_
    refine Or.inl ⟨.string ⟨(Lib.decDigits (sp.natAbs / 65536)).toArray⟩, fun ρ S w' hm => ?_, ?_⟩
    · show Calls _ 21 #[.int .u64 (IntKind.u64.wrap ((sp.natAbs : Int).tdiv 65536)), .int .i64 10] _ _
      rw [quot_nat, IntWalk.u64_in _ (by omega)]
      exact format_g _ (by omega) w' (powOf hm)
    refine Or.inr (lcall_sub [1] (writeString_f ⟨(Lib.decDigits (sp.natAbs / 65536)).toArray⟩ (by rw [hbs]; omega)) rfl rfl rfl rfl rfl (And.intro (And.intro rfl rfl) trivial) ?_)
    refine And.intro (show (65536 : Int) ≠ 0 by decide) ?_
    refine And.intro (fun hr => ?_) (fun hr => ?_)
    · have hr : 0 < sp.natAbs % 65536 := by have : (0 : Int) < ((sp.natAbs : Int).tmod 65536) := of_decide_eq_true hr
                                            rw [rem_nat] at this
                                            omega
      refine Or.inr (lcall_sub [1, 2] (writeByte_u (Lib.decDigits (sp.natAbs / 65536)) 46 (by rw [show (Lib.decDigits (sp.natAbs / 65536)).length = (Lib.decDigits (sp.natAbs / 65536)).length from rfl]; omega)) rfl rfl rfl rfl rfl (And.intro (And.intro rfl rfl) (And.intro rfl trivial)) ?_)
      have he : (Lib.decDigits (sp.natAbs / 65536) ++ [46]) ++ fracL 16 (sp.natAbs % 65536) = tot := by
        rw [htot]
        unfold printB
        rw [if_neg hneg, if_pos hr]
        simp only [List.append_assoc, List.nil_append]
      refine ⟨Fr tot, fun s => ⟨31, [⟨3, [], .bx 1 0⟩, ⟨4, [], .v (.int .u64 s.r)⟩], [powG, .bx 43 [.bx 1 0, .sl 2], bys s.acc], [], dropL nats 3⟩, fun s => s.f, ⟨[0, 1, 3], ⟨Lib.decDigits (sp.natAbs / 65536) ++ [46], sp.natAbs % 65536, 16, Nat.mod_lt _ (by decide), he, pow16 _⟩, ?_⟩, fun s => ?_⟩
      · exact And.intro (And.intro rfl (And.intro rfl trivial)) (And.intro rfl (And.intro (And.intro rfl rfl) (And.intro rfl trivial)))
      have hlt := s.lt
      have hal : s.acc.length ≤ 200 := by
        have h1 := congrArg List.length s.e
        rw [List.length_append] at h1
        omega
      refine And.intro (fun h => ?_) (fun h => ?_)
      · have h : 0 < s.r := by have : (0 : Int) < (s.r : Int) := of_decide_eq_true h
                               omega
        obtain ⟨f, hf⟩ := s.pos h
        have e1 : IntKind.u64.wrap ((s.r : Int) * 10) = ((s.r * 10 : Nat) : Int) := by rw [IntWalk.u64_in _ (by omega)]; omega
        refine And.intro (show (65536 : Int) ≠ 0 by decide) ?_
        have e2 : IntKind.u8.wrap (48 + IntKind.u8.wrap (IntKind.u64.wrap ((IntKind.u64.wrap ((s.r : Int) * 10)).tdiv 65536))) = ((UInt8.ofNat (48 + s.r * 10 / 65536)).toNat : Int) := by
          rw [e1, quot_nat, IntWalk.u64_in _ (by omega)]
          exact dig_u8 (by omega)
        refine Or.inr (lcall_sub [1, 2] (writeByte_u s.acc (UInt8.ofNat (48 + s.r * 10 / 65536)) (by omega)) (congrArg (fun z : Int => [SV.bx 1 0, SV.v (Value.int IntKind.u8 z)]) e2) rfl rfl rfl rfl (And.intro (And.intro rfl rfl) (And.intro rfl trivial)) ?_)
        refine And.intro (show (65536 : Int) ≠ 0 by decide) ?_
        have e3 : (IntKind.u64.wrap ((s.r : Int) * 10)).tmod 65536 = (((s.next h).r : Nat) : Int) := by rw [e1]; rfl
        refine ⟨[0, 1, 3], s.next h, And.intro (And.intro rfl (And.intro (congrArg (fun z : Int => SV.v (Value.int IntKind.u64 z)) e3) trivial)) (And.intro rfl (And.intro (And.intro rfl rfl) (And.intro rfl trivial))), ?_⟩
        show s.f - 1 < s.f
        omega
      · have h : s.r = 0 := by have : ¬ (0 : Int) < (s.r : Int) := of_decide_eq_false h
                               omega
        have hd := s.done h
        refine Or.inr (lcall_sub [1, 2] (string_c s.acc (by rw [hd]; exact hne) (.bx 0 0)) rfl rfl rfl rfl rfl (And.intro (And.intro rfl rfl) (And.intro rfl trivial)) ?_)
        exact fun ρ S w' hi => ⟨congrArg (fun l : List UInt8 => Ending.returned (Value.string ⟨l.toArray⟩)) hd, hi.below⟩
    · have hr : ¬ 0 < sp.natAbs % 65536 := by have : ¬ (0 : Int) < ((sp.natAbs : Int).tmod 65536) := of_decide_eq_false hr
                                              rw [rem_nat] at this
                                              omega
      have he : (Lib.decDigits (sp.natAbs / 65536)) ++ fracL 16 (sp.natAbs % 65536) = tot := by
        rw [htot]
        unfold printB
        rw [if_neg hneg, if_neg hr]
        simp only [List.append_assoc, List.nil_append]
      refine ⟨Fr tot, fun s => ⟨31, [⟨3, [], .bx 1 0⟩, ⟨4, [], .v (.int .u64 s.r)⟩], [powG, .bx 43 [.bx 1 0, .sl 2], bys s.acc], [], dropL nats 3⟩, fun s => s.f, ⟨[0, 1, 2], ⟨Lib.decDigits (sp.natAbs / 65536), sp.natAbs % 65536, 16, Nat.mod_lt _ (by decide), he, pow16 _⟩, ?_⟩, fun s => ?_⟩
      · exact And.intro (And.intro rfl (And.intro rfl trivial)) (And.intro rfl (And.intro (And.intro rfl rfl) (And.intro rfl trivial)))
      have hlt := s.lt
      have hal : s.acc.length ≤ 200 := by
        have h1 := congrArg List.length s.e
        rw [List.length_append] at h1
        omega
      refine And.intro (fun h => ?_) (fun h => ?_)
      · have h : 0 < s.r := by have : (0 : Int) < (s.r : Int) := of_decide_eq_true h
                               omega
        obtain ⟨f, hf⟩ := s.pos h
        have e1 : IntKind.u64.wrap ((s.r : Int) * 10) = ((s.r * 10 : Nat) : Int) := by rw [IntWalk.u64_in _ (by omega)]; omega
        refine And.intro (show (65536 : Int) ≠ 0 by decide) ?_
        have e2 : IntKind.u8.wrap (48 + IntKind.u8.wrap (IntKind.u64.wrap ((IntKind.u64.wrap ((s.r : Int) * 10)).tdiv 65536))) = ((UInt8.ofNat (48 + s.r * 10 / 65536)).toNat : Int) := by
          rw [e1, quot_nat, IntWalk.u64_in _ (by omega)]
          exact dig_u8 (by omega)
        refine Or.inr (lcall_sub [1, 2] (writeByte_u s.acc (UInt8.ofNat (48 + s.r * 10 / 65536)) (by omega)) (congrArg (fun z : Int => [SV.bx 1 0, SV.v (Value.int IntKind.u8 z)]) e2) rfl rfl rfl rfl (And.intro (And.intro rfl rfl) (And.intro rfl trivial)) ?_)
        refine And.intro (show (65536 : Int) ≠ 0 by decide) ?_
        have e3 : (IntKind.u64.wrap ((s.r : Int) * 10)).tmod 65536 = (((s.next h).r : Nat) : Int) := by rw [e1]; rfl
        refine ⟨[0, 1, 3], s.next h, And.intro (And.intro rfl (And.intro (congrArg (fun z : Int => SV.v (Value.int IntKind.u64 z)) e3) trivial)) (And.intro rfl (And.intro (And.intro rfl rfl) (And.intro rfl trivial))), ?_⟩
        show s.f - 1 < s.f
        omega
      · have h : s.r = 0 := by have : ¬ (0 : Int) < (s.r : Int) := of_decide_eq_false h
                               omega
        have hd := s.done h
        refine Or.inr (lcall_sub [1, 2] (string_c s.acc (by rw [hd]; exact hne) (.bx 0 0)) rfl rfl rfl rfl rfl (And.intro (And.intro rfl rfl) (And.intro rfl trivial)) ?_)
        exact fun ρ S w' hi => ⟨congrArg (fun l : List UInt8 => Ending.returned (Value.string ⟨l.toArray⟩)) hd, hi.below⟩
end Go.Proofs.YtfjkajlkehjnnaaGreatDoor
