/- strconv.FormatUint below a hundred. -/
import Derived.Test.YtfjkajlkehjnnaaGreatDoorB3
set_option maxRecDepth 100000
set_option linter.unusedVariables false
namespace Go.Proofs.YtfjkajlkehjnnaaGreatDoor
open Go Go.Eng Go.RowKit

abbrev bytes36 : ByteArray := ⟨#[48, 49, 50, 51, 52, 53, 54, 55, 56, 57, 97, 98, 99, 100, 101, 102, 103, 104, 105, 106, 107, 108, 109, 110, 111, 112, 113, 114, 115, 116, 117, 118, 119, 120, 121, 122]⟩
theorem one_fin : ∀ i : Fin 10, (bytes36.extract i.val (i.val + 1)).data.toList = [UInt8.ofNat (48 + i.val)] := by decide +kernel
abbrev bytes100 : ByteArray := ⟨#[48, 48, 48, 49, 48, 50, 48, 51, 48, 52, 48, 53, 48, 54, 48, 55, 48, 56, 48, 57, 49, 48, 49, 49, 49, 50, 49, 51, 49, 52, 49, 53, 49, 54, 49, 55, 49, 56, 49, 57, 50, 48, 50, 49, 50, 50, 50, 51, 50, 52, 50, 53, 50, 54, 50, 55, 50, 56, 50, 57, 51, 48, 51, 49, 51, 50, 51, 51, 51, 52, 51, 53, 51, 54, 51, 55, 51, 56, 51, 57, 52, 48, 52, 49, 52, 50, 52, 51, 52, 52, 52, 53, 52, 54, 52, 55, 52, 56, 52, 57, 53, 48, 53, 49, 53, 50, 53, 51, 53, 52, 53, 53, 53, 54, 53, 55, 53, 56, 53, 57, 54, 48, 54, 49, 54, 50, 54, 51, 54, 52, 54, 53, 54, 54, 54, 55, 54, 56, 54, 57, 55, 48, 55, 49, 55, 50, 55, 51, 55, 52, 55, 53, 55, 54, 55, 55, 55, 56, 55, 57, 56, 48, 56, 49, 56, 50, 56, 51, 56, 52, 56, 53, 56, 54, 56, 55, 56, 56, 56, 57, 57, 48, 57, 49, 57, 50, 57, 51, 57, 52, 57, 53, 57, 54, 57, 55, 57, 56, 57, 57]⟩
theorem two_fin : ∀ i : Fin 100, (bytes100.extract (i.val * 2) (i.val * 2 + 2)).data.toList = [UInt8.ofNat (48 + i.val / 10), UInt8.ofNat (48 + i.val % 10)] := by decide +kernel
theorem ba_ext {a b : ByteArray} (h : a.data.toList = b.data.toList) : a = b := by
  cases a; cases b
  simp only at h
  rw [Array.toList_inj.1 h]

theorem small_c (i : Nat) (h : i < 100) (w : World) : Calls Tryz.prog 62 #[.int .i64 i] w fun e w' => e = .returned (.string ⟨(Lib.decDigits i).toArray⟩) ∧ Below w.heap.size w w' := by
  refine calls_exec (cf := cf) cfok (fn := Tryz.f62) Tryz.func62 rfl [.v (.int .i64 i)] [] (ρ := fun _ => undef) (· < w.heap.size) rfl rfl rfl (by simp [svOkL, svOk]) (memNil fun _ h => h) ?_
  refine And.intro (fun h1 => ?_) (fun h1 => ?_)
  · have h1 : i < 10 := by have : (i : Int) < 10 := of_decide_eq_true h1
                           omega
    have e : IntKind.i64.wrap ((i : Int) + 1) = ((i + 1 : Nat) : Int) := by rw [IntWalk.i64_in _ ⟨by omega, by omega⟩]; omega
    refine And.intro ⟨by omega, by rw [e]; omega, by rw [e]; show ((i + 1 : Nat) : Int) ≤ 36; omega⟩ ?_
    refine fun ρ S w' hi => ⟨congrArg (fun b : ByteArray => Ending.returned (.string b)) (ba_ext ?_), hi.below⟩
    rw [e, Lib.decDigits_one h1]
    exact one_fin ⟨i, h1⟩
  · have h1 : ¬ i < 10 := by have : ¬ (i : Int) < 10 := of_decide_eq_false h1
                             omega
    have e1 : IntKind.i64.wrap ((i : Int) * 2) = ((i * 2 : Nat) : Int) := by rw [IntWalk.i64_in _ ⟨by omega, by omega⟩]; omega
    have e2 : IntKind.i64.wrap (IntKind.i64.wrap ((i : Int) * 2) + 2) = ((i * 2 + 2 : Nat) : Int) := by rw [e1, IntWalk.i64_in _ ⟨by omega, by omega⟩]; omega
    refine And.intro ⟨by rw [e1]; omega, by rw [e2, e1]; omega, by rw [e2]; show ((i * 2 + 2 : Nat) : Int) ≤ 200; omega⟩ ?_
    refine fun ρ S w' hi => ⟨congrArg (fun b : ByteArray => Ending.returned (.string b)) (ba_ext ?_), hi.below⟩
    rw [e2, e1, Lib.decDigits_two h1 h]
    exact two_fin ⟨i, h⟩

theorem format_small (n : Nat) (h : n < 100) (w : World) : Calls Tryz.prog 21 #[.int .u64 n, .int .i64 10] w fun e w' => e = .returned (.string ⟨(Lib.decDigits n).toArray⟩) ∧ Below w.heap.size w w' := by
  refine calls_exec (cf := cf) cfok (fn := Tryz.f21) Tryz.func21 rfl [.v (.int .u64 n), .v (.int .i64 10)] [] (ρ := fun _ => undef) (· < w.heap.size) rfl rfl rfl (by simp [svOkL, svOk]) (memNil fun _ h => h) ?_
  refine Or.inl ⟨.string ⟨(Lib.decDigits n).toArray⟩, fun ρ S w' hm => ?_, ?_⟩
  · refine calls_exec (cf := cf) cfok (fn := Tryz.f44) Tryz.func44 rfl [.v (.int .u64 n), .v (.int .i64 10)] [] (ρ := fun _ => undef) (· < w'.heap.size) rfl rfl rfl (by simp [svOkL, svOk]) (memNil fun _ h => h) ?_
    refine And.intro (fun _ => ?_) (fun h1 => by cases h1)
    refine And.intro (fun _ => ?_) (fun h1 => ?_)
    · refine Or.inl ⟨.string ⟨(Lib.decDigits n).toArray⟩, fun ρ S w'' hm => ?_, ?_⟩
      · show Calls _ 62 #[.int .i64 (IntKind.i64.wrap (n : Int))] _ _
        rw [IntWalk.i64_in _ ⟨by omega, by omega⟩]
        exact small_c n h w''
      · exact fun ρ S w' hi => ⟨rfl, hi.below⟩
    · have : ¬ (n : Int) < 100 := of_decide_eq_false h1
      omega
  · exact fun ρ S w' hi => ⟨rfl, hi.below⟩
end Go.Proofs.YtfjkajlkehjnnaaGreatDoor
