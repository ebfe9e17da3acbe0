/- fixed.digits; strconv.ParseUint of digits. -/
import Derived.Test.YtfjkajlkehjnnaaGreatDoorB6
import Derived.Test.YtfjkajlkehjnnaaGreatDoorB7
set_option maxRecDepth 100000
set_option linter.unusedVariables false
namespace Go.Proofs.YtfjkajlkehjnnaaGreatDoor
open Go Go.Eng Go.RowKit

def isDig (b : UInt8) : Bool := decide (48 ≤ b.toNat) && decide (b.toNat ≤ 57)
def isDigs (l : List UInt8) : Bool := !l.isEmpty && l.all isDig
abbrev tenDigs : List UInt8 := [48, 49, 50, 51, 52, 53, 54, 55, 56, 57]
theorem contains_fin : ∀ b : Fin 256, tenDigs.contains (UInt8.ofNat b.val) = isDig (UInt8.ofNat b.val) := by decide +kernel
theorem contains_dig (b : UInt8) : tenDigs.contains b = isDig b := by
  have := contains_fin ⟨b.toNat, b.toNat_lt⟩
  simpa using this
theorem dropWhile_nil {α : Type} (p : α → Bool) : ∀ l : List α, l.dropWhile p = [] ↔ l.all p = true
  | [] => by simp
  | a :: r => by
    by_cases h : p a = true
    · simp [h, dropWhile_nil p r]
    · simp [h]
theorem trim_nil (l : List UInt8) : Lib.trimS l tenDigs = [] ↔ l.all isDig = true := by
  have hf : (fun b => tenDigs.contains b) = isDig := funext contains_dig
  unfold Lib.trimS Lib.trimLeftS Lib.trimRightS
  rw [hf, dropWhile_nil, List.all_reverse]
  constructor
  · intro h
    have : ∀ l : List UInt8, (l.dropWhile isDig).all isDig = true → l.dropWhile isDig = [] := by
      intro l h
      cases hl : l.dropWhile isDig with
      | nil => rfl
      | cons a r =>
        have h1 : (a :: r).all isDig = true := hl ▸ h
        have h2 : isDig a = false := by
          have := List.head?_dropWhile_not isDig l
          rw [hl] at this
          simpa using this
        simp [h2] at h1
    have := this l.reverse h
    rw [dropWhile_nil, List.all_reverse] at this
    exact this
  · intro h
    have : l.reverse.dropWhile isDig = [] := by rw [dropWhile_nil, List.all_reverse]; exact h
    rw [this]; rfl

theorem digits_c (l : List UInt8) (hl : l.length ≤ 9223372036854775807) (w : World) : Calls Tryz.prog 27 #[.string (bs l)] w fun e w' => e = .returned (.bool (isDigs l)) ∧ Below w.heap.size w w' := by
  refine calls_exec (cf := cf) cfok (fn := Tryz.f27) Tryz.func27 rfl [.v (.string (bs l))] [] (ρ := fun _ => undef) (· < w.heap.size) rfl rfl rfl (by simp [svOkL, svOk]) (memNil fun _ h => h) ?_
  refine Or.inl ⟨.string (bs (Lib.trimS l tenDigs)), fun _ ρ S w' hm => Any.strings_Trim_laid lays160 (by kernel_rfl) (bs l) (bs tenDigs) w' (by rw [bs_size]; exact hl) (by rw [bs_size]; decide) (ascii_of_all (by decide)), ?_⟩
  refine fun ρ S w' hi => ⟨congrArg (fun b : Bool => Ending.returned (.bool b)) ?_, hi.below⟩
  show ((!((bs l).toList == (bs []).toList)) && (bs (Lib.trimS l tenDigs)).toList == (bs []).toList) = isDigs l
  rw [bs_list, bs_list, bs_list]
  have h1 : (l == []) = l.isEmpty := by cases l <;> rfl
  have h2 : (Lib.trimS l tenDigs == []) = l.all isDig := by
    rw [Bool.eq_iff_iff, ← trim_nil]; simp
  rw [h1, h2]
  rfl
end Go.Proofs.YtfjkajlkehjnnaaGreatDoor
