/- FixedReads as the card wants it. -/
import Derived.Test.YtfjkajlkehjnnaaGreatDoorB24
import Derived.Stop.LaidErr
import Derived.LaidByTextLater
set_option maxRecDepth 100000
set_option linter.unusedVariables false
namespace Go.Proofs.YtfjkajlkehjnnaaGreatDoor
open Go Go.Eng Go.RowKit Go.Ar

theorem errStar : "*" ++ "errors.errorString" = "*errors.errorString" := by decide
theorem errRow (u : TypeId) (h : Tryz.prog.typeName? 3 u = some "*errors.errorString") : u = 135 :=
  typeName_ptr_named (nm := "errors.errorString") (by rw [errStar]; kernel_rfl) (by kernel_rfl) (by decide) u (by rw [errStar]; exact h)
theorem laid_plainR {w : World} (h : laidMetH Tryz.prog laidL w) : laidMet Tryz.prog laidL w := by
  rw [MakeChecks.laidMetH_plain _ _ _ (by kernel_rfl)] at h
  exact h
theorem err_of {w : World} (h : laidMetH Tryz.prog laidL w) : ∃ tp p, ErrR w tp p := by
  have h2 := (laid_plainR h).tail.tail.tail.tail
  obtain ⟨a0, s0, hv0, _, _, _⟩ := laid_sentinel (g := 5) (ti := 45) (tp := 135) (te := 137) (ts := 9) h2 (by kernel_rfl) (by kernel_rfl) Tryz.underlying45 errRow Tryz.underlying135 Tryz.underlying137 rfl rfl Tryz.underlying9 (by kernel_rfl) (by kernel_rfl)
  exact ⟨_, _, hv0⟩
theorem u8_I {n : Int} (h : (Lit.int .u8 n).wf = true) : 0 ≤ n ∧ n ≤ 255 := by
  simp [Lit.wf] at h; exact ⟨h.1, h.2⟩
theorem lawReads_k (s : ByteArray) (x : Int) (hx : (Lit.int .u8 x).wf = true) (w : World) (hL : laidMetH Tryz.prog laidL w) : Calls Tryz.prog 7 #[.string s, .int .u8 x] w fun e w' => e = .returned (.bool true) ∧ Below w.heap.size w w' := by
  obtain ⟨tp, p, hE⟩ := err_of hL
  obtain ⟨h0, h1⟩ := u8_I hx
  obtain ⟨n, rfl⟩ : ∃ n : Nat, x = (n : Int) := ⟨x.toNat, by omega⟩
  have := lawReads_c s.data.toList n (by omega) w hE
  rw [bs_of] at this
  exact this
end Go.Proofs.YtfjkajlkehjnnaaGreatDoor
