/- calamuslaw01.FixedPrints. -/
import Derived.Test.YtfjkajlkehjnnaaGreatDoorB10
import Derived.Test.YtfjkajlkehjnnaaGreatDoorB14
import Derived.Test.YtfjkajlkehjnnaaGreatDoorB16
import Derived.Test.YtfjkajlkehjnnaaGreatDoorB17
import Derived.Test.YtfjkajlkehjnnaaGreatDoorLaid
import Derived.Stop.LaidErr
import Derived.LaidByTextLater
import Derived.Lib.LaidTab
set_option maxRecDepth 100000
set_option linter.unusedVariables false
namespace Go.Proofs.YtfjkajlkehjnnaaGreatDoor
open Go Go.Eng Go.RowKit Go.Ar

theorem lawPrints_c (n : Int) (hn : I64 n) (w : World) (htab : Lib.TabIs Tryz.prog w "internal/strconv.uint64pow10" .u64 Lib.pow10Tab) : Calls Tryz.prog 12 #[.int .i64 n] w fun e w' => e = .returned (.bool true) ∧ Below w.heap.size w w' := by
  obtain ⟨r1, r2, r3⟩ := read_print n hn.lo hn.hi
  refine calls_exec (cf := cf) cfok (fn := Tryz.f12) Tryz.func12 rfl [.v (.int .i64 n)] [powG] (ρ := fun _ => undef) (· < w.heap.size) rfl rfl rfl (by simp [svOkL, svOk]) (memPow htab) ?_
  refine Or.inl ⟨.string (bs (printB n)), fun ρ S w' hm => print_g n w' (powOf hm) hn.lo hn.hi, ?_⟩
  refine Or.inl ⟨.tuple #[.int .i64 n, .int .i64 0], fun ρ S w' hm => ?_, ?_⟩
  · have := read_c (printB n) (by omega) (by omega) w'
    rw [r1] at this
    exact this
  refine Or.inl ⟨.string (bs (printB n)), fun ρ S w' hm => refPrint_c n w' hn.lo hn.hi, ?_⟩
  refine Or.inl ⟨.bool true, fun _ ρ S w' hm => works_c w', ?_⟩
  refine fun ρ S w' hi => ⟨congrArg (fun b : Bool => Ending.returned (.bool b)) ?_, hi.below⟩
  show ((((bs (printB n)).toList == (bs (printB n)).toList && decide (n = n)) && decide ((0 : Int) = 0)) && true) = true
  simp
theorem laid_plain {w : World} (h : laidMetH Tryz.prog laidL w) : laidMet Tryz.prog laidL w := by
  rw [MakeChecks.laidMetH_plain _ _ _ (by kernel_rfl)] at h
  exact h
theorem pow_data : (Rows.laid_internal_strconv_uint64pow10 : DataW Unit) = Lib.tabData .u64 Lib.pow10Tab := by kernel_rfl
theorem tab_of {w : World} (h : laidMetH Tryz.prog laidL w) : Lib.TabIs Tryz.prog w "internal/strconv.uint64pow10" .u64 Lib.pow10Tab := by
  have h2 := (laid_plain h).tail.tail
  rw [pow_data] at h2
  exact Lib.tabIs_of_head (g := 2) (t := 118) (e := 38) (n := 20) (by kernel_rfl) (by kernel_rfl) Tryz.underlying118 Tryz.underlying38 (by kernel_rfl) (by kernel_rfl) h2
end Go.Proofs.YtfjkajlkehjnnaaGreatDoor
