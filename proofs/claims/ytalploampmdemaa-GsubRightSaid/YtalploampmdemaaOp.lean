/- Bytes and numbers, as the statements' readings give them. -/
import Derived.Test.YtalploampmdemaaM19
namespace Go.Proofs.Ytalploampmdemaa
open Go Go.Eng Go.RowKit

theorem opBytes : Opens Try.prog 22 1 (fun xs : List Int => [.sl Int inferInstance 1 bE xs]) (fun xs => xs.length ≤ maxLen ∧ ∀ x ∈ xs, (Lit.int .u8 x).wf = true) :=
  opens_slice Try.underlying22 (by kernel_rfl) (by decide) (opens_int Try.underlying5)
theorem u8_wf {n : Int} (h : (Lit.int .u8 n).wf = true) : 0 ≤ n ∧ n ≤ 255 := by
  simp [Lit.wf] at h; exact h
theorem u16_wf {n : Int} (h : (Lit.int .u16 n).wf = true) : 0 ≤ n ∧ n ≤ 65535 := by
  simp [Lit.wf] at h; exact h
theorem i64_wf {n : Int} (h : (Lit.int .i64 n).wf = true) : IntKind.i64.wrap n = n := by
  simp [Lit.wf] at h; exact i64_id n h.1 h.2
theorem gright_k (b : List Int) (g : Int) (hb : b.length ≤ maxLen ∧ ∀ x ∈ b, (Lit.int .u8 x).wf = true) (v : Value) (w : World) (hv : Rd w v 1 bE b) :
    Calls Try.prog 3 #[v, .int .i64 g] w fun e w' => e = .returned (.bool true) ∧ Below w.heap.size w w' :=
  gright_c b g (Byt.of fun x hx => u8_wf (hb.2 x hx)) v w hv
end Go.Proofs.Ytalploampmdemaa
