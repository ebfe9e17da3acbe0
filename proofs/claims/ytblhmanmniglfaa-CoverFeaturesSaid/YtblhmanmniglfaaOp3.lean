/- CoverFeatures, as the statement's readings give its arguments. -/
import Derived.Test.YtblhmanmniglfaaOp
import Derived.Test.YtblhmanmniglfaaR22
namespace Go.Proofs.Ytblhmanmniglfaa
open Go Go.Eng Go.RowKit
theorem feats_k (b : List Int) (a L : Int) (hb : b.length ≤ maxLen ∧ ∀ x ∈ b, (Lit.int .u8 x).wf = true) (ha : (Lit.int .i64 a).wf = true) (v : Value) (w : World) (hv : Rd w v 1 bE b) :
    Calls Try.prog 6 #[v, .int .i64 a, .int .i64 L] w fun e w' => e = .returned (.bool true) ∧ Below w.heap.size w w' :=
  feats_c b a L (Byt.of fun x hx => u8_wf (hb.2 x hx)) (i64_wf ha) v w hv
end Go.Proofs.Ytblhmanmniglfaa
