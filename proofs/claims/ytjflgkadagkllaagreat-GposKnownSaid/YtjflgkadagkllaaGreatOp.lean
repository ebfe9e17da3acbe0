/- Bytes and numbers, as the statements' readings give them. -/
import Derived.Test.YtjflgkadagkllaaGreatN13
namespace Go.Proofs.YtjflgkadagkllaaGreat
open Go Go.Eng Go.RowKit
end Go.Proofs.YtjflgkadagkllaaGreat
