
/-
  The package bits, on: Without, And.
-/
import Derived.Test.YtjichaeegheacaaBitsA
namespace Go.Proofs.Ytjichaeegheacaa
open Go Go.RowKit

end Go.Proofs.Ytjichaeegheacaa
