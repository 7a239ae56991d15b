/-
  Layer 15 (suff) as layer 16 calls it: chains, with raised bounds.
-/
import Derived.Test.YtliglejbkpjamaaSuffP
set_option linter.unusedVariables false
set_option linter.unusedSimpArgs false
namespace Go.Proofs.Ytliglejbkpjamaa
open Go.RowKit
end Go.Proofs.Ytliglejbkpjamaa
