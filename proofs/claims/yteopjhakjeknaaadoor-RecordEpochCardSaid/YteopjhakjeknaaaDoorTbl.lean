/-
  The program's tables that a law's row lists: block, cells. None here.
-/
import Derived.ProofKit
namespace Go.Proofs.YteopjhakjeknaaaDoor
open Go
def TBLS : List (Nat × List Value) := []
end Go.Proofs.YteopjhakjeknaaaDoor
