/-
  The program's table that a law's row lists: block, cells.
-/
import Derived.ProofKit
namespace Go.Proofs.YtimdogdplphmoabDoor
open Go
def tbl_call_fields : List Int := [0, 0, 9, 9, 1, 21, 21, 5, 67, 35, 1, 3, 3, 1, 4, 0, 4]
def TBLS : List (Nat × List Value) := [(0, [.int .i64 0, .int .i64 0, .int .i64 9, .int .i64 9, .int .i64 1, .int .i64 21, .int .i64 21, .int .i64 5, .int .i64 67, .int .i64 35, .int .i64 1, .int .i64 3, .int .i64 3, .int .i64 1, .int .i64 4, .int .i64 0, .int .i64 4])]
end Go.Proofs.YtimdogdplphmoabDoor
