/-
  No cell of these rows narrows 'for every input' (looked for: loops, veiled, ifaces, maps, wideKeys, modest, calm, conditions, laid).
  DERIVED. THE GIVEN ROWS OF THIS SEAT. 7 by the template 'for every input the law returns true; each argument reads behind the call as it read before'; 0 by the template 'total and deterministic' (their statements: YtjomnccladjpgaaTotals.lean).
  GIVEN WITH THE SEED: the statements are not yours to turn. If you find one false, say at which input.
  Laid BY PROGRAM, IN A SANDBOX (cutbox-rows.mjs): the forced cells as the released guide's own fill.sh prints them over the translation cb243f80fe95a46c… (all of the seat's roots in one cut). By AI agents, Wed Nov 11 2026. No macro, syntax, notation, axiom, sorry.
-/
import Derived.Test.YtjomnccladjpgaaChecked
import GoSem.Claim
import GoSem.ClaimJoined
import GoSem.ClaimMapViews
import Derived.JoinedTies
import Derived.KernelRfl
namespace Go.Proofs.Ytjomnccladjpgaa
/- THE CELL 'sum', in the pinned program and in every row, IS THE sha256 OF THE DUMP (.gsa) THAT YtjomnccladjpgaaProg.lean LOADS. Nothing in Lean hashes anything: it is a label: what it is worth is what the hold of that sum in a sandbox is worth. -/
noncomputable def Try.pinned : Pinned := { name := "ytjomnccladjpgaa", sum := "cb243f80fe95a46cb00c138226c1fae5e0157733223e5b8dbb2873d30a0d525f", checked := Try.checked }
namespace Rows
def none {H : Type} : Left H := { results := [], args := [] }

/-- 'bastillelaw18.WalTurned': WHATEVER THE INPUT: true; the input reads as it did. -/
def walTurnedSpec : ChangeSpec := { name := "walTurned", fn := fun _ => fun
  | [d1, d2, d3] => { results := [.lit (.bool true)], args := [d1, d2, d3] }
  | _ => none }
def walTurnedRow : OpenClaim := { program := "ytjomnccladjpgaa", sum := "cb243f80fe95a46cb00c138226c1fae5e0157733223e5b8dbb2873d30a0d525f", func := "bastille/bastillelaw18.WalTurned", spec := "walTurned", unfollowed := true, recurses := true, apart := false }
def WalTurnedSaid : Prop := walTurnedRow.holds Try.pinned (OpenSpec.ofChange walTurnedSpec)

/-- ITS FALSE NEIGHBOUR: 'it returns false'. Refute it at one input. -/
def walTurnedWrong : ChangeSpec := { name := "walTurned", fn := fun _ => fun
  | [d1, d2, d3] => { results := [.lit (.bool false)], args := [d1, d2, d3] }
  | _ => none }
def WalTurnedWrongFalsely : Prop := walTurnedRow.holds Try.pinned (OpenSpec.ofChange walTurnedWrong)

/-- 'bastillelaw18.WalWhole': WHATEVER THE INPUT: true; the input reads as it did. -/
def walWholeSpec : ChangeSpec := { name := "walWhole", fn := fun _ => fun
  | [d1, d2, d3] => { results := [.lit (.bool true)], args := [d1, d2, d3] }
  | _ => none }
def walWholeRow : OpenClaim := { program := "ytjomnccladjpgaa", sum := "cb243f80fe95a46cb00c138226c1fae5e0157733223e5b8dbb2873d30a0d525f", func := "bastille/bastillelaw18.WalWhole", spec := "walWhole", unfollowed := true, recurses := true, apart := false }
def WalWholeSaid : Prop := walWholeRow.holds Try.pinned (OpenSpec.ofChange walWholeSpec)

/-- ITS FALSE NEIGHBOUR: 'it returns false'. Refute it at one input. -/
def walWholeWrong : ChangeSpec := { name := "walWhole", fn := fun _ => fun
  | [d1, d2, d3] => { results := [.lit (.bool false)], args := [d1, d2, d3] }
  | _ => none }
def WalWholeWrongFalsely : Prop := walWholeRow.holds Try.pinned (OpenSpec.ofChange walWholeWrong)

/-- 'bastillelaw21.BlobWrites': WHATEVER THE INPUT: true; the input reads as it did. -/
def blobWritesSpec : ChangeSpec := { name := "blobWrites", fn := fun _ => fun
  | [d1, d2] => { results := [.lit (.bool true)], args := [d1, d2] }
  | _ => none }
def blobWritesRow : OpenClaim := { program := "ytjomnccladjpgaa", sum := "cb243f80fe95a46cb00c138226c1fae5e0157733223e5b8dbb2873d30a0d525f", func := "bastille/bastillelaw21.BlobWrites", spec := "blobWrites", unfollowed := true, recurses := true, apart := false }
def BlobWritesSaid : Prop := blobWritesRow.holds Try.pinned (OpenSpec.ofChange blobWritesSpec)

/-- ITS FALSE NEIGHBOUR: 'it returns false'. Refute it at one input. -/
def blobWritesWrong : ChangeSpec := { name := "blobWrites", fn := fun _ => fun
  | [d1, d2] => { results := [.lit (.bool false)], args := [d1, d2] }
  | _ => none }
def BlobWritesWrongFalsely : Prop := blobWritesRow.holds Try.pinned (OpenSpec.ofChange blobWritesWrong)

/-- 'bastillelaw21.BlobReads': WHATEVER THE INPUT: true; the input reads as it did. -/
def blobReadsSpec : ChangeSpec := { name := "blobReads", fn := fun _ => fun
  | [d1, d2, d3] => { results := [.lit (.bool true)], args := [d1, d2, d3] }
  | _ => none }
def blobReadsRow : OpenClaim := { program := "ytjomnccladjpgaa", sum := "cb243f80fe95a46cb00c138226c1fae5e0157733223e5b8dbb2873d30a0d525f", func := "bastille/bastillelaw21.BlobReads", spec := "blobReads", unfollowed := true, recurses := true, apart := false }
def BlobReadsSaid : Prop := blobReadsRow.holds Try.pinned (OpenSpec.ofChange blobReadsSpec)

/-- ITS FALSE NEIGHBOUR: 'it returns false'. Refute it at one input. -/
def blobReadsWrong : ChangeSpec := { name := "blobReads", fn := fun _ => fun
  | [d1, d2, d3] => { results := [.lit (.bool false)], args := [d1, d2, d3] }
  | _ => none }
def BlobReadsWrongFalsely : Prop := blobReadsRow.holds Try.pinned (OpenSpec.ofChange blobReadsWrong)

/-- 'bastillelaw21.BlobBack': WHATEVER THE INPUT: true; the input reads as it did. -/
def blobBackSpec : ChangeSpec := { name := "blobBack", fn := fun _ => fun
  | [d] => { results := [.lit (.bool true)], args := [d] }
  | _ => none }
def blobBackRow : OpenClaim := { program := "ytjomnccladjpgaa", sum := "cb243f80fe95a46cb00c138226c1fae5e0157733223e5b8dbb2873d30a0d525f", func := "bastille/bastillelaw21.BlobBack", spec := "blobBack", unfollowed := true, recurses := true, apart := false }
def BlobBackSaid : Prop := blobBackRow.holds Try.pinned (OpenSpec.ofChange blobBackSpec)

/-- ITS FALSE NEIGHBOUR: 'it returns false'. Refute it at one input. -/
def blobBackWrong : ChangeSpec := { name := "blobBack", fn := fun _ => fun
  | [d] => { results := [.lit (.bool false)], args := [d] }
  | _ => none }
def BlobBackWrongFalsely : Prop := blobBackRow.holds Try.pinned (OpenSpec.ofChange blobBackWrong)

/-- 'bastillelaw20.IndexDoes': WHATEVER THE INPUT: true; the input reads as it did. -/
def indexDoesSpec : ChangeSpec := { name := "indexDoes", fn := fun _ => fun
  | [d] => { results := [.lit (.bool true)], args := [d] }
  | _ => none }
def indexDoesRow : OpenClaim := { program := "ytjomnccladjpgaa", sum := "cb243f80fe95a46cb00c138226c1fae5e0157733223e5b8dbb2873d30a0d525f", func := "bastille/bastillelaw20.IndexDoes", spec := "indexDoes", unfollowed := true, recurses := true, apart := false }
def IndexDoesSaid : Prop := indexDoesRow.holds Try.pinned (OpenSpec.ofChange indexDoesSpec)

/-- ITS FALSE NEIGHBOUR: 'it returns false'. Refute it at one input. -/
def indexDoesWrong : ChangeSpec := { name := "indexDoes", fn := fun _ => fun
  | [d] => { results := [.lit (.bool false)], args := [d] }
  | _ => none }
def IndexDoesWrongFalsely : Prop := indexDoesRow.holds Try.pinned (OpenSpec.ofChange indexDoesWrong)

/-- 'bastillelaw20.IndexMap': WHATEVER THE INPUT: true; the input reads as it did. -/
def indexMapSpec : ChangeSpec := { name := "indexMap", fn := fun _ => fun
  | [d] => { results := [.lit (.bool true)], args := [d] }
  | _ => none }
def indexMapRow : OpenClaim := { program := "ytjomnccladjpgaa", sum := "cb243f80fe95a46cb00c138226c1fae5e0157733223e5b8dbb2873d30a0d525f", func := "bastille/bastillelaw20.IndexMap", spec := "indexMap", unfollowed := true, recurses := true, apart := false }
def IndexMapSaid : Prop := indexMapRow.holds Try.pinned (OpenSpec.ofChange indexMapSpec)

/-- ITS FALSE NEIGHBOUR: 'it returns false'. Refute it at one input. -/
def indexMapWrong : ChangeSpec := { name := "indexMap", fn := fun _ => fun
  | [d] => { results := [.lit (.bool false)], args := [d] }
  | _ => none }
def IndexMapWrongFalsely : Prop := indexMapRow.holds Try.pinned (OpenSpec.ofChange indexMapWrong)

/- THE SECOND FORM. 'bulk': how many values and letters a reading holds, each counted each time it is reached (what is shared counts as often as it is met; a slice's spare places count too). A statement '..UptoSaid' is the law's where the arguments, and the package variables that the reading takes, are together of bulk at most 1048576: NARROWER than '..Said'. Prove '..Said' where nothing that the law and all that it calls make is longer than what came in: it says more and counts as full. Else prove '..UptoSaid'. A law counts once. -/
mutual
def uptoBulk {H : Type} : DataW H → Nat
  | .lit (.string bytes) => bytes.length + 1
  | .lit _ => 1
  | .nil => 1
  | .ptr d => uptoBulk d + 1
  | .slice elems spare => uptoBulkAll elems + uptoBulkAll spare + 1
  | .agg parts => uptoBulkAll parts + 1
  | .iface _ d => uptoBulk d + 1
  | .map entries => uptoBulkEntries entries + 1
  | .held _ => 1
def uptoBulkAll {H : Type} : List (DataW H) → Nat
  | [] => 0
  | d :: r => uptoBulk d + uptoBulkAll r
def uptoBulkEntries {H : Type} : List (Lit × DataW H) → Nat
  | [] => 0
  | x :: r => uptoBulkEntry x + uptoBulkEntries r
def uptoBulkEntry {H : Type} : Lit × DataW H → Nat
  | (.string bytes, d) => bytes.length + uptoBulk d + 1
  | (_, d) => uptoBulk d + 1
 end
def uptoSmall : (H : Type) → List (DataW H) → Bool := fun _ ds => decide (uptoBulkAll ds ≤ 1048576)
def OpenSpec.upto (s : _root_.Go.ChangeSpec) : _root_.Go.OpenSpec := { _root_.Go.OpenSpec.ofChange s with cond := some uptoSmall }

/-- 'bastillelaw18.WalTurned', WHERE WHAT IT READS IS OF BULK AT MOST 1048576: true; the input reads as it did. -/
def walTurnedUptoRow : OpenClaim := { program := "ytjomnccladjpgaa", sum := "cb243f80fe95a46cb00c138226c1fae5e0157733223e5b8dbb2873d30a0d525f", func := "bastille/bastillelaw18.WalTurned", spec := "walTurned", unfollowed := true, recurses := true, apart := false, narrowed := true }
def WalTurnedUptoSaid : Prop := walTurnedUptoRow.holds Try.pinned (OpenSpec.upto walTurnedSpec)

/-- 'bastillelaw18.WalWhole', WHERE WHAT IT READS IS OF BULK AT MOST 1048576: true; the input reads as it did. -/
def walWholeUptoRow : OpenClaim := { program := "ytjomnccladjpgaa", sum := "cb243f80fe95a46cb00c138226c1fae5e0157733223e5b8dbb2873d30a0d525f", func := "bastille/bastillelaw18.WalWhole", spec := "walWhole", unfollowed := true, recurses := true, apart := false, narrowed := true }
def WalWholeUptoSaid : Prop := walWholeUptoRow.holds Try.pinned (OpenSpec.upto walWholeSpec)

/-- 'bastillelaw21.BlobWrites', WHERE WHAT IT READS IS OF BULK AT MOST 1048576: true; the input reads as it did. -/
def blobWritesUptoRow : OpenClaim := { program := "ytjomnccladjpgaa", sum := "cb243f80fe95a46cb00c138226c1fae5e0157733223e5b8dbb2873d30a0d525f", func := "bastille/bastillelaw21.BlobWrites", spec := "blobWrites", unfollowed := true, recurses := true, apart := false, narrowed := true }
def BlobWritesUptoSaid : Prop := blobWritesUptoRow.holds Try.pinned (OpenSpec.upto blobWritesSpec)

/-- 'bastillelaw21.BlobReads', WHERE WHAT IT READS IS OF BULK AT MOST 1048576: true; the input reads as it did. -/
def blobReadsUptoRow : OpenClaim := { program := "ytjomnccladjpgaa", sum := "cb243f80fe95a46cb00c138226c1fae5e0157733223e5b8dbb2873d30a0d525f", func := "bastille/bastillelaw21.BlobReads", spec := "blobReads", unfollowed := true, recurses := true, apart := false, narrowed := true }
def BlobReadsUptoSaid : Prop := blobReadsUptoRow.holds Try.pinned (OpenSpec.upto blobReadsSpec)

/-- 'bastillelaw21.BlobBack', WHERE WHAT IT READS IS OF BULK AT MOST 1048576: true; the input reads as it did. -/
def blobBackUptoRow : OpenClaim := { program := "ytjomnccladjpgaa", sum := "cb243f80fe95a46cb00c138226c1fae5e0157733223e5b8dbb2873d30a0d525f", func := "bastille/bastillelaw21.BlobBack", spec := "blobBack", unfollowed := true, recurses := true, apart := false, narrowed := true }
def BlobBackUptoSaid : Prop := blobBackUptoRow.holds Try.pinned (OpenSpec.upto blobBackSpec)

/-- 'bastillelaw20.IndexDoes', WHERE WHAT IT READS IS OF BULK AT MOST 1048576: true; the input reads as it did. -/
def indexDoesUptoRow : OpenClaim := { program := "ytjomnccladjpgaa", sum := "cb243f80fe95a46cb00c138226c1fae5e0157733223e5b8dbb2873d30a0d525f", func := "bastille/bastillelaw20.IndexDoes", spec := "indexDoes", unfollowed := true, recurses := true, apart := false, narrowed := true }
def IndexDoesUptoSaid : Prop := indexDoesUptoRow.holds Try.pinned (OpenSpec.upto indexDoesSpec)

/-- 'bastillelaw20.IndexMap', WHERE WHAT IT READS IS OF BULK AT MOST 1048576: true; the input reads as it did. -/
def indexMapUptoRow : OpenClaim := { program := "ytjomnccladjpgaa", sum := "cb243f80fe95a46cb00c138226c1fae5e0157733223e5b8dbb2873d30a0d525f", func := "bastille/bastillelaw20.IndexMap", spec := "indexMap", unfollowed := true, recurses := true, apart := false, narrowed := true }
def IndexMapUptoSaid : Prop := indexMapUptoRow.holds Try.pinned (OpenSpec.upto indexMapSpec)

end Rows
end Go.Proofs.Ytjomnccladjpgaa
