/-
  No cell of these rows narrows 'for every input' (looked for: loops, veiled, ifaces, maps, wideKeys, modest, calm, conditions, laid).
  DERIVED. THE GIVEN ROWS OF THIS SEAT. 2 by the template 'for every input the law returns true; each argument reads behind the call as it read before'; 0 by the template 'total and deterministic' (their statements: YteopjhakjeknaaaTotals.lean).
  GIVEN WITH THE SEED: the statements are not yours to turn. If you find one false, say at which input.
  Laid BY PROGRAM, IN A SANDBOX (cutbox-rows.mjs): the forced cells as the released guide's own fill.sh prints them over the translation 3cd5d13d59e2a2fe… (all of the seat's roots in one cut). By AI agents, Wed Nov 11 2026. No macro, syntax, notation, axiom, sorry.
-/
import Derived.Test.YteopjhakjeknaaaChecked
import GoSem.Claim
import GoSem.ClaimJoined
import GoSem.ClaimMapViews
import Derived.JoinedTies
import Derived.KernelRfl
namespace Go.Proofs.Yteopjhakjeknaaa
/- THE CELL 'sum', in the pinned program and in every row, IS THE sha256 OF THE DUMP (.gsa) THAT YteopjhakjeknaaaProg.lean LOADS. Nothing in Lean hashes anything: it is a label: what it is worth is what the hold of that sum in a sandbox is worth. -/
noncomputable def Try.pinned : Pinned := { name := "yteopjhakjeknaaa", sum := "3cd5d13d59e2a2fe675d0a10f63ce864e8c6e96b92ac24abed772f929d91d7dc", checked := Try.checked }
namespace Rows
def none {H : Type} : Left H := { results := [], args := [] }

/-- 'bastillelaw31.AnswerReads': WHATEVER THE INPUT: true; the input reads as it did. -/
def answerReadsSpec : ChangeSpec := { name := "answerReads", fn := fun _ => fun
  | [d] => { results := [.lit (.bool true)], args := [d] }
  | _ => none }
def answerReadsRow : OpenClaim := { program := "yteopjhakjeknaaa", sum := "3cd5d13d59e2a2fe675d0a10f63ce864e8c6e96b92ac24abed772f929d91d7dc", func := "bastille/bastillelaw31.AnswerReads", spec := "answerReads", unfollowed := true, recurses := true, apart := false }
def AnswerReadsSaid : Prop := answerReadsRow.holds Try.pinned (OpenSpec.ofChange answerReadsSpec)

/-- ITS FALSE NEIGHBOUR: 'it returns false'. Refute it at one input. -/
def answerReadsWrong : ChangeSpec := { name := "answerReads", fn := fun _ => fun
  | [d] => { results := [.lit (.bool false)], args := [d] }
  | _ => none }
def AnswerReadsWrongFalsely : Prop := answerReadsRow.holds Try.pinned (OpenSpec.ofChange answerReadsWrong)

/-- 'bastillelaw28.ManifestFollows': WHATEVER THE INPUT: true; the input reads as it did. -/
def manifestFollowsSpec : ChangeSpec := { name := "manifestFollows", fn := fun _ => fun
  | [d1, d2, d3] => { results := [.lit (.bool true)], args := [d1, d2, d3] }
  | _ => none }
def manifestFollowsRow : OpenClaim := { program := "yteopjhakjeknaaa", sum := "3cd5d13d59e2a2fe675d0a10f63ce864e8c6e96b92ac24abed772f929d91d7dc", func := "bastille/bastillelaw28.ManifestFollows", spec := "manifestFollows", unfollowed := true, recurses := true, apart := false }
def ManifestFollowsSaid : Prop := manifestFollowsRow.holds Try.pinned (OpenSpec.ofChange manifestFollowsSpec)

/-- ITS FALSE NEIGHBOUR: 'it returns false'. Refute it at one input. -/
def manifestFollowsWrong : ChangeSpec := { name := "manifestFollows", fn := fun _ => fun
  | [d1, d2, d3] => { results := [.lit (.bool false)], args := [d1, d2, d3] }
  | _ => none }
def ManifestFollowsWrongFalsely : Prop := manifestFollowsRow.holds Try.pinned (OpenSpec.ofChange manifestFollowsWrong)

/- THE SECOND FORM. 'bulk': how many values and letters a reading holds, each counted each time it is reached (what is shared counts as often as it is met; a slice's spare places count too). A statement '..UptoSaid' is the law's where the arguments, and the package variables that the reading takes, are together of bulk at most 1048576: NARROWER than '..Said'. Prove '..Said' where nothing that the law and all that it calls make is longer than what came in: it says more and counts as full. Else prove '..UptoSaid'. A law counts once. -/
mutual
def uptoBulk {H : Type} : DataW H → Nat
  | .lit (.string bytes) => bytes.length + 1
  | .lit _ => 1
  | .nil => 1
  | .ptr d => uptoBulk d + 1
  | .slice elems spare => uptoBulkAll elems + uptoBulkAll spare + 1
  | .agg parts => uptoBulkAll parts + 1
  | .iface _ d => uptoBulk d + 1
  | .map entries => uptoBulkEntries entries + 1
  | .held _ => 1
def uptoBulkAll {H : Type} : List (DataW H) → Nat
  | [] => 0
  | d :: r => uptoBulk d + uptoBulkAll r
def uptoBulkEntries {H : Type} : List (Lit × DataW H) → Nat
  | [] => 0
  | x :: r => uptoBulkEntry x + uptoBulkEntries r
def uptoBulkEntry {H : Type} : Lit × DataW H → Nat
  | (.string bytes, d) => bytes.length + uptoBulk d + 1
  | (_, d) => uptoBulk d + 1
 end
def uptoSmall : (H : Type) → List (DataW H) → Bool := fun _ ds => decide (uptoBulkAll ds ≤ 1048576)
def OpenSpec.upto (s : _root_.Go.ChangeSpec) : _root_.Go.OpenSpec := { _root_.Go.OpenSpec.ofChange s with cond := some uptoSmall }

/-- 'bastillelaw31.AnswerReads', WHERE WHAT IT READS IS OF BULK AT MOST 1048576: true; the input reads as it did. -/
def answerReadsUptoRow : OpenClaim := { program := "yteopjhakjeknaaa", sum := "3cd5d13d59e2a2fe675d0a10f63ce864e8c6e96b92ac24abed772f929d91d7dc", func := "bastille/bastillelaw31.AnswerReads", spec := "answerReads", unfollowed := true, recurses := true, apart := false, narrowed := true }
def AnswerReadsUptoSaid : Prop := answerReadsUptoRow.holds Try.pinned (OpenSpec.upto answerReadsSpec)

/-- 'bastillelaw28.ManifestFollows', WHERE WHAT IT READS IS OF BULK AT MOST 1048576: true; the input reads as it did. -/
def manifestFollowsUptoRow : OpenClaim := { program := "yteopjhakjeknaaa", sum := "3cd5d13d59e2a2fe675d0a10f63ce864e8c6e96b92ac24abed772f929d91d7dc", func := "bastille/bastillelaw28.ManifestFollows", spec := "manifestFollows", unfollowed := true, recurses := true, apart := false, narrowed := true }
def ManifestFollowsUptoSaid : Prop := manifestFollowsUptoRow.holds Try.pinned (OpenSpec.upto manifestFollowsSpec)

end Rows
end Go.Proofs.Yteopjhakjeknaaa
