/-
  NARROWER THAN 'FOR EVERY INPUT', by the rows' own cells (each row's printed sentence says how): CodecEncodes: loops · CodecFields: loops.
  DERIVED. THE GIVEN ROWS OF THIS SEAT. 3 by the template 'for every input the law returns true; each argument reads behind the call as it read before'; 0 by the template 'total and deterministic' (their statements: YtimdogdplphmoaaTotals.lean).
  GIVEN WITH THE SEED: the statements are not yours to turn. If you find one false, say at which input.
  Laid BY PROGRAM, IN A SANDBOX (cutbox-rows.mjs): the forced cells as the released guide's own fill.sh prints them over the translation 57c2a0f4415a3eba… (all of the seat's roots in one cut). By AI agents, Wed Nov 11 2026. No macro, syntax, notation, axiom, sorry.
-/
import Derived.Test.YtimdogdplphmoaaChecked
import GoSem.Claim
import GoSem.ClaimJoined
import GoSem.ClaimMapViews
import Derived.JoinedTies
import Derived.KernelRfl
namespace Go.Proofs.Ytimdogdplphmoaa
/- THE CELL 'sum', in the pinned program and in every row, IS THE sha256 OF THE DUMP (.gsa) THAT YtimdogdplphmoaaProg.lean LOADS. Nothing in Lean hashes anything: it is a label: what it is worth is what the hold of that sum in a sandbox is worth. -/
noncomputable def Try.pinned : Pinned := { name := "ytimdogdplphmoaa", sum := "57c2a0f4415a3eba9a0b796472073ca27b11f73f371cb5543fd1b63474f1756f", checked := Try.checked }
namespace Rows
def none {H : Type} : Left H := { results := [], args := [] }

/-- 'bastillelaw18.WalSums': WHATEVER THE INPUT: true; the input reads as it did. -/
def walSumsSpec : ChangeSpec := { name := "walSums", fn := fun _ => fun
  | [d1, d2, d3] => { results := [.lit (.bool true)], args := [d1, d2, d3] }
  | _ => none }
def walSumsRow : OpenClaim := { program := "ytimdogdplphmoaa", sum := "57c2a0f4415a3eba9a0b796472073ca27b11f73f371cb5543fd1b63474f1756f", func := "bastille/bastillelaw18.WalSums", spec := "walSums", apart := false }
def WalSumsSaid : Prop := walSumsRow.holds Try.pinned (OpenSpec.ofChange walSumsSpec)

/-- ITS FALSE NEIGHBOUR: 'it returns false'. Refute it at one input. -/
def walSumsWrong : ChangeSpec := { name := "walSums", fn := fun _ => fun
  | [d1, d2, d3] => { results := [.lit (.bool false)], args := [d1, d2, d3] }
  | _ => none }
def WalSumsWrongFalsely : Prop := walSumsRow.holds Try.pinned (OpenSpec.ofChange walSumsWrong)

/-- 'bastillelaw02.CodecEncodes': WHATEVER THE INPUT: true; the input reads as it did. -/
def codecEncodesSpec : ChangeSpec := { name := "codecEncodes", fn := fun _ => fun
  | [d] => { results := [.lit (.bool true)], args := [d] }
  | _ => none }
def codecEncodesRow : OpenClaim := { program := "ytimdogdplphmoaa", sum := "57c2a0f4415a3eba9a0b796472073ca27b11f73f371cb5543fd1b63474f1756f", func := "bastille/bastillelaw02.CodecEncodes", spec := "codecEncodes", recurses := true, loops := true, apart := false }
def CodecEncodesSaid : Prop := codecEncodesRow.holds Try.pinned (OpenSpec.ofChange codecEncodesSpec)

/-- ITS FALSE NEIGHBOUR: 'it returns false'. Refute it at one input. -/
def codecEncodesWrong : ChangeSpec := { name := "codecEncodes", fn := fun _ => fun
  | [d] => { results := [.lit (.bool false)], args := [d] }
  | _ => none }
def CodecEncodesWrongFalsely : Prop := codecEncodesRow.holds Try.pinned (OpenSpec.ofChange codecEncodesWrong)

/-- 'bastillelaw02.CodecFields': WHATEVER THE INPUT: true; the input reads as it did. -/
def codecFieldsSpec : ChangeSpec := { name := "codecFields", fn := fun _ => fun
  | [d1, d2, d3] => { results := [.lit (.bool true)], args := [d1, d2, d3] }
  | _ => none }
def codecFieldsRow : OpenClaim := { program := "ytimdogdplphmoaa", sum := "57c2a0f4415a3eba9a0b796472073ca27b11f73f371cb5543fd1b63474f1756f", func := "bastille/bastillelaw02.CodecFields", spec := "codecFields", unfollowed := true, recurses := true, loops := true, apart := false }
def CodecFieldsSaid : Prop := codecFieldsRow.holds Try.pinned (OpenSpec.ofChange codecFieldsSpec)

/-- ITS FALSE NEIGHBOUR: 'it returns false'. Refute it at one input. -/
def codecFieldsWrong : ChangeSpec := { name := "codecFields", fn := fun _ => fun
  | [d1, d2, d3] => { results := [.lit (.bool false)], args := [d1, d2, d3] }
  | _ => none }
def CodecFieldsWrongFalsely : Prop := codecFieldsRow.holds Try.pinned (OpenSpec.ofChange codecFieldsWrong)

/- THE SECOND FORM. 'bulk': how many values and letters a reading holds, each counted each time it is reached (what is shared counts as often as it is met; a slice's spare places count too). A statement '..UptoSaid' is the law's where the arguments, and the package variables that the reading takes, are together of bulk at most 1048576: NARROWER than '..Said'. Prove '..Said' where nothing that the law and all that it calls make is longer than what came in: it says more and counts as full. Else prove '..UptoSaid'. A law counts once. -/
mutual
def uptoBulk {H : Type} : DataW H → Nat
  | .lit (.string bytes) => bytes.length + 1
  | .lit _ => 1
  | .nil => 1
  | .ptr d => uptoBulk d + 1
  | .slice elems spare => uptoBulkAll elems + uptoBulkAll spare + 1
  | .agg parts => uptoBulkAll parts + 1
  | .iface _ d => uptoBulk d + 1
  | .map entries => uptoBulkEntries entries + 1
  | .held _ => 1
def uptoBulkAll {H : Type} : List (DataW H) → Nat
  | [] => 0
  | d :: r => uptoBulk d + uptoBulkAll r
def uptoBulkEntries {H : Type} : List (Lit × DataW H) → Nat
  | [] => 0
  | x :: r => uptoBulkEntry x + uptoBulkEntries r
def uptoBulkEntry {H : Type} : Lit × DataW H → Nat
  | (.string bytes, d) => bytes.length + uptoBulk d + 1
  | (_, d) => uptoBulk d + 1
 end
def uptoSmall : (H : Type) → List (DataW H) → Bool := fun _ ds => decide (uptoBulkAll ds ≤ 1048576)
def OpenSpec.upto (s : _root_.Go.ChangeSpec) : _root_.Go.OpenSpec := { _root_.Go.OpenSpec.ofChange s with cond := some uptoSmall }

/-- 'bastillelaw18.WalSums', WHERE WHAT IT READS IS OF BULK AT MOST 1048576: true; the input reads as it did. -/
def walSumsUptoRow : OpenClaim := { program := "ytimdogdplphmoaa", sum := "57c2a0f4415a3eba9a0b796472073ca27b11f73f371cb5543fd1b63474f1756f", func := "bastille/bastillelaw18.WalSums", spec := "walSums", apart := false, narrowed := true }
def WalSumsUptoSaid : Prop := walSumsUptoRow.holds Try.pinned (OpenSpec.upto walSumsSpec)

/-- 'bastillelaw02.CodecEncodes', WHERE WHAT IT READS IS OF BULK AT MOST 1048576: true; the input reads as it did. -/
def codecEncodesUptoRow : OpenClaim := { program := "ytimdogdplphmoaa", sum := "57c2a0f4415a3eba9a0b796472073ca27b11f73f371cb5543fd1b63474f1756f", func := "bastille/bastillelaw02.CodecEncodes", spec := "codecEncodes", recurses := true, loops := true, apart := false, narrowed := true }
def CodecEncodesUptoSaid : Prop := codecEncodesUptoRow.holds Try.pinned (OpenSpec.upto codecEncodesSpec)

/-- 'bastillelaw02.CodecFields', WHERE WHAT IT READS IS OF BULK AT MOST 1048576: true; the input reads as it did. -/
def codecFieldsUptoRow : OpenClaim := { program := "ytimdogdplphmoaa", sum := "57c2a0f4415a3eba9a0b796472073ca27b11f73f371cb5543fd1b63474f1756f", func := "bastille/bastillelaw02.CodecFields", spec := "codecFields", unfollowed := true, recurses := true, loops := true, apart := false, narrowed := true }
def CodecFieldsUptoSaid : Prop := codecFieldsUptoRow.holds Try.pinned (OpenSpec.upto codecFieldsSpec)

end Rows
end Go.Proofs.Ytimdogdplphmoaa
