/-
  NARROWER THAN 'FOR EVERY INPUT', by the rows' own cells (each row's printed sentence says how): RecordShown: laid · StoreRoom: laid · StoreKeeps: laid · StoreCompact: laid · StoreWhole: laid · StoreDoes: laid · ServerReplies: laid · ServerWire: laid · ServerHandles: laid · ServerAgain: laid · ServerLine: laid.
  DERIVED. THE GIVEN ROWS OF THIS SEAT. 11 by the template 'for every input the law returns true; each argument reads behind the call as it read before'; 0 by the template 'total and deterministic' (their statements: YtocolhfjpadaoaaGreatDoorTotals.lean).
  GIVEN WITH THE SEED: the statements are not yours to turn. If you find one false, say at which input.
  Laid BY PROGRAM, IN A SANDBOX (cutbox-rows.mjs): the forced cells as the released guide's own fill.sh prints them over the translation 15c652186686a989… (all of the seat's roots in one cut). By AI agents, Wed Nov 11 2026. No macro, syntax, notation, axiom, sorry.
-/
import Derived.Test.YtocolhfjpadaoaaGreatDoorChecked
import GoSem.Claim
import GoSem.ClaimJoined
import GoSem.ClaimMapViews
import Derived.JoinedTies
import Derived.KernelRfl
namespace Go.Proofs.YtocolhfjpadaoaaGreatDoor
/- THE CELL 'sum', in the pinned program and in every row, IS THE sha256 OF THE DUMP (.gsa) THAT YtocolhfjpadaoaaGreatDoorProg.lean LOADS. Nothing in Lean hashes anything: it is a label: what it is worth is what the hold of that sum in a sandbox is worth. -/
noncomputable def Tryz.pinned : Pinned := { name := "ytocolhfjpadaoaagreatdoor", sum := "15c652186686a98998e57a7d70654e35137f02f653e119829c96f7bf9a318cdc", checked := Tryz.checked }
namespace Rows
def none {H : Type} : Left H := { results := [], args := [] }

/- WHAT THE LISTED PACKAGE-LEVEL VARIABLES READ AS WHEN THE CALL BEGINS. Each datum BY PROGRAM (the guide's laid-datum.mjs) off the statement by which the dump's own 'gosem.cut.vars' lays the variable. In a bare row this is a premise. The card (YtocolhfjpadaoaaGreatDoorCards.lean) ties it to the program's text. -/
def laid_math_bits_deBruijn32tab {H : Type} : DataW H := .agg [.lit (.int .u8 0), .lit (.int .u8 1), .lit (.int .u8 28), .lit (.int .u8 2), .lit (.int .u8 29), .lit (.int .u8 14), .lit (.int .u8 24), .lit (.int .u8 3), .lit (.int .u8 30), .lit (.int .u8 22), .lit (.int .u8 20), .lit (.int .u8 15), .lit (.int .u8 25), .lit (.int .u8 17), .lit (.int .u8 4), .lit (.int .u8 8), .lit (.int .u8 31), .lit (.int .u8 27), .lit (.int .u8 13), .lit (.int .u8 23), .lit (.int .u8 21), .lit (.int .u8 19), .lit (.int .u8 16), .lit (.int .u8 7), .lit (.int .u8 26), .lit (.int .u8 12), .lit (.int .u8 18), .lit (.int .u8 6), .lit (.int .u8 11), .lit (.int .u8 5), .lit (.int .u8 10), .lit (.int .u8 9)]
def laid_math_bits_deBruijn64tab {H : Type} : DataW H := .agg [.lit (.int .u8 0), .lit (.int .u8 1), .lit (.int .u8 56), .lit (.int .u8 2), .lit (.int .u8 57), .lit (.int .u8 49), .lit (.int .u8 28), .lit (.int .u8 3), .lit (.int .u8 61), .lit (.int .u8 58), .lit (.int .u8 42), .lit (.int .u8 50), .lit (.int .u8 38), .lit (.int .u8 29), .lit (.int .u8 17), .lit (.int .u8 4), .lit (.int .u8 62), .lit (.int .u8 47), .lit (.int .u8 59), .lit (.int .u8 36), .lit (.int .u8 45), .lit (.int .u8 43), .lit (.int .u8 51), .lit (.int .u8 22), .lit (.int .u8 53), .lit (.int .u8 39), .lit (.int .u8 33), .lit (.int .u8 30), .lit (.int .u8 24), .lit (.int .u8 18), .lit (.int .u8 12), .lit (.int .u8 5), .lit (.int .u8 63), .lit (.int .u8 55), .lit (.int .u8 48), .lit (.int .u8 27), .lit (.int .u8 60), .lit (.int .u8 41), .lit (.int .u8 37), .lit (.int .u8 16), .lit (.int .u8 46), .lit (.int .u8 35), .lit (.int .u8 44), .lit (.int .u8 21), .lit (.int .u8 52), .lit (.int .u8 32), .lit (.int .u8 23), .lit (.int .u8 11), .lit (.int .u8 54), .lit (.int .u8 26), .lit (.int .u8 40), .lit (.int .u8 15), .lit (.int .u8 34), .lit (.int .u8 20), .lit (.int .u8 31), .lit (.int .u8 10), .lit (.int .u8 25), .lit (.int .u8 14), .lit (.int .u8 19), .lit (.int .u8 9), .lit (.int .u8 13), .lit (.int .u8 8), .lit (.int .u8 7), .lit (.int .u8 6)]
def laid_internal_strconv_uint64pow10 {H : Type} : DataW H := .agg [.lit (.int .u64 1), .lit (.int .u64 10), .lit (.int .u64 100), .lit (.int .u64 1000), .lit (.int .u64 10000), .lit (.int .u64 100000), .lit (.int .u64 1000000), .lit (.int .u64 10000000), .lit (.int .u64 100000000), .lit (.int .u64 1000000000), .lit (.int .u64 10000000000), .lit (.int .u64 100000000000), .lit (.int .u64 1000000000000), .lit (.int .u64 10000000000000), .lit (.int .u64 100000000000000), .lit (.int .u64 1000000000000000), .lit (.int .u64 10000000000000000), .lit (.int .u64 100000000000000000), .lit (.int .u64 1000000000000000000), .lit (.int .u64 10000000000000000000)]

/-- 'bastillelaw35.RecordShown': WHATEVER THE INPUT: true; the input reads as it did. -/
def recordShownSpec : ChangeSpec := { name := "recordShown", fn := fun _ => fun
  | [d1, d2] => { results := [.lit (.bool true)], args := [d1, d2] }
  | _ => none }
def recordShownRow : OpenClaim := { program := "ytocolhfjpadaoaagreatdoor", sum := "15c652186686a98998e57a7d70654e35137f02f653e119829c96f7bf9a318cdc", func := "bastille/bastillelaw35.RecordShown", spec := "recordShown", inPlace := ["internal/abi.NoEscape", "internal/bytealg.MakeNoZero"], unfollowed := true, recurses := true, named := ["internal/strconv.uint64pow10", "math/bits.deBruijn32tab", "math/bits.deBruijn64tab"], plainKeys := false, apart := false, laid := [("math/bits.deBruijn32tab", laid_math_bits_deBruijn32tab), ("math/bits.deBruijn64tab", laid_math_bits_deBruijn64tab), ("internal/strconv.uint64pow10", laid_internal_strconv_uint64pow10)] }
def RecordShownSaid : Prop := recordShownRow.holds Tryz.pinned (OpenSpec.ofChange recordShownSpec)

/-- ITS FALSE NEIGHBOUR: 'it returns false'. Refute it at one input. -/
def recordShownWrong : ChangeSpec := { name := "recordShown", fn := fun _ => fun
  | [d1, d2] => { results := [.lit (.bool false)], args := [d1, d2] }
  | _ => none }
def RecordShownWrongFalsely : Prop := recordShownRow.holds Tryz.pinned (OpenSpec.ofChange recordShownWrong)

/-- 'bastillelaw22.StoreRoom': WHATEVER THE INPUT: true; the input reads as it did. -/
def storeRoomSpec : ChangeSpec := { name := "storeRoom", fn := fun _ => fun
  | [d1, d2, d3] => { results := [.lit (.bool true)], args := [d1, d2, d3] }
  | _ => none }
def storeRoomRow : OpenClaim := { program := "ytocolhfjpadaoaagreatdoor", sum := "15c652186686a98998e57a7d70654e35137f02f653e119829c96f7bf9a318cdc", func := "bastille/bastillelaw22.StoreRoom", spec := "storeRoom", unfollowed := true, recurses := true, named := ["math/bits.deBruijn64tab"], plainKeys := false, apart := false, laid := [("math/bits.deBruijn64tab", laid_math_bits_deBruijn64tab)] }
def StoreRoomSaid : Prop := storeRoomRow.holds Tryz.pinned (OpenSpec.ofChange storeRoomSpec)

/-- ITS FALSE NEIGHBOUR: 'it returns false'. Refute it at one input. -/
def storeRoomWrong : ChangeSpec := { name := "storeRoom", fn := fun _ => fun
  | [d1, d2, d3] => { results := [.lit (.bool false)], args := [d1, d2, d3] }
  | _ => none }
def StoreRoomWrongFalsely : Prop := storeRoomRow.holds Tryz.pinned (OpenSpec.ofChange storeRoomWrong)

/-- 'bastillelaw22.StoreKeeps': WHATEVER THE INPUT: true; the input reads as it did. -/
def storeKeepsSpec : ChangeSpec := { name := "storeKeeps", fn := fun _ => fun
  | [d] => { results := [.lit (.bool true)], args := [d] }
  | _ => none }
def storeKeepsRow : OpenClaim := { program := "ytocolhfjpadaoaagreatdoor", sum := "15c652186686a98998e57a7d70654e35137f02f653e119829c96f7bf9a318cdc", func := "bastille/bastillelaw22.StoreKeeps", spec := "storeKeeps", unfollowed := true, recurses := true, named := ["math/bits.deBruijn64tab"], plainKeys := false, apart := false, laid := [("math/bits.deBruijn64tab", laid_math_bits_deBruijn64tab)] }
def StoreKeepsSaid : Prop := storeKeepsRow.holds Tryz.pinned (OpenSpec.ofChange storeKeepsSpec)

/-- ITS FALSE NEIGHBOUR: 'it returns false'. Refute it at one input. -/
def storeKeepsWrong : ChangeSpec := { name := "storeKeeps", fn := fun _ => fun
  | [d] => { results := [.lit (.bool false)], args := [d] }
  | _ => none }
def StoreKeepsWrongFalsely : Prop := storeKeepsRow.holds Tryz.pinned (OpenSpec.ofChange storeKeepsWrong)

/-- 'bastillelaw22.StoreCompact': WHATEVER THE INPUT: true; the input reads as it did. -/
def storeCompactSpec : ChangeSpec := { name := "storeCompact", fn := fun _ => fun
  | [d] => { results := [.lit (.bool true)], args := [d] }
  | _ => none }
def storeCompactRow : OpenClaim := { program := "ytocolhfjpadaoaagreatdoor", sum := "15c652186686a98998e57a7d70654e35137f02f653e119829c96f7bf9a318cdc", func := "bastille/bastillelaw22.StoreCompact", spec := "storeCompact", unfollowed := true, recurses := true, named := ["math/bits.deBruijn64tab"], plainKeys := false, apart := false, laid := [("math/bits.deBruijn64tab", laid_math_bits_deBruijn64tab)] }
def StoreCompactSaid : Prop := storeCompactRow.holds Tryz.pinned (OpenSpec.ofChange storeCompactSpec)

/-- ITS FALSE NEIGHBOUR: 'it returns false'. Refute it at one input. -/
def storeCompactWrong : ChangeSpec := { name := "storeCompact", fn := fun _ => fun
  | [d] => { results := [.lit (.bool false)], args := [d] }
  | _ => none }
def StoreCompactWrongFalsely : Prop := storeCompactRow.holds Tryz.pinned (OpenSpec.ofChange storeCompactWrong)

/-- 'bastillelaw22.StoreWhole': WHATEVER THE INPUT: true; the input reads as it did. -/
def storeWholeSpec : ChangeSpec := { name := "storeWhole", fn := fun _ => fun
  | [d1, d2, d3] => { results := [.lit (.bool true)], args := [d1, d2, d3] }
  | _ => none }
def storeWholeRow : OpenClaim := { program := "ytocolhfjpadaoaagreatdoor", sum := "15c652186686a98998e57a7d70654e35137f02f653e119829c96f7bf9a318cdc", func := "bastille/bastillelaw22.StoreWhole", spec := "storeWhole", unfollowed := true, recurses := true, named := ["math/bits.deBruijn64tab"], plainKeys := false, apart := false, laid := [("math/bits.deBruijn64tab", laid_math_bits_deBruijn64tab)] }
def StoreWholeSaid : Prop := storeWholeRow.holds Tryz.pinned (OpenSpec.ofChange storeWholeSpec)

/-- ITS FALSE NEIGHBOUR: 'it returns false'. Refute it at one input. -/
def storeWholeWrong : ChangeSpec := { name := "storeWhole", fn := fun _ => fun
  | [d1, d2, d3] => { results := [.lit (.bool false)], args := [d1, d2, d3] }
  | _ => none }
def StoreWholeWrongFalsely : Prop := storeWholeRow.holds Tryz.pinned (OpenSpec.ofChange storeWholeWrong)

/-- 'bastillelaw22.StoreDoes': WHATEVER THE INPUT: true; the input reads as it did. -/
def storeDoesSpec : ChangeSpec := { name := "storeDoes", fn := fun _ => fun
  | [d1, d2, d3] => { results := [.lit (.bool true)], args := [d1, d2, d3] }
  | _ => none }
def storeDoesRow : OpenClaim := { program := "ytocolhfjpadaoaagreatdoor", sum := "15c652186686a98998e57a7d70654e35137f02f653e119829c96f7bf9a318cdc", func := "bastille/bastillelaw22.StoreDoes", spec := "storeDoes", unfollowed := true, recurses := true, named := ["math/bits.deBruijn64tab"], plainKeys := false, apart := false, laid := [("math/bits.deBruijn64tab", laid_math_bits_deBruijn64tab)] }
def StoreDoesSaid : Prop := storeDoesRow.holds Tryz.pinned (OpenSpec.ofChange storeDoesSpec)

/-- ITS FALSE NEIGHBOUR: 'it returns false'. Refute it at one input. -/
def storeDoesWrong : ChangeSpec := { name := "storeDoes", fn := fun _ => fun
  | [d1, d2, d3] => { results := [.lit (.bool false)], args := [d1, d2, d3] }
  | _ => none }
def StoreDoesWrongFalsely : Prop := storeDoesRow.holds Tryz.pinned (OpenSpec.ofChange storeDoesWrong)

/-- 'bastillelaw36.ServerReplies': WHATEVER THE INPUT: true; the input reads as it did. -/
def serverRepliesSpec : ChangeSpec := { name := "serverReplies", fn := fun _ => fun
  | [d1, d2] => { results := [.lit (.bool true)], args := [d1, d2] }
  | _ => none }
def serverRepliesRow : OpenClaim := { program := "ytocolhfjpadaoaagreatdoor", sum := "15c652186686a98998e57a7d70654e35137f02f653e119829c96f7bf9a318cdc", func := "bastille/bastillelaw36.ServerReplies", spec := "serverReplies", inPlace := ["internal/abi.NoEscape", "internal/bytealg.MakeNoZero"], unfollowed := true, recurses := true, named := ["math/bits.deBruijn64tab"], plainKeys := false, apart := false, laid := [("math/bits.deBruijn64tab", laid_math_bits_deBruijn64tab)] }
def ServerRepliesSaid : Prop := serverRepliesRow.holds Tryz.pinned (OpenSpec.ofChange serverRepliesSpec)

/-- ITS FALSE NEIGHBOUR: 'it returns false'. Refute it at one input. -/
def serverRepliesWrong : ChangeSpec := { name := "serverReplies", fn := fun _ => fun
  | [d1, d2] => { results := [.lit (.bool false)], args := [d1, d2] }
  | _ => none }
def ServerRepliesWrongFalsely : Prop := serverRepliesRow.holds Tryz.pinned (OpenSpec.ofChange serverRepliesWrong)

/-- 'bastillelaw36.ServerWire': WHATEVER THE INPUT: true; the input reads as it did. -/
def serverWireSpec : ChangeSpec := { name := "serverWire", fn := fun _ => fun
  | [d1, d2] => { results := [.lit (.bool true)], args := [d1, d2] }
  | _ => none }
def serverWireRow : OpenClaim := { program := "ytocolhfjpadaoaagreatdoor", sum := "15c652186686a98998e57a7d70654e35137f02f653e119829c96f7bf9a318cdc", func := "bastille/bastillelaw36.ServerWire", spec := "serverWire", inPlace := ["internal/abi.NoEscape", "internal/bytealg.MakeNoZero"], unfollowed := true, recurses := true, named := ["math/bits.deBruijn64tab"], plainKeys := false, apart := false, laid := [("math/bits.deBruijn64tab", laid_math_bits_deBruijn64tab)] }
def ServerWireSaid : Prop := serverWireRow.holds Tryz.pinned (OpenSpec.ofChange serverWireSpec)

/-- ITS FALSE NEIGHBOUR: 'it returns false'. Refute it at one input. -/
def serverWireWrong : ChangeSpec := { name := "serverWire", fn := fun _ => fun
  | [d1, d2] => { results := [.lit (.bool false)], args := [d1, d2] }
  | _ => none }
def ServerWireWrongFalsely : Prop := serverWireRow.holds Tryz.pinned (OpenSpec.ofChange serverWireWrong)

/-- 'bastillelaw36.ServerHandles': WHATEVER THE INPUT: true; the input reads as it did. -/
def serverHandlesSpec : ChangeSpec := { name := "serverHandles", fn := fun _ => fun
  | [d1, d2, d3] => { results := [.lit (.bool true)], args := [d1, d2, d3] }
  | _ => none }
def serverHandlesRow : OpenClaim := { program := "ytocolhfjpadaoaagreatdoor", sum := "15c652186686a98998e57a7d70654e35137f02f653e119829c96f7bf9a318cdc", func := "bastille/bastillelaw36.ServerHandles", spec := "serverHandles", inPlace := ["internal/abi.NoEscape", "internal/bytealg.MakeNoZero"], unfollowed := true, recurses := true, named := ["math/bits.deBruijn64tab"], plainKeys := false, apart := false, laid := [("math/bits.deBruijn64tab", laid_math_bits_deBruijn64tab)] }
def ServerHandlesSaid : Prop := serverHandlesRow.holds Tryz.pinned (OpenSpec.ofChange serverHandlesSpec)

/-- ITS FALSE NEIGHBOUR: 'it returns false'. Refute it at one input. -/
def serverHandlesWrong : ChangeSpec := { name := "serverHandles", fn := fun _ => fun
  | [d1, d2, d3] => { results := [.lit (.bool false)], args := [d1, d2, d3] }
  | _ => none }
def ServerHandlesWrongFalsely : Prop := serverHandlesRow.holds Tryz.pinned (OpenSpec.ofChange serverHandlesWrong)

/-- 'bastillelaw36.ServerAgain': WHATEVER THE INPUT: true; the input reads as it did. -/
def serverAgainSpec : ChangeSpec := { name := "serverAgain", fn := fun _ => fun
  | [d1, d2] => { results := [.lit (.bool true)], args := [d1, d2] }
  | _ => none }
def serverAgainRow : OpenClaim := { program := "ytocolhfjpadaoaagreatdoor", sum := "15c652186686a98998e57a7d70654e35137f02f653e119829c96f7bf9a318cdc", func := "bastille/bastillelaw36.ServerAgain", spec := "serverAgain", inPlace := ["internal/abi.NoEscape", "internal/bytealg.MakeNoZero"], unfollowed := true, recurses := true, named := ["math/bits.deBruijn64tab"], plainKeys := false, apart := false, laid := [("math/bits.deBruijn64tab", laid_math_bits_deBruijn64tab)] }
def ServerAgainSaid : Prop := serverAgainRow.holds Tryz.pinned (OpenSpec.ofChange serverAgainSpec)

/-- ITS FALSE NEIGHBOUR: 'it returns false'. Refute it at one input. -/
def serverAgainWrong : ChangeSpec := { name := "serverAgain", fn := fun _ => fun
  | [d1, d2] => { results := [.lit (.bool false)], args := [d1, d2] }
  | _ => none }
def ServerAgainWrongFalsely : Prop := serverAgainRow.holds Tryz.pinned (OpenSpec.ofChange serverAgainWrong)

/-- 'bastillelaw36.ServerLine': WHATEVER THE INPUT: true; the input reads as it did. -/
def serverLineSpec : ChangeSpec := { name := "serverLine", fn := fun _ => fun
  | [d1, d2] => { results := [.lit (.bool true)], args := [d1, d2] }
  | _ => none }
def serverLineRow : OpenClaim := { program := "ytocolhfjpadaoaagreatdoor", sum := "15c652186686a98998e57a7d70654e35137f02f653e119829c96f7bf9a318cdc", func := "bastille/bastillelaw36.ServerLine", spec := "serverLine", inPlace := ["internal/abi.NoEscape", "internal/bytealg.MakeNoZero"], unfollowed := true, recurses := true, named := ["math/bits.deBruijn64tab"], plainKeys := false, apart := false, laid := [("math/bits.deBruijn64tab", laid_math_bits_deBruijn64tab)] }
def ServerLineSaid : Prop := serverLineRow.holds Tryz.pinned (OpenSpec.ofChange serverLineSpec)

/-- ITS FALSE NEIGHBOUR: 'it returns false'. Refute it at one input. -/
def serverLineWrong : ChangeSpec := { name := "serverLine", fn := fun _ => fun
  | [d1, d2] => { results := [.lit (.bool false)], args := [d1, d2] }
  | _ => none }
def ServerLineWrongFalsely : Prop := serverLineRow.holds Tryz.pinned (OpenSpec.ofChange serverLineWrong)

/- THE SECOND FORM. 'bulk': how many values and letters a reading holds, each counted each time it is reached (what is shared counts as often as it is met; a slice's spare places count too). A statement '..UptoSaid' is the law's where the arguments, and the package variables that the reading takes, are together of bulk at most 1048576: NARROWER than '..Said'. Prove '..Said' where nothing that the law and all that it calls make is longer than what came in: it says more and counts as full. Else prove '..UptoSaid'. A law counts once. -/
mutual
def uptoBulk {H : Type} : DataW H → Nat
  | .lit (.string bytes) => bytes.length + 1
  | .lit _ => 1
  | .nil => 1
  | .ptr d => uptoBulk d + 1
  | .slice elems spare => uptoBulkAll elems + uptoBulkAll spare + 1
  | .agg parts => uptoBulkAll parts + 1
  | .iface _ d => uptoBulk d + 1
  | .map entries => uptoBulkEntries entries + 1
  | .held _ => 1
def uptoBulkAll {H : Type} : List (DataW H) → Nat
  | [] => 0
  | d :: r => uptoBulk d + uptoBulkAll r
def uptoBulkEntries {H : Type} : List (Lit × DataW H) → Nat
  | [] => 0
  | x :: r => uptoBulkEntry x + uptoBulkEntries r
def uptoBulkEntry {H : Type} : Lit × DataW H → Nat
  | (.string bytes, d) => bytes.length + uptoBulk d + 1
  | (_, d) => uptoBulk d + 1
 end
def uptoSmall : (H : Type) → List (DataW H) → Bool := fun _ ds => decide (uptoBulkAll ds ≤ 1048576)
def OpenSpec.upto (s : _root_.Go.ChangeSpec) : _root_.Go.OpenSpec := { _root_.Go.OpenSpec.ofChange s with cond := some uptoSmall }

/-- 'bastillelaw35.RecordShown', WHERE WHAT IT READS IS OF BULK AT MOST 1048576: true; the input reads as it did. -/
def recordShownUptoRow : OpenClaim := { program := "ytocolhfjpadaoaagreatdoor", sum := "15c652186686a98998e57a7d70654e35137f02f653e119829c96f7bf9a318cdc", func := "bastille/bastillelaw35.RecordShown", spec := "recordShown", inPlace := ["internal/abi.NoEscape", "internal/bytealg.MakeNoZero"], unfollowed := true, recurses := true, named := ["internal/strconv.uint64pow10", "math/bits.deBruijn32tab", "math/bits.deBruijn64tab"], plainKeys := false, apart := false, laid := [("math/bits.deBruijn32tab", laid_math_bits_deBruijn32tab), ("math/bits.deBruijn64tab", laid_math_bits_deBruijn64tab), ("internal/strconv.uint64pow10", laid_internal_strconv_uint64pow10)], narrowed := true }
def RecordShownUptoSaid : Prop := recordShownUptoRow.holds Tryz.pinned (OpenSpec.upto recordShownSpec)

/-- 'bastillelaw22.StoreRoom', WHERE WHAT IT READS IS OF BULK AT MOST 1048576: true; the input reads as it did. -/
def storeRoomUptoRow : OpenClaim := { program := "ytocolhfjpadaoaagreatdoor", sum := "15c652186686a98998e57a7d70654e35137f02f653e119829c96f7bf9a318cdc", func := "bastille/bastillelaw22.StoreRoom", spec := "storeRoom", unfollowed := true, recurses := true, named := ["math/bits.deBruijn64tab"], plainKeys := false, apart := false, laid := [("math/bits.deBruijn64tab", laid_math_bits_deBruijn64tab)], narrowed := true }
def StoreRoomUptoSaid : Prop := storeRoomUptoRow.holds Tryz.pinned (OpenSpec.upto storeRoomSpec)

/-- 'bastillelaw22.StoreKeeps', WHERE WHAT IT READS IS OF BULK AT MOST 1048576: true; the input reads as it did. -/
def storeKeepsUptoRow : OpenClaim := { program := "ytocolhfjpadaoaagreatdoor", sum := "15c652186686a98998e57a7d70654e35137f02f653e119829c96f7bf9a318cdc", func := "bastille/bastillelaw22.StoreKeeps", spec := "storeKeeps", unfollowed := true, recurses := true, named := ["math/bits.deBruijn64tab"], plainKeys := false, apart := false, laid := [("math/bits.deBruijn64tab", laid_math_bits_deBruijn64tab)], narrowed := true }
def StoreKeepsUptoSaid : Prop := storeKeepsUptoRow.holds Tryz.pinned (OpenSpec.upto storeKeepsSpec)

/-- 'bastillelaw22.StoreCompact', WHERE WHAT IT READS IS OF BULK AT MOST 1048576: true; the input reads as it did. -/
def storeCompactUptoRow : OpenClaim := { program := "ytocolhfjpadaoaagreatdoor", sum := "15c652186686a98998e57a7d70654e35137f02f653e119829c96f7bf9a318cdc", func := "bastille/bastillelaw22.StoreCompact", spec := "storeCompact", unfollowed := true, recurses := true, named := ["math/bits.deBruijn64tab"], plainKeys := false, apart := false, laid := [("math/bits.deBruijn64tab", laid_math_bits_deBruijn64tab)], narrowed := true }
def StoreCompactUptoSaid : Prop := storeCompactUptoRow.holds Tryz.pinned (OpenSpec.upto storeCompactSpec)

/-- 'bastillelaw22.StoreWhole', WHERE WHAT IT READS IS OF BULK AT MOST 1048576: true; the input reads as it did. -/
def storeWholeUptoRow : OpenClaim := { program := "ytocolhfjpadaoaagreatdoor", sum := "15c652186686a98998e57a7d70654e35137f02f653e119829c96f7bf9a318cdc", func := "bastille/bastillelaw22.StoreWhole", spec := "storeWhole", unfollowed := true, recurses := true, named := ["math/bits.deBruijn64tab"], plainKeys := false, apart := false, laid := [("math/bits.deBruijn64tab", laid_math_bits_deBruijn64tab)], narrowed := true }
def StoreWholeUptoSaid : Prop := storeWholeUptoRow.holds Tryz.pinned (OpenSpec.upto storeWholeSpec)

/-- 'bastillelaw22.StoreDoes', WHERE WHAT IT READS IS OF BULK AT MOST 1048576: true; the input reads as it did. -/
def storeDoesUptoRow : OpenClaim := { program := "ytocolhfjpadaoaagreatdoor", sum := "15c652186686a98998e57a7d70654e35137f02f653e119829c96f7bf9a318cdc", func := "bastille/bastillelaw22.StoreDoes", spec := "storeDoes", unfollowed := true, recurses := true, named := ["math/bits.deBruijn64tab"], plainKeys := false, apart := false, laid := [("math/bits.deBruijn64tab", laid_math_bits_deBruijn64tab)], narrowed := true }
def StoreDoesUptoSaid : Prop := storeDoesUptoRow.holds Tryz.pinned (OpenSpec.upto storeDoesSpec)

/-- 'bastillelaw36.ServerReplies', WHERE WHAT IT READS IS OF BULK AT MOST 1048576: true; the input reads as it did. -/
def serverRepliesUptoRow : OpenClaim := { program := "ytocolhfjpadaoaagreatdoor", sum := "15c652186686a98998e57a7d70654e35137f02f653e119829c96f7bf9a318cdc", func := "bastille/bastillelaw36.ServerReplies", spec := "serverReplies", inPlace := ["internal/abi.NoEscape", "internal/bytealg.MakeNoZero"], unfollowed := true, recurses := true, named := ["math/bits.deBruijn64tab"], plainKeys := false, apart := false, laid := [("math/bits.deBruijn64tab", laid_math_bits_deBruijn64tab)], narrowed := true }
def ServerRepliesUptoSaid : Prop := serverRepliesUptoRow.holds Tryz.pinned (OpenSpec.upto serverRepliesSpec)

/-- 'bastillelaw36.ServerWire', WHERE WHAT IT READS IS OF BULK AT MOST 1048576: true; the input reads as it did. -/
def serverWireUptoRow : OpenClaim := { program := "ytocolhfjpadaoaagreatdoor", sum := "15c652186686a98998e57a7d70654e35137f02f653e119829c96f7bf9a318cdc", func := "bastille/bastillelaw36.ServerWire", spec := "serverWire", inPlace := ["internal/abi.NoEscape", "internal/bytealg.MakeNoZero"], unfollowed := true, recurses := true, named := ["math/bits.deBruijn64tab"], plainKeys := false, apart := false, laid := [("math/bits.deBruijn64tab", laid_math_bits_deBruijn64tab)], narrowed := true }
def ServerWireUptoSaid : Prop := serverWireUptoRow.holds Tryz.pinned (OpenSpec.upto serverWireSpec)

/-- 'bastillelaw36.ServerHandles', WHERE WHAT IT READS IS OF BULK AT MOST 1048576: true; the input reads as it did. -/
def serverHandlesUptoRow : OpenClaim := { program := "ytocolhfjpadaoaagreatdoor", sum := "15c652186686a98998e57a7d70654e35137f02f653e119829c96f7bf9a318cdc", func := "bastille/bastillelaw36.ServerHandles", spec := "serverHandles", inPlace := ["internal/abi.NoEscape", "internal/bytealg.MakeNoZero"], unfollowed := true, recurses := true, named := ["math/bits.deBruijn64tab"], plainKeys := false, apart := false, laid := [("math/bits.deBruijn64tab", laid_math_bits_deBruijn64tab)], narrowed := true }
def ServerHandlesUptoSaid : Prop := serverHandlesUptoRow.holds Tryz.pinned (OpenSpec.upto serverHandlesSpec)

/-- 'bastillelaw36.ServerAgain', WHERE WHAT IT READS IS OF BULK AT MOST 1048576: true; the input reads as it did. -/
def serverAgainUptoRow : OpenClaim := { program := "ytocolhfjpadaoaagreatdoor", sum := "15c652186686a98998e57a7d70654e35137f02f653e119829c96f7bf9a318cdc", func := "bastille/bastillelaw36.ServerAgain", spec := "serverAgain", inPlace := ["internal/abi.NoEscape", "internal/bytealg.MakeNoZero"], unfollowed := true, recurses := true, named := ["math/bits.deBruijn64tab"], plainKeys := false, apart := false, laid := [("math/bits.deBruijn64tab", laid_math_bits_deBruijn64tab)], narrowed := true }
def ServerAgainUptoSaid : Prop := serverAgainUptoRow.holds Tryz.pinned (OpenSpec.upto serverAgainSpec)

/-- 'bastillelaw36.ServerLine', WHERE WHAT IT READS IS OF BULK AT MOST 1048576: true; the input reads as it did. -/
def serverLineUptoRow : OpenClaim := { program := "ytocolhfjpadaoaagreatdoor", sum := "15c652186686a98998e57a7d70654e35137f02f653e119829c96f7bf9a318cdc", func := "bastille/bastillelaw36.ServerLine", spec := "serverLine", inPlace := ["internal/abi.NoEscape", "internal/bytealg.MakeNoZero"], unfollowed := true, recurses := true, named := ["math/bits.deBruijn64tab"], plainKeys := false, apart := false, laid := [("math/bits.deBruijn64tab", laid_math_bits_deBruijn64tab)], narrowed := true }
def ServerLineUptoSaid : Prop := serverLineUptoRow.holds Tryz.pinned (OpenSpec.upto serverLineSpec)

end Rows
end Go.Proofs.YtocolhfjpadaoaaGreatDoor
