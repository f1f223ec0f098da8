/-
  Models of functions: printed by a program of this claim's own (gen.py) off the given translation.
-/
import Derived.Test.YtimdogdplphmoabDoorCbM
import Derived.Test.YtimdogdplphmoabDoorTbl
namespace Go.Proofs.YtimdogdplphmoabDoor
open Go Go.RowKit
set_option linter.unusedVariables false
structure S_api_Call where
  Kind : Int
  User : (List UInt8)
  Folder : (List UInt8)
  Name : (List UInt8)
  Other : (List UInt8)
  Role : Int
  Version : Int
  Data : (List UInt8)

/-- bastille/call.text -/
def m_call_text (p0 : (List UInt8)) (p1 : Bool) : Option Bool :=
bif p1 then (Option.bind (m_tree_Name p0) fun x2 =>
some x2) else (some (p0 == []))

/-- bastille/call.number -/
def m_call_number (p0 : Int) (p1 : Int) (p2 : Int) (p3 : Bool) : Option Bool :=
bif p3 then (bif (decide (p0 ≥ p1)) then (some (decide (p0 ≤ p2))) else (some false)) else (some (p0 == 0))

/-- bastille/call.May -/
def m_call_May_j3 (p0 : S_api_Call) (x6 : Int) (y12 : Bool) : Option Bool :=
bif y12 then (some false) else (Option.bind (m_call_number p0.Role 1 4 ((wi ((((BitVec.ofInt IntKind.i64.bits x6) &&& (BitVec.ofInt IntKind.i64.bits 16)).toNat : Nat) : Int)) != 0)) fun x14 =>
bif (!x14) then (some false) else (Option.bind (m_call_number p0.Version 0 1099511627776 ((wi ((((BitVec.ofInt IntKind.i64.bits x6) &&& (BitVec.ofInt IntKind.i64.bits 32)).toNat : Nat) : Int)) != 0)) fun x17 =>
bif (!x17) then (some false) else (Option.bind (m_call_number (p0.Data.length : Int) 0 512 ((wi ((((BitVec.ofInt IntKind.i64.bits x6) &&& (BitVec.ofInt IntKind.i64.bits 64)).toNat : Nat) : Int)) != 0)) fun x20 =>
some x20)))

def m_call_May_j2 (x6 : Int) (p0 : S_api_Call) (y10 : Bool) : Option Bool :=
bif y10 then (some false) else (bif ((wi ((((BitVec.ofInt IntKind.i64.bits x6) &&& (BitVec.ofInt IntKind.i64.bits 1)).toNat : Nat) : Int)) == 0) then (bif (p0.Other == p0.User) then (m_call_May_j3 p0 x6 true) else (bif (p0.Kind == 2) then (m_call_May_j3 p0 x6 (p0.Other == p0.Folder)) else (m_call_May_j3 p0 x6 false))) else (bif (p0.Kind == 2) then (m_call_May_j3 p0 x6 (p0.Other == p0.Folder)) else (m_call_May_j3 p0 x6 false)))

def m_call_May_j1 (x6 : Int) (p0 : S_api_Call) (y8 : Bool) : Option Bool :=
bif y8 then (some false) else (bif ((wi ((((BitVec.ofInt IntKind.i64.bits x6) &&& (BitVec.ofInt IntKind.i64.bits 4)).toNat : Nat) : Int)) != 0) then (Option.bind (m_call_text p0.Other true) fun x27 =>
m_call_May_j2 x6 p0 (!x27)) else (bif ((wi ((((BitVec.ofInt IntKind.i64.bits x6) &&& (BitVec.ofInt IntKind.i64.bits 8)).toNat : Nat) : Int)) != 0) then (Option.bind (m_call_text p0.Other (!(p0.Other == []))) fun x30 =>
m_call_May_j2 x6 p0 (!x30)) else (Option.bind (m_call_text p0.Other false) fun x32 =>
m_call_May_j2 x6 p0 (!x32))))

def m_call_May (p0 : S_api_Call) : Option Bool :=
bif (decide (p0.Kind < 1)) then (some false) else (bif (decide (p0.Kind > 16)) then (some false) else (Option.bind (m_tree_Name p0.User) fun x3 =>
bif (!x3) then (some false) else (Option.bind (idx tbl_call_fields p0.Kind) fun x6 =>
Option.bind (m_call_text p0.Folder ((wi ((((BitVec.ofInt IntKind.i64.bits x6) &&& (BitVec.ofInt IntKind.i64.bits 1)).toNat : Nat) : Int)) != 0)) fun x34 =>
bif (!x34) then (m_call_May_j1 x6 p0 true) else (Option.bind (m_call_text p0.Name ((wi ((((BitVec.ofInt IntKind.i64.bits x6) &&& (BitVec.ofInt IntKind.i64.bits 2)).toNat : Nat) : Int)) != 0)) fun x37 =>
m_call_May_j1 x6 p0 (!x37)))))

/-- bastille/call.word -/
def m_call_word (p0 : (List UInt8)) : Option V :=
Option.bind (strB p0) fun x1 =>
Option.bind (m_codec_Raw x1) fun x3 =>
some (V.mk x3.k x3.n x3.b [])

/-- bastille/call.Write -/
def m_call_Write (p0 : S_api_Call) : Option ((List UInt8) × Int) :=
Option.bind (m_call_May p0) fun x1 =>
bif (!x1) then (some ([], 13)) else (Option.bind (m_codec_Num p0.Kind) fun x4 =>
Option.bind (m_call_word p0.User) fun x6 =>
Option.bind (m_call_word p0.Folder) fun x8 =>
Option.bind (m_call_word p0.Name) fun x10 =>
Option.bind (m_call_word p0.Other) fun x12 =>
Option.bind (m_codec_Num p0.Role) fun x14 =>
Option.bind (m_codec_Num p0.Version) fun x16 =>
Option.bind (m_codec_Raw p0.Data) fun x18 =>
Option.bind (m_codec_Of [(V.mk x4.k x4.n [] []), (V.mk x6.k x6.n x6.b []), (V.mk x8.k x8.n x8.b []), (V.mk x10.k x10.n x10.b []), (V.mk x12.k x12.n x12.b []), (V.mk x14.k x14.n [] []), (V.mk x16.k x16.n [] []), (V.mk x18.k x18.n x18.b [])]) fun x20 =>
Option.bind (m_codec_Encode (V.mk x20.k x20.n [] x20.l)) fun x22 =>
some (x22.1, x22.2))

/-- bastille/bastilleref28.Of -/
def m_R28_Of (p0 : (List V)) : Option V :=
some (V.mk 3 0 [] p0)

/-- bastille/bastilleref28.Num -/
def m_R28_Num (p0 : Int) : Option V :=
some (V.mk 1 p0 [] [])

/-- bastille/bastilleref28.Raw -/
def m_R28_Raw (p0 : (List UInt8)) : Option V :=
some (V.mk 2 0 p0 [])

/-- bastille/bastilleref30.Bytes -/
def m_R30_Bytes (p0 : S_api_Call) : Option (List UInt8) :=
Option.bind (m_R28_Num p0.Kind) fun x1 =>
Option.bind (strB p0.User) fun x3 =>
Option.bind (m_R28_Raw x3) fun x5 =>
Option.bind (strB p0.Folder) fun x7 =>
Option.bind (m_R28_Raw x7) fun x9 =>
Option.bind (strB p0.Name) fun x11 =>
Option.bind (m_R28_Raw x11) fun x13 =>
Option.bind (strB p0.Other) fun x15 =>
Option.bind (m_R28_Raw x15) fun x17 =>
Option.bind (m_R28_Num p0.Role) fun x19 =>
Option.bind (m_R28_Num p0.Version) fun x21 =>
Option.bind (m_R28_Raw p0.Data) fun x23 =>
Option.bind (m_R28_Of [(V.mk x1.k x1.n [] []), (V.mk x5.k x5.n x5.b []), (V.mk x9.k x9.n x9.b []), (V.mk x13.k x13.n x13.b []), (V.mk x17.k x17.n x17.b []), (V.mk x19.k x19.n [] []), (V.mk x21.k x21.n [] []), (V.mk x23.k x23.n x23.b [])]) fun x25 =>
Option.bind (m_R02_Bytes (V.ht (V.mk x25.k x25.n [] x25.l)) (V.mk x25.k x25.n [] x25.l)) fun x27 =>
some x27

/-- bastille/bastillelaw30.awake -/
def m_L30_awake : Option Bool :=
Option.bind (m_call_Write (S_api_Call.mk 10 [97] [102] [] [] 0 0 [])) fun x1 =>
Option.bind (m_call_May (S_api_Call.mk 10 [97] [102] [] [] 0 0 [])) fun x3 =>
bif x3 then (Option.bind (m_call_May (S_api_Call.mk 10 [97] [102] [110] [] 0 0 [])) fun x6 =>
bif (!x6) then (bif (x1.2 == 0) then (Option.bind (m_R30_Bytes (S_api_Call.mk 10 [97] [102] [] [] 0 0 [])) fun x10 =>
Option.bind (m_R01_Same x1.1 x10) fun x12 =>
some x12) else (some false)) else (some false)) else (some false)

/-- bastille/bastillelaw30.Few -/
def m_L30_Few (p0 : S_api_Call) : Option Bool :=
bif (decide ((p0.User.length : Int) ≤ 20)) then (bif (decide ((p0.Folder.length : Int) ≤ 20)) then (bif (decide ((p0.Name.length : Int) ≤ 20)) then (bif (decide ((p0.Other.length : Int) ≤ 20)) then (some (decide ((p0.Data.length : Int) ≤ 600))) else (some false)) else (some false)) else (some false)) else (some false)

/-- bytes.Equal -/
def m_bytes_Equal (p0 : (List UInt8)) (p1 : (List UInt8)) : Option Bool :=
some (p0 == p1)

/-- bastille/call.Same -/
def m_call_Same (p0 : S_api_Call) (p1 : S_api_Call) : Option Bool :=
Option.bind (m_bytes_Equal p0.Data p1.Data) fun x1 =>
bif (!x1) then (some false) else (bif (p0.Kind != p1.Kind) then (some false) else (bif (p0.Role != p1.Role) then (some false) else (bif (p0.Version != p1.Version) then (some false) else (bif (p0.User == p1.User) then (bif (p0.Folder == p1.Folder) then (bif (p0.Name == p1.Name) then (some (p0.Other == p1.Other)) else (some false)) else (some false)) else (some false)))))

/-- bastille/bastilleref30.Same -/
def m_R30_Same (p0 : S_api_Call) (p1 : S_api_Call) : Option Bool :=
bif (p0.Kind == p1.Kind) then (bif (p0.User == p1.User) then (bif (p0.Folder == p1.Folder) then (bif (p0.Name == p1.Name) then (bif (p0.Other == p1.Other) then (bif (p0.Role == p1.Role) then (bif (p0.Version == p1.Version) then (Option.bind (m_R01_Same p0.Data p1.Data) fun x8 =>
some x8) else (some false)) else (some false)) else (some false)) else (some false)) else (some false)) else (some false)) else (some false)

/-- bastille/call.Writes -/
def m_call_Writes (p0 : Int) : Option Bool :=
bif (decide (p0 ≥ 2)) then (bif (decide (p0 ≤ 8)) then (some true) else (some (p0 == 11))) else (some (p0 == 11))

/-- bastille/bastillelaw30.CallSame -/
def m_L30_CallSame_j1 (p0 : S_api_Call) (p1 : S_api_Call) (p2 : Int) (y10 : Bool) : Option Bool :=
Option.bind (m_call_Same p0 p1) fun x11 =>
Option.bind (m_R30_Same p0 p1) fun x13 =>
bif (x11 == x13) then (Option.bind (m_call_Same p0 p0) fun x16 =>
bif x16 then (Option.bind (m_call_Writes p2) fun x19 =>
some (x19 == y10)) else (some false)) else (some false)

def m_L30_CallSame (p0 : S_api_Call) (p1 : S_api_Call) (p2 : Int) : Option Bool :=
Option.bind (m_L30_awake) fun x1 =>
bif (!x1) then (some false) else (Option.bind (m_L30_Few p0) fun x4 =>
bif (!x4) then (some true) else (Option.bind (m_L30_Few p1) fun x7 =>
bif (!x7) then (some true) else (bif (decide (p2 ≥ 2)) then (bif (decide (p2 ≤ 11)) then (bif (p2 != 9) then (m_L30_CallSame_j1 p0 p1 p2 (p2 != 10)) else (m_L30_CallSame_j1 p0 p1 p2 false)) else (m_L30_CallSame_j1 p0 p1 p2 false)) else (m_L30_CallSame_j1 p0 p1 p2 false))))

/-- bastille/bastilleref30.May -/
def m_R30_May_j7 (p0 : S_api_Call) : Option Bool :=
bif ((p0.Data.length : Int) == 0) then (some true) else (bif (p0.Kind == 8) then (some (decide ((p0.Data.length : Int) ≤ 512))) else (some false))

def m_R30_May_j6 (p0 : S_api_Call) : Option Bool :=
bif (p0.Kind == 9) then (bif (decide (p0.Version < 0)) then (some false) else (bif (decide (p0.Version > 1099511627776)) then (some false) else (m_R30_May_j7 p0))) else (bif (p0.Version != 0) then (some false) else (m_R30_May_j7 p0))

def m_R30_May_j8 (p0 : S_api_Call) (y13 : Bool) : Option Bool :=
bif y13 then (bif (decide (p0.Role < 1)) then (some false) else (bif (decide (p0.Role > 4)) then (some false) else (m_R30_May_j6 p0))) else (bif (p0.Role != 0) then (some false) else (m_R30_May_j6 p0))

def m_R30_May_j5 (p0 : S_api_Call) : Option Bool :=
bif (p0.Kind == 5) then (m_R30_May_j8 p0 true) else (m_R30_May_j8 p0 (p0.Kind == 6))

def m_R30_May_j4 (p0 : S_api_Call) (y6 : Bool) : Option Bool :=
bif y6 then (Option.bind (m_R25_Name p0.Name) fun x20 =>
bif (!x20) then (some false) else (bif (!y6) then (bif (!(p0.Name == [])) then (some false) else (m_R30_May_j5 p0)) else (m_R30_May_j5 p0))) else (bif (!y6) then (bif (!(p0.Name == [])) then (some false) else (m_R30_May_j5 p0)) else (m_R30_May_j5 p0))

def m_R30_May_j3 (p0 : S_api_Call) : Option Bool :=
bif (p0.Kind == 8) then (m_R30_May_j4 p0 true) else (bif (p0.Kind == 9) then (m_R30_May_j4 p0 true) else (bif (p0.Kind == 11) then (m_R30_May_j4 p0 true) else (m_R30_May_j4 p0 (p0.Kind == 12))))

def m_R30_May_j10 (p0 : S_api_Call) (y40 : Bool) : Option Bool :=
bif y40 then (Option.bind (m_R25_Name p0.Other) fun x42 =>
bif (!x42) then (some false) else (m_R30_May_j3 p0)) else (bif (decide (p0.Kind < 14)) then (bif (!(p0.Other == [])) then (some false) else (m_R30_May_j3 p0)) else (m_R30_May_j3 p0))

def m_R30_May_j9 (p0 : S_api_Call) (y30 : Bool) : Option Bool :=
bif y30 then (bif (!(p0.Other == [])) then (Option.bind (m_R25_Name p0.Other) fun x33 =>
bif (!x33) then (some false) else (bif (p0.Kind == 2) then (bif (p0.Other == p0.Folder) then (some false) else (m_R30_May_j3 p0)) else (m_R30_May_j3 p0))) else (bif (p0.Kind == 2) then (bif (p0.Other == p0.Folder) then (some false) else (m_R30_May_j3 p0)) else (m_R30_May_j3 p0))) else (bif (decide (p0.Kind ≥ 5)) then (m_R30_May_j10 p0 (decide (p0.Kind ≤ 7))) else (m_R30_May_j10 p0 false))

def m_R30_May_j2 (p0 : S_api_Call) : Option Bool :=
bif (p0.Kind == 2) then (m_R30_May_j9 p0 true) else (m_R30_May_j9 p0 (p0.Kind == 3))

def m_R30_May_j11 (p0 : S_api_Call) (y49 : Bool) : Option Bool :=
bif y49 then (bif (!(p0.Folder == [])) then (some false) else (bif (p0.Kind == 1) then (bif (!(p0.Other == [])) then (some false) else (m_R30_May_j2 p0)) else (bif (p0.Kind == 15) then (bif (!(p0.Other == [])) then (some false) else (m_R30_May_j2 p0)) else (m_R30_May_j2 p0)))) else (Option.bind (m_R25_Name p0.Folder) fun x56 =>
bif (!x56) then (some false) else (m_R30_May_j2 p0))

def m_R30_May_j1 (p0 : S_api_Call) : Option Bool :=
bif (p0.Kind == 1) then (m_R30_May_j11 p0 true) else (m_R30_May_j11 p0 (decide (p0.Kind ≥ 14)))

def m_R30_May (p0 : S_api_Call) : Option Bool :=
Option.bind (m_R25_Name p0.User) fun x1 =>
bif (!x1) then (some false) else (bif (decide (p0.Kind < 1)) then (some false) else (bif (decide (p0.Kind > 16)) then (some false) else (bif (p0.Kind == 14) then (Option.bind (m_R25_Name p0.Other) fun x61 =>
bif (!x61) then (some false) else (bif (p0.Other == p0.User) then (some false) else (m_R30_May_j1 p0))) else (bif (p0.Kind == 16) then (Option.bind (m_R25_Name p0.Other) fun x66 =>
bif (!x66) then (some false) else (bif (p0.Other == p0.User) then (some false) else (m_R30_May_j1 p0))) else (m_R30_May_j1 p0)))))

/-- bastille/call.Read -/
def m_call_Read (p0 : (List UInt8)) : Option (S_api_Call × Int) :=
Option.bind (m_codec_Decode p0) fun x1 =>
bif (x1.2 != 0) then (some ((S_api_Call.mk 0 [] [] [] [] 0 0 []), 13)) else (Option.bind (m_codec_Fields x1.1 [1, 2, 2, 2, 2, 1, 1, 2]) fun x4 =>
bif (!x4.2) then (some ((S_api_Call.mk 0 [] [] [] [] 0 0 []), 13)) else (Option.bind (idx x4.1 0) fun x7 =>
Option.bind (idx x4.1 1) fun x9 =>
Option.bind (idx x4.1 2) fun x11 =>
Option.bind (idx x4.1 3) fun x13 =>
Option.bind (idx x4.1 4) fun x15 =>
Option.bind (idx x4.1 5) fun x17 =>
Option.bind (idx x4.1 6) fun x19 =>
Option.bind (idx x4.1 7) fun x21 =>
Option.bind (m_call_May (S_api_Call.mk x7.n x9.b x11.b x13.b x15.b x17.n x19.n x21.b)) fun x23 =>
bif (!x23) then (some ((S_api_Call.mk 0 [] [] [] [] 0 0 []), 13)) else (some ((S_api_Call.mk x7.n x9.b x11.b x13.b x15.b x17.n x19.n x21.b), 0))))

/-- bastille/bastillelaw30.CallBack -/
def m_L30_CallBack (p0 : S_api_Call) : Option Bool :=
Option.bind (m_L30_awake) fun x1 =>
bif (!x1) then (some false) else (Option.bind (m_L30_Few p0) fun x4 =>
bif (!x4) then (some true) else (Option.bind (m_call_Write p0) fun x7 =>
Option.bind (m_R30_May p0) fun x9 =>
bif (!x9) then (bif (x7.2 == 13) then (bif ((x7.1.length : Int) == 0) then (Option.bind (m_call_May p0) fun x14 =>
some (!x14)) else (some false)) else (some false)) else (Option.bind (m_call_Read x7.1) fun x16 =>
Option.bind (m_call_May p0) fun x18 =>
bif x18 then (bif (x7.2 == 0) then (Option.bind (m_R30_Bytes p0) fun x22 =>
Option.bind (m_R01_Same x7.1 x22) fun x24 =>
bif x24 then (bif (x16.2 == 0) then (Option.bind (m_R30_Same p0 x16.1) fun x28 =>
some x28) else (some false)) else (some false)) else (some false)) else (some false))))

/-- bastille/bastilleref30.Read -/
def m_R30_Read (p0 : (List UInt8)) : Option (S_api_Call × Int) :=
Option.bind (m_R02_Decode p0) fun x1 =>
bif (x1.2 != 0) then (some ((S_api_Call.mk 0 [] [] [] [] 0 0 []), 13)) else (Option.bind (m_R28_Kinds x1.1 [1, 2, 2, 2, 2, 1, 1, 2]) fun x4 =>
bif (!x4) then (some ((S_api_Call.mk 0 [] [] [] [] 0 0 []), 13)) else (Option.bind (idx x1.1.l 0) fun x7 =>
Option.bind (idx x1.1.l 1) fun x9 =>
Option.bind (idx x1.1.l 2) fun x11 =>
Option.bind (idx x1.1.l 3) fun x13 =>
Option.bind (idx x1.1.l 4) fun x15 =>
Option.bind (idx x1.1.l 5) fun x17 =>
Option.bind (idx x1.1.l 6) fun x19 =>
Option.bind (idx x1.1.l 7) fun x21 =>
Option.bind (m_R30_May (S_api_Call.mk x7.n x9.b x11.b x13.b x15.b x17.n x19.n x21.b)) fun x23 =>
bif (!x23) then (some ((S_api_Call.mk 0 [] [] [] [] 0 0 []), 13)) else (some ((S_api_Call.mk x7.n x9.b x11.b x13.b x15.b x17.n x19.n x21.b), 0))))

/-- bastille/bastillelaw30.CallReads -/
def m_L30_CallReads (p0 : (List UInt8)) : Option Bool :=
Option.bind (m_L30_awake) fun x1 =>
bif (!x1) then (some false) else (bif (decide ((p0.length : Int) > 2000)) then (some true) else (Option.bind (m_call_Read p0) fun x5 =>
Option.bind (m_R30_Read p0) fun x7 =>
bif (x5.2 != x7.2) then (some false) else (Option.bind (m_R30_Same x5.1 x7.1) fun x10 =>
bif (!x10) then (some false) else (Option.bind (m_call_Write x5.1) fun x13 =>
bif (x5.2 != 0) then (some true) else (bif (x13.2 == 0) then (Option.bind (m_R01_Same x13.1 p0) fun x17 =>
some x17) else (some false))))))
end Go.Proofs.YtimdogdplphmoabDoor
