/-
  Models of functions: printed by a program of this claim's own (gen.py) off the given translation.
-/
import Derived.Test.YteopjhakjeknaaaDoorCbM
import Derived.Test.YteopjhakjeknaaaDoorRcX
namespace Go.Proofs.YteopjhakjeknaaaDoor
open Go Go.RowKit
set_option linter.unusedVariables false
/-- bastille/record.sized -/
def m_record_sized (p0 : Int) : Option Bool :=
bif (p0 == 120) then (some true) else (some (p0 == 1020))

/-- bastille/record.Pad -/
def m_record_Pad (p0 : (List UInt8)) (p1 : Int) : Option ((List UInt8) × Int) :=
Option.bind (m_record_sized p1) fun x1 =>
bif (!x1) then (some ([], 2)) else (bif (decide ((p0.length : Int) > (wi (p1 - 2)))) then (some ([], 3)) else (Option.bind (m_word_Put (p0.length : Int) 2) fun x5 =>
Option.bind (appI 1 x5.1 p0) fun x7 =>
Option.bind (apzI 1 x7.length (wi ((wi (p1 - 2)) - (p0.length : Int)))) fun x9 =>
some (x7 ++ List.replicate x9 (0 : UInt8), 0)))

/-- bastille/record.Small -/
def m_record_Small_j2 (x1 : V) (y4 : (List V)) : Option ((List UInt8) × Int) :=
Option.bind (m_codec_Encode (V.mk x1.k x1.n [] y4)) fun x5 =>
bif (x5.2 != 0) then (some ([], x5.2)) else (Option.bind (m_record_Pad x5.1 120) fun x8 =>
some (x8.1, x8.2))

def m_record_Small_l3 (p1 : (List (List UInt8))) (x1 : V) : Nat → (List V) → Int → Option ((List UInt8) × Int)
  | 0, _, _ => none
  | nl3 + 1, z10, z11 =>
    bif (decide (z11 < (p1.length : Int))) then (Option.bind (idx p1 z11) fun x13 =>
    Option.bind (m_codec_Raw x13) fun x15 =>
    Option.bind (appI 64 z10 [(V.mk x15.k x15.n x15.b [])]) fun x17 =>
    (m_record_Small_l3 p1 x1 nl3) x17 (wi (z11 + 1))) else (m_record_Small_j2 x1 z10)

def m_record_Small_j1 (p1 : (List (List UInt8))) (x1 : V) (y3 : (List V)) : Option ((List UInt8) × Int) :=
m_record_Small_l3 p1 x1 (p1.length + 1) y3 0

def m_record_Small_l4 (p0 : (List Int)) (p1 : (List (List UInt8))) (x1 : V) : Nat → (List V) → Int → Option ((List UInt8) × Int)
  | 0, _, _ => none
  | nl4 + 1, z19, z20 =>
    bif (decide (z20 < (p0.length : Int))) then (Option.bind (idx p0 z20) fun x22 =>
    Option.bind (m_codec_Num x22) fun x24 =>
    Option.bind (appI 64 z19 [(V.mk x24.k x24.n [] [])]) fun x26 =>
    (m_record_Small_l4 p0 p1 x1 nl4) x26 (wi (z20 + 1))) else (m_record_Small_j1 p1 x1 z19)

def m_record_Small (p0 : (List Int)) (p1 : (List (List UInt8))) : Option ((List UInt8) × Int) :=
Option.bind (m_codec_Of_n0) fun x1 =>
m_record_Small_l4 p0 p1 x1 (p0.length + 1) [] 0

/-- bastille/record.Key -/
def m_record_Key (p0 : (List (List UInt8))) : Option (List UInt8) :=
Option.bind (m_strings_Join p0 [47]) fun x1 =>
some x1

/-- bastille/record.Num -/
def m_record_Num (p0 : Int) : Option (List UInt8) :=
Option.bind (m_strconv_Itoa p0) fun x1 =>
some x1

/-- bastille/bastillelaw35.awake -/
def m_L35_awake : Option Bool :=
Option.bind (m_record_Small [3, 1] [[7]]) fun x1 =>
Option.bind (m_record_Key [[119], [102], [97]]) fun x3 =>
bif (x3 == [119, 47, 102, 47, 97]) then (Option.bind (m_record_Num 40) fun x6 =>
bif (x6 == [52, 48]) then (bif (x1.2 == 0) then (bif ((x1.1.length : Int) == 120) then (Option.bind (idx x1.1 1) fun x11 =>
some ((x11.toNat : Int) == 14)) else (some false)) else (some false)) else (some false)) else (some false)

/-- bastille/bastilleref35.Pad -/
def m_R35_Pad_j2 (y4 : (List UInt8)) : Option ((List UInt8) × Int) :=
some (y4, 0)

def m_R35_Pad_l3 (p1 : Int) : Nat → (List UInt8) → Option ((List UInt8) × Int)
  | 0, _ => none
  | nl3 + 1, z5 =>
    bif (decide ((z5.length : Int) < p1)) then (Option.bind (appI 1 z5 [0]) fun x7 =>
    (m_R35_Pad_l3 p1 nl3) x7) else (m_R35_Pad_j2 z5)

def m_R35_Pad_j1 (p0 : (List UInt8)) (p1 : Int) : Option ((List UInt8) × Int) :=
bif (decide ((p0.length : Int) > (wi (p1 - 2)))) then (some ([], 3)) else (Option.bind (appI 1 [(U8 (wi (Int.tdiv (p0.length : Int) 256))), (U8 (Int.tmod (p0.length : Int) 256))] p0) fun x2 =>
m_R35_Pad_l3 p1 (Int.toNat p1 + 1) x2)

def m_R35_Pad (p0 : (List UInt8)) (p1 : Int) : Option ((List UInt8) × Int) :=
bif (p1 != 120) then (bif (p1 != 1020) then (some ([], 2)) else (m_R35_Pad_j1 p0 p1)) else (m_R35_Pad_j1 p0 p1)

/-- slices.IndexFunc[[]byte,byte] -/
def m_slices_IndexFunc_byte_l1 (p0 : (List UInt8)) (p1 : (UInt8 → Option Bool)) : Nat → Int → Option Int
  | 0, _ => none
  | nl1 + 1, z1 =>
    bif (decide (z1 < (p0.length : Int))) then (Option.bind (idx p0 z1) fun x3 =>
    Option.bind (p1 x3) fun x5 =>
    bif x5 then (some z1) else ((m_slices_IndexFunc_byte_l1 p0 p1 nl1) (wi (z1 + 1)))) else (some (-1))

def m_slices_IndexFunc_byte (p0 : (List UInt8)) (p1 : (UInt8 → Option Bool)) : Option Int :=
m_slices_IndexFunc_byte_l1 p0 p1 (p0.length + 1) 0

/-- slices.ContainsFunc[[]byte,byte] -/
def m_slices_ContainsFunc_byte (p0 : (List UInt8)) (p1 : (UInt8 → Option Bool)) : Option Bool :=
Option.bind (m_slices_IndexFunc_byte p0 p1) fun x1 =>
some (decide (x1 ≥ 0))

/-- bastille/record.Unpad$1 -/
def m_record_Unpad_c1 (p0 : UInt8) : Option Bool :=
some ((p0.toNat : Int) != 0)

/-- bastille/record.Unpad -/
def m_record_Unpad (p0 : (List UInt8)) : Option ((List UInt8) × Int) :=
Option.bind (m_record_sized (p0.length : Int)) fun x1 =>
bif (!x1) then (some ([], 11)) else (Option.bind (cutI p0 0 2) fun x4 =>
Option.bind (m_word_Get x4) fun x6 =>
bif (decide (x6.1 > (wi ((p0.length : Int) - 2)))) then (some ([], 11)) else (Option.bind (cutI p0 (wi (2 + x6.1)) (p0.length : Int)) fun x9 =>
Option.bind (m_slices_ContainsFunc_byte x9 m_record_Unpad_c1) fun x11 =>
bif x11 then (some ([], 11)) else (Option.bind (cutI p0 2 (wi (2 + x6.1))) fun x14 =>
Option.bind (m_slices_Clone_byte x14) fun x16 =>
some (x16, 0))))

/-- bastille/bastilleref35.Unpad -/
def m_R35_Unpad_j1 (p0 : (List UInt8)) : Option ((List UInt8) × Int) :=
Option.bind (idx p0 0) fun x1 =>
Option.bind (idx p0 1) fun x3 =>
bif (decide ((wi ((wi (256 * (x1.toNat : Int))) + (x3.toNat : Int))) > (wi ((p0.length : Int) - 2)))) then (some ([], 11)) else (Option.bind (cutI p0 2 (wi (2 + (wi ((wi (256 * (x1.toNat : Int))) + (x3.toNat : Int)))))) fun x6 =>
Option.bind (m_R35_Pad x6 (p0.length : Int)) fun x8 =>
Option.bind (m_R01_Same x8.1 p0) fun x10 =>
bif (!x10) then (some ([], 11)) else (some (x6, 0)))

def m_R35_Unpad (p0 : (List UInt8)) : Option ((List UInt8) × Int) :=
bif ((p0.length : Int) != 120) then (bif ((p0.length : Int) != 1020) then (some ([], 11)) else (m_R35_Unpad_j1 p0)) else (m_R35_Unpad_j1 p0)

/-- bastille/bastillelaw35.RecordBlobs -/
def m_L35_RecordBlobs_j1 (p0 : (List UInt8)) : Option Bool :=
Option.bind (m_record_Unpad p0) fun x13 =>
Option.bind (m_R35_Unpad p0) fun x15 =>
bif (x13.2 == x15.2) then (Option.bind (m_R01_Same x13.1 x15.1) fun x18 =>
some x18) else (some false)

def m_L35_RecordBlobs (p0 : (List UInt8)) (p1 : Int) : Option Bool :=
Option.bind (m_L35_awake) fun x1 =>
bif (!x1) then (some false) else (bif (decide ((p0.length : Int) > 2000)) then (some true) else (Option.bind (m_record_Pad p0 p1) fun x5 =>
Option.bind (m_R35_Pad p0 p1) fun x7 =>
bif (x5.2 != x7.2) then (some false) else (Option.bind (m_R01_Same x5.1 x7.1) fun x10 =>
bif (!x10) then (some false) else (bif (x5.2 == 0) then (Option.bind (m_record_Unpad x5.1) fun x21 =>
bif (x21.2 != 0) then (some false) else (Option.bind (m_R01_Same x21.1 p0) fun x24 =>
bif (!x24) then (some false) else (m_L35_RecordBlobs_j1 p0))) else (m_L35_RecordBlobs_j1 p0)))))
end Go.Proofs.YteopjhakjeknaaaDoor
