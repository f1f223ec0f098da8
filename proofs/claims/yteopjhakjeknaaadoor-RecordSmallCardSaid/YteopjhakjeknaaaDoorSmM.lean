/-
  Texts joined: see the remarks at the head of each part.
-/
import Derived.Test.YteopjhakjeknaaaDoorCbM
import Derived.Test.YteopjhakjeknaaaDoorRcY
/-
  Models of functions: printed by a program of this claim's own (gen.py) off the given translation.
-/
namespace Go.Proofs.YteopjhakjeknaaaDoor
open Go Go.RowKit
set_option linter.unusedVariables false
/-- bastille/record.sized -/
def m_record_sized (p0 : Int) : Option Bool :=
bif (p0 == 120) then (some true) else (some (p0 == 1020))

/-- bastille/record.Pad -/
def m_record_Pad (p0 : (List UInt8)) (p1 : Int) : Option ((List UInt8) × Int) :=
Option.bind (m_record_sized p1) fun x1 =>
bif (!x1) then (some ([], 2)) else (bif (decide ((p0.length : Int) > (wi (p1 - 2)))) then (some ([], 3)) else (Option.bind (m_word_Put (p0.length : Int) 2) fun x5 =>
Option.bind (appI 1 x5.1 p0) fun x7 =>
Option.bind (apzI 1 x7.length (wi ((wi (p1 - 2)) - (p0.length : Int)))) fun x9 =>
some (x7 ++ List.replicate x9 (0 : UInt8), 0)))

/-- bastille/record.Small -/
def m_record_Small_j2 (x1 : V) (y4 : (List V)) : Option ((List UInt8) × Int) :=
Option.bind (m_codec_Encode (V.mk x1.k x1.n [] y4)) fun x5 =>
bif (x5.2 != 0) then (some ([], x5.2)) else (Option.bind (m_record_Pad x5.1 120) fun x8 =>
some (x8.1, x8.2))

def m_record_Small_l3 (p1 : (List (List UInt8))) (x1 : V) : Nat → (List V) → Int → Option ((List UInt8) × Int)
  | 0, _, _ => none
  | nl3 + 1, z10, z11 =>
    bif (decide (z11 < (p1.length : Int))) then (Option.bind (idx p1 z11) fun x13 =>
    Option.bind (m_codec_Raw x13) fun x15 =>
    Option.bind (appI 64 z10 [(V.mk x15.k x15.n x15.b [])]) fun x17 =>
    (m_record_Small_l3 p1 x1 nl3) x17 (wi (z11 + 1))) else (m_record_Small_j2 x1 z10)

def m_record_Small_j1 (p1 : (List (List UInt8))) (x1 : V) (y3 : (List V)) : Option ((List UInt8) × Int) :=
m_record_Small_l3 p1 x1 (p1.length + 1) y3 0

def m_record_Small_l4 (p0 : (List Int)) (p1 : (List (List UInt8))) (x1 : V) : Nat → (List V) → Int → Option ((List UInt8) × Int)
  | 0, _, _ => none
  | nl4 + 1, z19, z20 =>
    bif (decide (z20 < (p0.length : Int))) then (Option.bind (idx p0 z20) fun x22 =>
    Option.bind (m_codec_Num x22) fun x24 =>
    Option.bind (appI 64 z19 [(V.mk x24.k x24.n [] [])]) fun x26 =>
    (m_record_Small_l4 p0 p1 x1 nl4) x26 (wi (z20 + 1))) else (m_record_Small_j1 p1 x1 z19)

def m_record_Small (p0 : (List Int)) (p1 : (List (List UInt8))) : Option ((List UInt8) × Int) :=
Option.bind (m_codec_Of_n0) fun x1 =>
m_record_Small_l4 p0 p1 x1 (p0.length + 1) [] 0

/-- bastille/record.Key -/
def m_record_Key (p0 : (List (List UInt8))) : Option (List UInt8) :=
Option.bind (m_strings_Join p0 [47]) fun x1 =>
some x1

/-- bastille/record.Num -/
def m_record_Num (p0 : Int) : Option (List UInt8) :=
Option.bind (m_strconv_Itoa p0) fun x1 =>
some x1

/-- bastille/bastillelaw35.awake -/
def m_L35_awake : Option Bool :=
Option.bind (m_record_Small [3, 1] [[7]]) fun x1 =>
Option.bind (m_record_Key [[119], [102], [97]]) fun x3 =>
bif (x3 == [119, 47, 102, 47, 97]) then (Option.bind (m_record_Num 40) fun x6 =>
bif (x6 == [52, 48]) then (bif (x1.2 == 0) then (bif ((x1.1.length : Int) == 120) then (Option.bind (idx x1.1 1) fun x11 =>
some ((x11.toNat : Int) == 14)) else (some false)) else (some false)) else (some false)) else (some false)

/-- bastille/bastilleref35.Pad -/
def m_R35_Pad_j2 (y4 : (List UInt8)) : Option ((List UInt8) × Int) :=
some (y4, 0)

def m_R35_Pad_l3 (p1 : Int) : Nat → (List UInt8) → Option ((List UInt8) × Int)
  | 0, _ => none
  | nl3 + 1, z5 =>
    bif (decide ((z5.length : Int) < p1)) then (Option.bind (appI 1 z5 [0]) fun x7 =>
    (m_R35_Pad_l3 p1 nl3) x7) else (m_R35_Pad_j2 z5)

def m_R35_Pad_j1 (p0 : (List UInt8)) (p1 : Int) : Option ((List UInt8) × Int) :=
bif (decide ((p0.length : Int) > (wi (p1 - 2)))) then (some ([], 3)) else (Option.bind (appI 1 [(U8 (wi (Int.tdiv (p0.length : Int) 256))), (U8 (Int.tmod (p0.length : Int) 256))] p0) fun x2 =>
m_R35_Pad_l3 p1 (Int.toNat p1 + 1) x2)

def m_R35_Pad (p0 : (List UInt8)) (p1 : Int) : Option ((List UInt8) × Int) :=
bif (p1 != 120) then (bif (p1 != 1020) then (some ([], 2)) else (m_R35_Pad_j1 p0 p1)) else (m_R35_Pad_j1 p0 p1)

/-- slices.IndexFunc[[]byte,byte] -/
def m_slices_IndexFunc_byte_l1 (p0 : (List UInt8)) (p1 : (UInt8 → Option Bool)) : Nat → Int → Option Int
  | 0, _ => none
  | nl1 + 1, z1 =>
    bif (decide (z1 < (p0.length : Int))) then (Option.bind (idx p0 z1) fun x3 =>
    Option.bind (p1 x3) fun x5 =>
    bif x5 then (some z1) else ((m_slices_IndexFunc_byte_l1 p0 p1 nl1) (wi (z1 + 1)))) else (some (-1))

def m_slices_IndexFunc_byte (p0 : (List UInt8)) (p1 : (UInt8 → Option Bool)) : Option Int :=
m_slices_IndexFunc_byte_l1 p0 p1 (p0.length + 1) 0

/-- slices.ContainsFunc[[]byte,byte] -/
def m_slices_ContainsFunc_byte (p0 : (List UInt8)) (p1 : (UInt8 → Option Bool)) : Option Bool :=
Option.bind (m_slices_IndexFunc_byte p0 p1) fun x1 =>
some (decide (x1 ≥ 0))

/-- bastille/record.Unpad$1 -/
def m_record_Unpad_c1 (p0 : UInt8) : Option Bool :=
some ((p0.toNat : Int) != 0)

/-- bastille/record.Unpad -/
def m_record_Unpad (p0 : (List UInt8)) : Option ((List UInt8) × Int) :=
Option.bind (m_record_sized (p0.length : Int)) fun x1 =>
bif (!x1) then (some ([], 11)) else (Option.bind (cutI p0 0 2) fun x4 =>
Option.bind (m_word_Get x4) fun x6 =>
bif (decide (x6.1 > (wi ((p0.length : Int) - 2)))) then (some ([], 11)) else (Option.bind (cutI p0 (wi (2 + x6.1)) (p0.length : Int)) fun x9 =>
Option.bind (m_slices_ContainsFunc_byte x9 m_record_Unpad_c1) fun x11 =>
bif x11 then (some ([], 11)) else (Option.bind (cutI p0 2 (wi (2 + x6.1))) fun x14 =>
Option.bind (m_slices_Clone_byte x14) fun x16 =>
some (x16, 0))))

/-- bastille/bastilleref35.Unpad -/
def m_R35_Unpad_j1 (p0 : (List UInt8)) : Option ((List UInt8) × Int) :=
Option.bind (idx p0 0) fun x1 =>
Option.bind (idx p0 1) fun x3 =>
bif (decide ((wi ((wi (256 * (x1.toNat : Int))) + (x3.toNat : Int))) > (wi ((p0.length : Int) - 2)))) then (some ([], 11)) else (Option.bind (cutI p0 2 (wi (2 + (wi ((wi (256 * (x1.toNat : Int))) + (x3.toNat : Int)))))) fun x6 =>
Option.bind (m_R35_Pad x6 (p0.length : Int)) fun x8 =>
Option.bind (m_R01_Same x8.1 p0) fun x10 =>
bif (!x10) then (some ([], 11)) else (some (x6, 0)))

def m_R35_Unpad (p0 : (List UInt8)) : Option ((List UInt8) × Int) :=
bif ((p0.length : Int) != 120) then (bif ((p0.length : Int) != 1020) then (some ([], 11)) else (m_R35_Unpad_j1 p0)) else (m_R35_Unpad_j1 p0)

/-- bastille/bastillelaw35.RecordBlobs -/
def m_L35_RecordBlobs_j1 (p0 : (List UInt8)) : Option Bool :=
Option.bind (m_record_Unpad p0) fun x13 =>
Option.bind (m_R35_Unpad p0) fun x15 =>
bif (x13.2 == x15.2) then (Option.bind (m_R01_Same x13.1 x15.1) fun x18 =>
some x18) else (some false)

def m_L35_RecordBlobs (p0 : (List UInt8)) (p1 : Int) : Option Bool :=
Option.bind (m_L35_awake) fun x1 =>
bif (!x1) then (some false) else (bif (decide ((p0.length : Int) > 2000)) then (some true) else (Option.bind (m_record_Pad p0 p1) fun x5 =>
Option.bind (m_R35_Pad p0 p1) fun x7 =>
bif (x5.2 != x7.2) then (some false) else (Option.bind (m_R01_Same x5.1 x7.1) fun x10 =>
bif (!x10) then (some false) else (bif (x5.2 == 0) then (Option.bind (m_record_Unpad x5.1) fun x21 =>
bif (x21.2 != 0) then (some false) else (Option.bind (m_R01_Same x21.1 p0) fun x24 =>
bif (!x24) then (some false) else (m_L35_RecordBlobs_j1 p0))) else (m_L35_RecordBlobs_j1 p0)))))
end Go.Proofs.YteopjhakjeknaaaDoor

/-
  Models of functions: printed by a program of this claim's own (gen.py) off the given translation.
-/
namespace Go.Proofs.YteopjhakjeknaaaDoor
open Go Go.RowKit
set_option linter.unusedVariables false
/-- bastille/bastilleref35.Numbers -/
def m_R35_Numbers_l1 (p0 : (List Int)) : Nat → Int → Option Bool
  | 0, _ => none
  | nl1 + 1, z1 =>
    bif (decide (z1 < (p0.length : Int))) then (Option.bind (idx p0 z1) fun x3 =>
    bif (decide (x3 < 0)) then (some false) else (Option.bind (idx p0 z1) fun x6 =>
    bif (decide (x6 > 4611686018427387904)) then (some false) else ((m_R35_Numbers_l1 p0 nl1) (wi (z1 + 1))))) else (some true)

def m_R35_Numbers (p0 : (List Int)) : Option Bool :=
m_R35_Numbers_l1 p0 (p0.length + 1) 0

/-- bastille/bastilleref28.Num -/
def m_R28_Num (p0 : Int) : Option V :=
some (V.mk 1 p0 [] [])

/-- bastille/bastilleref28.Raw -/
def m_R28_Raw (p0 : (List UInt8)) : Option V :=
some (V.mk 2 0 p0 [])

/-- bastille/bastilleref28.Of -/
def m_R28_Of (p0 : (List V)) : Option V :=
some (V.mk 3 0 [] p0)

/-- bastille/bastilleref35.Record -/
def m_R35_Record_j2 (y2 : (List V)) : Option (List UInt8) :=
Option.bind (m_R28_Of y2) fun x3 =>
Option.bind (m_R02_Bytes (V.ht (V.mk x3.k x3.n [] x3.l)) (V.mk x3.k x3.n [] x3.l)) fun x5 =>
some x5

def m_R35_Record_l3 (p1 : (List (List UInt8))) : Nat → (List V) → Int → Option (List UInt8)
  | 0, _, _ => none
  | nl3 + 1, z7, z8 =>
    bif (decide (z8 < (p1.length : Int))) then (Option.bind (idx p1 z8) fun x10 =>
    Option.bind (m_R28_Raw x10) fun x12 =>
    Option.bind (appI 64 z7 [(V.mk x12.k x12.n x12.b [])]) fun x14 =>
    (m_R35_Record_l3 p1 nl3) x14 (wi (z8 + 1))) else (m_R35_Record_j2 z7)

def m_R35_Record_j1 (p1 : (List (List UInt8))) (y1 : (List V)) : Option (List UInt8) :=
m_R35_Record_l3 p1 (p1.length + 1) y1 0

def m_R35_Record_l4 (p0 : (List Int)) (p1 : (List (List UInt8))) : Nat → (List V) → Int → Option (List UInt8)
  | 0, _, _ => none
  | nl4 + 1, z16, z17 =>
    bif (decide (z17 < (p0.length : Int))) then (Option.bind (idx p0 z17) fun x19 =>
    Option.bind (m_R28_Num x19) fun x21 =>
    Option.bind (appI 64 z16 [(V.mk x21.k x21.n [] [])]) fun x23 =>
    (m_R35_Record_l4 p0 p1 nl4) x23 (wi (z17 + 1))) else (m_R35_Record_j1 p1 z16)

def m_R35_Record (p0 : (List Int)) (p1 : (List (List UInt8))) : Option (List UInt8) :=
m_R35_Record_l4 p0 p1 (p0.length + 1) [] 0

/-- bastille/record.ReadSmall -/
def m_record_ReadSmall_j1 (y12 : (List Int)) (y13 : (List (List UInt8))) : Option ((List Int) × (List (List UInt8)) × Int) :=
some (y12, y13, 0)

def m_record_ReadSmall_j3 (kl2 : (List Int) → (List (List UInt8)) → Int → Option ((List Int) × (List (List UInt8)) × Int)) (z14 : (List Int)) (x18 : V) (z15 : (List (List UInt8))) (z16 : Int) (p1 : Int) (y20 : Bool) : Option ((List Int) × (List (List UInt8)) × Int) :=
bif y20 then (Option.bind (appI 8 z14 [x18.n]) fun x22 =>
kl2 x22 z15 (wi (z16 + 1))) else (bif (decide (z16 ≥ p1)) then (bif (x18.k == 2) then (Option.bind (appI 24 z15 [x18.b]) fun x26 =>
kl2 z14 x26 (wi (z16 + 1))) else (some ([], [], 11))) else (some ([], [], 11)))

def m_record_ReadSmall_l2 (x5 : (V × Int)) (p1 : Int) : Nat → (List Int) → (List (List UInt8)) → Int → Option ((List Int) × (List (List UInt8)) × Int)
  | 0, _, _, _ => none
  | nl2 + 1, z14, z15, z16 =>
    bif (decide (z16 < (x5.1.l.length : Int))) then (Option.bind (idx x5.1.l z16) fun x18 =>
    bif (decide (z16 < p1)) then (m_record_ReadSmall_j3 (m_record_ReadSmall_l2 x5 p1 nl2) z14 x18 z15 z16 p1 (x18.k == 1)) else (m_record_ReadSmall_j3 (m_record_ReadSmall_l2 x5 p1 nl2) z14 x18 z15 z16 p1 false)) else (m_record_ReadSmall_j1 z14 z15)

def m_record_ReadSmall (p0 : (List UInt8)) (p1 : Int) (p2 : Int) : Option ((List Int) × (List (List UInt8)) × Int) :=
Option.bind (m_record_Unpad p0) fun x1 =>
bif (x1.2 != 0) then (some ([], [], 11)) else (bif ((p0.length : Int) != 120) then (some ([], [], 11)) else (Option.bind (m_codec_Decode x1.1) fun x5 =>
bif (x5.2 != 0) then (some ([], [], 11)) else (bif (x5.1.k != 3) then (some ([], [], 11)) else (bif (decide (p1 < 0)) then (some ([], [], 11)) else (bif (decide (p1 > (x5.1.l.length : Int))) then (some ([], [], 11)) else (bif ((wi ((x5.1.l.length : Int) - p1)) != p2) then (some ([], [], 11)) else (m_record_ReadSmall_l2 x5 p1 (x5.1.l.length + 1) [] [] 0)))))))

/-- bastille/bastilleref01.Ints -/
def m_R01_Ints_l1 (p0 : (List Int)) (p1 : (List Int)) : Nat → Int → Option Bool
  | 0, _ => none
  | nl1 + 1, z2 =>
    bif (decide (z2 < (p0.length : Int))) then (Option.bind (idx p0 z2) fun x4 =>
    Option.bind (idx p1 z2) fun x6 =>
    bif (x4 != x6) then (some false) else ((m_R01_Ints_l1 p0 p1 nl1) (wi (z2 + 1)))) else (some true)

def m_R01_Ints (p0 : (List Int)) (p1 : (List Int)) : Option Bool :=
bif ((p0.length : Int) != (p1.length : Int)) then (some false) else (m_R01_Ints_l1 p0 p1 (p0.length + 1) 0)

/-- bastille/bastillelaw35.same -/
def m_L35_same_l1 (p0 : (List (List UInt8))) (p1 : (List (List UInt8))) : Nat → Int → Option Bool
  | 0, _ => none
  | nl1 + 1, z2 =>
    bif (decide (z2 < (p0.length : Int))) then (Option.bind (idx p0 z2) fun x4 =>
    Option.bind (idx p1 z2) fun x6 =>
    Option.bind (m_R01_Same x4 x6) fun x8 =>
    bif (!x8) then (some false) else ((m_L35_same_l1 p0 p1 nl1) (wi (z2 + 1)))) else (some true)

def m_L35_same (p0 : (List (List UInt8))) (p1 : (List (List UInt8))) : Option Bool :=
bif ((p0.length : Int) != (p1.length : Int)) then (some false) else (m_L35_same_l1 p0 p1 (p0.length + 1) 0)

/-- bastille/bastilleref35.ReadSmall -/
def m_R35_ReadSmall_j1 (y14 : (List Int)) (y15 : (List (List UInt8))) : Option ((List Int) × (List (List UInt8)) × Int) :=
some (y14, y15, 0)

def m_R35_ReadSmall_j3 (kl2 : (List Int) → (List (List UInt8)) → Int → Option ((List Int) × (List (List UInt8)) × Int)) (z18 : Int) (y20 : (List Int)) (y21 : (List (List UInt8))) : Option ((List Int) × (List (List UInt8)) × Int) :=
kl2 y20 y21 (wi (z18 + 1))

def m_R35_ReadSmall_l2 (x5 : (V × Int)) (p1 : Int) : Nat → (List Int) → (List (List UInt8)) → Int → Option ((List Int) × (List (List UInt8)) × Int)
  | 0, _, _, _ => none
  | nl2 + 1, z16, z17, z18 =>
    bif (decide (z18 < (x5.1.l.length : Int))) then (bif (decide (z18 < p1)) then (Option.bind (idx x5.1.l z18) fun x23 =>
    bif (x23.k != 1) then (some ([], [], 11)) else (Option.bind (idx x5.1.l z18) fun x26 =>
    Option.bind (appI 8 z16 [x26.n]) fun x28 =>
    m_R35_ReadSmall_j3 (m_R35_ReadSmall_l2 x5 p1 nl2) z18 x28 z17)) else (Option.bind (idx x5.1.l z18) fun x30 =>
    bif (x30.k != 2) then (some ([], [], 11)) else (Option.bind (idx x5.1.l z18) fun x33 =>
    Option.bind (appI 24 z17 [x33.b]) fun x35 =>
    m_R35_ReadSmall_j3 (m_R35_ReadSmall_l2 x5 p1 nl2) z18 z16 x35))) else (m_R35_ReadSmall_j1 z16 z17)

def m_R35_ReadSmall (p0 : (List UInt8)) (p1 : Int) (p2 : Int) : Option ((List Int) × (List (List UInt8)) × Int) :=
Option.bind (m_R35_Unpad p0) fun x1 =>
bif (x1.2 != 0) then (some ([], [], 11)) else (bif ((p0.length : Int) != 120) then (some ([], [], 11)) else (Option.bind (m_R02_Decode x1.1) fun x5 =>
bif (x5.2 != 0) then (some ([], [], 11)) else (bif (x5.1.k != 3) then (some ([], [], 11)) else (bif (decide (p1 < 0)) then (some ([], [], 11)) else (bif (decide (p2 < 0)) then (some ([], [], 11)) else (bif (decide (p1 > 4096)) then (some ([], [], 11)) else (bif (decide (p2 > 4096)) then (some ([], [], 11)) else (bif ((x5.1.l.length : Int) != (wi (p1 + p2))) then (some ([], [], 11)) else (m_R35_ReadSmall_l2 x5 p1 (x5.1.l.length + 1) [] [] 0)))))))))

/-- bastille/bastillelaw35.RecordSmall -/
def m_L35_RecordSmall_j3 (p2 : (List UInt8)) (p0 : (List Int)) (p1 : (List (List UInt8))) : Option Bool :=
Option.bind (m_record_ReadSmall p2 (p0.length : Int) (p1.length : Int)) fun x9 =>
Option.bind (m_R35_ReadSmall p2 (p0.length : Int) (p1.length : Int)) fun x11 =>
bif (x9.2.2 == x11.2.2) then (Option.bind (m_R01_Ints x9.1 x11.1) fun x14 =>
bif x14 then (Option.bind (m_L35_same x9.2.1 x11.2.1) fun x17 =>
some x17) else (some false)) else (some false)

def m_L35_RecordSmall_j2 (x7 : ((List UInt8) × Int)) (p0 : (List Int)) (p1 : (List (List UInt8))) (p2 : (List UInt8)) : Option Bool :=
bif (x7.2 == 0) then (Option.bind (m_record_ReadSmall x7.1 (p0.length : Int) (p1.length : Int)) fun x20 =>
bif (x20.2.2 != 0) then (some false) else (Option.bind (m_R01_Ints x20.1 p0) fun x23 =>
bif (!x23) then (some false) else (Option.bind (m_L35_same x20.2.1 p1) fun x26 =>
bif (!x26) then (some false) else (m_L35_RecordSmall_j3 p2 p0 p1)))) else (m_L35_RecordSmall_j3 p2 p0 p1)

def m_L35_RecordSmall_j1 (p0 : (List Int)) (p1 : (List (List UInt8))) (p2 : (List UInt8)) : Option Bool :=
Option.bind (m_record_Small p0 p1) fun x7 =>
Option.bind (m_R35_Numbers p0) fun x29 =>
bif (!x29) then (bif (x7.2 != 2) then (some false) else (bif (decide ((x7.1.length : Int) > 0)) then (some false) else (m_L35_RecordSmall_j2 x7 p0 p1 p2))) else (Option.bind (m_R35_Record p0 p1) fun x34 =>
Option.bind (m_R35_Pad x34 120) fun x36 =>
bif (x7.2 != x36.2) then (some false) else (Option.bind (m_R01_Same x7.1 x36.1) fun x39 =>
bif (!x39) then (some false) else (m_L35_RecordSmall_j2 x7 p0 p1 p2)))

def m_L35_RecordSmall_l4 (p1 : (List (List UInt8))) (p0 : (List Int)) (p2 : (List UInt8)) : Nat → Int → Option Bool
  | 0, _ => none
  | nl4 + 1, z42 =>
    bif (decide (z42 < (p1.length : Int))) then (Option.bind (idx p1 z42) fun x44 =>
    bif (decide ((x44.length : Int) > 300)) then (some true) else ((m_L35_RecordSmall_l4 p1 p0 p2 nl4) (wi (z42 + 1)))) else (m_L35_RecordSmall_j1 p0 p1 p2)

def m_L35_RecordSmall (p0 : (List Int)) (p1 : (List (List UInt8))) (p2 : (List UInt8)) : Option Bool :=
Option.bind (m_L35_awake) fun x1 =>
bif (!x1) then (some false) else (bif (decide ((p0.length : Int) > 40)) then (some true) else (bif (decide ((p1.length : Int) > 40)) then (some true) else (bif (decide ((p2.length : Int) > 2000)) then (some true) else (m_L35_RecordSmall_l4 p1 p0 p2 (p1.length + 1) 0))))
end Go.Proofs.YteopjhakjeknaaaDoor
