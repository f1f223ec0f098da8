/-
  Texts joined: see the remarks at the head of each part.
-/
import Derived.Test.YteopjhakjeknaaaDoorCbM
import Derived.Test.YteopjhakjeknaaaDoorRcY
/-
  Models of functions: printed by a program of this claim's own (gen.py) off the given translation.
-/
namespace Go.Proofs.YteopjhakjeknaaaDoor
open Go Go.RowKit
set_option linter.unusedVariables false
/-- bastille/record.sized -/
def m_record_sized (p0 : Int) : Option Bool :=
bif (p0 == 120) then (some true) else (some (p0 == 1020))

/-- bastille/record.Pad -/
def m_record_Pad (p0 : (List UInt8)) (p1 : Int) : Option ((List UInt8) × Int) :=
Option.bind (m_record_sized p1) fun x1 =>
bif (!x1) then (some ([], 2)) else (bif (decide ((p0.length : Int) > (wi (p1 - 2)))) then (some ([], 3)) else (Option.bind (m_word_Put (p0.length : Int) 2) fun x5 =>
Option.bind (appI 1 x5.1 p0) fun x7 =>
Option.bind (apzI 1 x7.length (wi ((wi (p1 - 2)) - (p0.length : Int)))) fun x9 =>
some (x7 ++ List.replicate x9 (0 : UInt8), 0)))

/-- bastille/record.Small -/
def m_record_Small_j2 (x1 : V) (y4 : (List V)) : Option ((List UInt8) × Int) :=
Option.bind (m_codec_Encode (V.mk x1.k x1.n [] y4)) fun x5 =>
bif (x5.2 != 0) then (some ([], x5.2)) else (Option.bind (m_record_Pad x5.1 120) fun x8 =>
some (x8.1, x8.2))

def m_record_Small_l3 (p1 : (List (List UInt8))) (x1 : V) : Nat → (List V) → Int → Option ((List UInt8) × Int)
  | 0, _, _ => none
  | nl3 + 1, z10, z11 =>
    bif (decide (z11 < (p1.length : Int))) then (Option.bind (idx p1 z11) fun x13 =>
    Option.bind (m_codec_Raw x13) fun x15 =>
    Option.bind (appI 64 z10 [(V.mk x15.k x15.n x15.b [])]) fun x17 =>
    (m_record_Small_l3 p1 x1 nl3) x17 (wi (z11 + 1))) else (m_record_Small_j2 x1 z10)

def m_record_Small_j1 (p1 : (List (List UInt8))) (x1 : V) (y3 : (List V)) : Option ((List UInt8) × Int) :=
m_record_Small_l3 p1 x1 (p1.length + 1) y3 0

def m_record_Small_l4 (p0 : (List Int)) (p1 : (List (List UInt8))) (x1 : V) : Nat → (List V) → Int → Option ((List UInt8) × Int)
  | 0, _, _ => none
  | nl4 + 1, z19, z20 =>
    bif (decide (z20 < (p0.length : Int))) then (Option.bind (idx p0 z20) fun x22 =>
    Option.bind (m_codec_Num x22) fun x24 =>
    Option.bind (appI 64 z19 [(V.mk x24.k x24.n [] [])]) fun x26 =>
    (m_record_Small_l4 p0 p1 x1 nl4) x26 (wi (z20 + 1))) else (m_record_Small_j1 p1 x1 z19)

def m_record_Small (p0 : (List Int)) (p1 : (List (List UInt8))) : Option ((List UInt8) × Int) :=
Option.bind (m_codec_Of_n0) fun x1 =>
m_record_Small_l4 p0 p1 x1 (p0.length + 1) [] 0

/-- bastille/record.Key -/
def m_record_Key (p0 : (List (List UInt8))) : Option (List UInt8) :=
Option.bind (m_strings_Join p0 [47]) fun x1 =>
some x1

/-- bastille/record.Num -/
def m_record_Num (p0 : Int) : Option (List UInt8) :=
Option.bind (m_strconv_Itoa p0) fun x1 =>
some x1

/-- bastille/bastillelaw35.awake -/
def m_L35_awake : Option Bool :=
Option.bind (m_record_Small [3, 1] [[7]]) fun x1 =>
Option.bind (m_record_Key [[119], [102], [97]]) fun x3 =>
bif (x3 == [119, 47, 102, 47, 97]) then (Option.bind (m_record_Num 40) fun x6 =>
bif (x6 == [52, 48]) then (bif (x1.2 == 0) then (bif ((x1.1.length : Int) == 120) then (Option.bind (idx x1.1 1) fun x11 =>
some ((x11.toNat : Int) == 14)) else (some false)) else (some false)) else (some false)) else (some false)

/-- bastille/bastilleref35.Pad -/
def m_R35_Pad_j2 (y4 : (List UInt8)) : Option ((List UInt8) × Int) :=
some (y4, 0)

def m_R35_Pad_l3 (p1 : Int) : Nat → (List UInt8) → Option ((List UInt8) × Int)
  | 0, _ => none
  | nl3 + 1, z5 =>
    bif (decide ((z5.length : Int) < p1)) then (Option.bind (appI 1 z5 [0]) fun x7 =>
    (m_R35_Pad_l3 p1 nl3) x7) else (m_R35_Pad_j2 z5)

def m_R35_Pad_j1 (p0 : (List UInt8)) (p1 : Int) : Option ((List UInt8) × Int) :=
bif (decide ((p0.length : Int) > (wi (p1 - 2)))) then (some ([], 3)) else (Option.bind (appI 1 [(U8 (wi (Int.tdiv (p0.length : Int) 256))), (U8 (Int.tmod (p0.length : Int) 256))] p0) fun x2 =>
m_R35_Pad_l3 p1 (Int.toNat p1 + 1) x2)

def m_R35_Pad (p0 : (List UInt8)) (p1 : Int) : Option ((List UInt8) × Int) :=
bif (p1 != 120) then (bif (p1 != 1020) then (some ([], 2)) else (m_R35_Pad_j1 p0 p1)) else (m_R35_Pad_j1 p0 p1)

/-- slices.IndexFunc[[]byte,byte] -/
def m_slices_IndexFunc_byte_l1 (p0 : (List UInt8)) (p1 : (UInt8 → Option Bool)) : Nat → Int → Option Int
  | 0, _ => none
  | nl1 + 1, z1 =>
    bif (decide (z1 < (p0.length : Int))) then (Option.bind (idx p0 z1) fun x3 =>
    Option.bind (p1 x3) fun x5 =>
    bif x5 then (some z1) else ((m_slices_IndexFunc_byte_l1 p0 p1 nl1) (wi (z1 + 1)))) else (some (-1))

def m_slices_IndexFunc_byte (p0 : (List UInt8)) (p1 : (UInt8 → Option Bool)) : Option Int :=
m_slices_IndexFunc_byte_l1 p0 p1 (p0.length + 1) 0

/-- slices.ContainsFunc[[]byte,byte] -/
def m_slices_ContainsFunc_byte (p0 : (List UInt8)) (p1 : (UInt8 → Option Bool)) : Option Bool :=
Option.bind (m_slices_IndexFunc_byte p0 p1) fun x1 =>
some (decide (x1 ≥ 0))

/-- bastille/record.Unpad$1 -/
def m_record_Unpad_c1 (p0 : UInt8) : Option Bool :=
some ((p0.toNat : Int) != 0)

/-- bastille/record.Unpad -/
def m_record_Unpad (p0 : (List UInt8)) : Option ((List UInt8) × Int) :=
Option.bind (m_record_sized (p0.length : Int)) fun x1 =>
bif (!x1) then (some ([], 11)) else (Option.bind (cutI p0 0 2) fun x4 =>
Option.bind (m_word_Get x4) fun x6 =>
bif (decide (x6.1 > (wi ((p0.length : Int) - 2)))) then (some ([], 11)) else (Option.bind (cutI p0 (wi (2 + x6.1)) (p0.length : Int)) fun x9 =>
Option.bind (m_slices_ContainsFunc_byte x9 m_record_Unpad_c1) fun x11 =>
bif x11 then (some ([], 11)) else (Option.bind (cutI p0 2 (wi (2 + x6.1))) fun x14 =>
Option.bind (m_slices_Clone_byte x14) fun x16 =>
some (x16, 0))))

/-- bastille/bastilleref35.Unpad -/
def m_R35_Unpad_j1 (p0 : (List UInt8)) : Option ((List UInt8) × Int) :=
Option.bind (idx p0 0) fun x1 =>
Option.bind (idx p0 1) fun x3 =>
bif (decide ((wi ((wi (256 * (x1.toNat : Int))) + (x3.toNat : Int))) > (wi ((p0.length : Int) - 2)))) then (some ([], 11)) else (Option.bind (cutI p0 2 (wi (2 + (wi ((wi (256 * (x1.toNat : Int))) + (x3.toNat : Int)))))) fun x6 =>
Option.bind (m_R35_Pad x6 (p0.length : Int)) fun x8 =>
Option.bind (m_R01_Same x8.1 p0) fun x10 =>
bif (!x10) then (some ([], 11)) else (some (x6, 0)))

def m_R35_Unpad (p0 : (List UInt8)) : Option ((List UInt8) × Int) :=
bif ((p0.length : Int) != 120) then (bif ((p0.length : Int) != 1020) then (some ([], 11)) else (m_R35_Unpad_j1 p0)) else (m_R35_Unpad_j1 p0)

/-- bastille/bastillelaw35.RecordBlobs -/
def m_L35_RecordBlobs_j1 (p0 : (List UInt8)) : Option Bool :=
Option.bind (m_record_Unpad p0) fun x13 =>
Option.bind (m_R35_Unpad p0) fun x15 =>
bif (x13.2 == x15.2) then (Option.bind (m_R01_Same x13.1 x15.1) fun x18 =>
some x18) else (some false)

def m_L35_RecordBlobs (p0 : (List UInt8)) (p1 : Int) : Option Bool :=
Option.bind (m_L35_awake) fun x1 =>
bif (!x1) then (some false) else (bif (decide ((p0.length : Int) > 2000)) then (some true) else (Option.bind (m_record_Pad p0 p1) fun x5 =>
Option.bind (m_R35_Pad p0 p1) fun x7 =>
bif (x5.2 != x7.2) then (some false) else (Option.bind (m_R01_Same x5.1 x7.1) fun x10 =>
bif (!x10) then (some false) else (bif (x5.2 == 0) then (Option.bind (m_record_Unpad x5.1) fun x21 =>
bif (x21.2 != 0) then (some false) else (Option.bind (m_R01_Same x21.1 p0) fun x24 =>
bif (!x24) then (some false) else (m_L35_RecordBlobs_j1 p0))) else (m_L35_RecordBlobs_j1 p0)))))
end Go.Proofs.YteopjhakjeknaaaDoor

/-
  Models of functions: printed by a program of this claim's own (gen.py) off the given translation.
-/
namespace Go.Proofs.YteopjhakjeknaaaDoor
open Go Go.RowKit
set_option linter.unusedVariables false
structure S_api_VersionRecord where
  Folder : (List UInt8)
  Item : (List UInt8)
  Number : Int
  Epoch : Int
  Seq : Int
  Digest : (List UInt8)
  Gone : Bool
  Lock : (List UInt8)
  Body : (List UInt8)
  By : (List UInt8)

/-- bastille/record.seq -/
def m_record_seq (p0 : Int) : Option Bool :=
bif (decide (p0 ≥ 1)) then (some (decide (p0 ≤ 1099511627776))) else (some false)

/-- bastille/record.long -/
def m_record_long (p0 : (List UInt8)) (p1 : Int) : Option Bool :=
bif (decide ((p0.length : Int) ≥ 1)) then (some (decide ((p0.length : Int) ≤ p1))) else (some false)

/-- bastille/record.mayVersion -/
def m_record_mayVersion_j2 (p0 : S_api_VersionRecord) (y3 : Bool) : Option Bool :=
bif y3 then (some false) else (bif p0.Gone then (some ((wi ((p0.Lock.length : Int) + (p0.Body.length : Int))) == 0)) else (Option.bind (m_record_long p0.Lock 100) fun x6 =>
bif x6 then (Option.bind (m_record_long p0.Body 600) fun x9 =>
some x9) else (some false)))

def m_record_mayVersion_j1 (p0 : S_api_VersionRecord) (y1 : Bool) : Option Bool :=
bif y1 then (some false) else (bif (decide (p0.Number < 1)) then (m_record_mayVersion_j2 p0 true) else (bif (decide (p0.Number > 256)) then (m_record_mayVersion_j2 p0 true) else (Option.bind (m_record_seq p0.Epoch) fun x13 =>
bif (!x13) then (m_record_mayVersion_j2 p0 true) else (Option.bind (m_record_seq p0.Seq) fun x16 =>
bif (!x16) then (m_record_mayVersion_j2 p0 true) else (Option.bind (m_record_long p0.Digest 64) fun x19 =>
m_record_mayVersion_j2 p0 (!x19))))))

def m_record_mayVersion (p0 : S_api_VersionRecord) : Option Bool :=
Option.bind (m_tree_Name p0.Folder) fun x21 =>
bif (!x21) then (m_record_mayVersion_j1 p0 true) else (Option.bind (m_tree_Name p0.Item) fun x24 =>
bif (!x24) then (m_record_mayVersion_j1 p0 true) else (Option.bind (m_tree_Name p0.By) fun x27 =>
m_record_mayVersion_j1 p0 (!x27)))

/-- bastille/record.text -/
def m_record_text (p0 : (List UInt8)) : Option V :=
Option.bind (strB p0) fun x1 =>
Option.bind (m_codec_Raw x1) fun x3 =>
some (V.mk x3.k x3.n x3.b [])

/-- bastille/record.VersionText -/
def m_record_VersionText_j1 (p0 : S_api_VersionRecord) (y4 : Int) : Option ((List UInt8) × Int) :=
Option.bind (m_record_text [118, 101, 114, 115, 105, 111, 110]) fun x5 =>
Option.bind (m_record_text p0.Folder) fun x7 =>
Option.bind (m_record_text p0.Item) fun x9 =>
Option.bind (m_codec_Num p0.Number) fun x11 =>
Option.bind (m_codec_Num p0.Epoch) fun x13 =>
Option.bind (m_codec_Num p0.Seq) fun x15 =>
Option.bind (m_codec_Raw p0.Digest) fun x17 =>
Option.bind (m_codec_Num y4) fun x19 =>
Option.bind (m_codec_Raw p0.Lock) fun x21 =>
Option.bind (m_codec_Raw p0.Body) fun x23 =>
Option.bind (m_record_text p0.By) fun x25 =>
Option.bind (m_codec_Of [(V.mk x5.k x5.n x5.b []), (V.mk x7.k x7.n x7.b []), (V.mk x9.k x9.n x9.b []), (V.mk x11.k x11.n [] []), (V.mk x13.k x13.n [] []), (V.mk x15.k x15.n [] []), (V.mk x17.k x17.n x17.b []), (V.mk x19.k x19.n [] []), (V.mk x21.k x21.n x21.b []), (V.mk x23.k x23.n x23.b []), (V.mk x25.k x25.n x25.b [])]) fun x27 =>
Option.bind (m_codec_Encode (V.mk x27.k x27.n [] x27.l)) fun x29 =>
some (x29.1, x29.2)

def m_record_VersionText (p0 : S_api_VersionRecord) : Option ((List UInt8) × Int) :=
Option.bind (m_record_mayVersion p0) fun x1 =>
bif (!x1) then (some ([], 2)) else (bif p0.Gone then (m_record_VersionText_j1 p0 1) else (m_record_VersionText_j1 p0 0))

/-- bastille/bastilleref35.in -/
def m_R35_in (p0 : Int) (p1 : Int) (p2 : Int) : Option Bool :=
bif (decide (p0 ≥ p1)) then (some (decide (p0 ≤ p2))) else (some false)

/-- bastille/bastilleref35.MayVersion -/
def m_R35_MayVersion (p0 : S_api_VersionRecord) : Option Bool :=
Option.bind (m_R25_Name p0.Folder) fun x1 =>
bif (!x1) then (some false) else (Option.bind (m_R25_Name p0.Item) fun x4 =>
bif (!x4) then (some false) else (Option.bind (m_R25_Name p0.By) fun x7 =>
bif (!x7) then (some false) else (Option.bind (m_R35_in p0.Number 1 256) fun x10 =>
bif (!x10) then (some false) else (Option.bind (m_R35_in p0.Epoch 1 1099511627776) fun x13 =>
bif (!x13) then (some false) else (Option.bind (m_R35_in p0.Seq 1 1099511627776) fun x16 =>
bif (!x16) then (some false) else (Option.bind (m_R35_in (p0.Digest.length : Int) 1 64) fun x19 =>
bif (!x19) then (some false) else (bif p0.Gone then (bif ((p0.Lock.length : Int) == 0) then (some ((p0.Body.length : Int) == 0)) else (some false)) else (Option.bind (m_R35_in (p0.Lock.length : Int) 1 100) fun x24 =>
bif x24 then (Option.bind (m_R35_in (p0.Body.length : Int) 1 600) fun x27 =>
some x27) else (some false)))))))))

/-- bastille/record.ReadVersion -/
def m_record_ReadVersion (p0 : (List UInt8)) : Option (S_api_VersionRecord × Int) :=
Option.bind (m_codec_Decode p0) fun x1 =>
bif (x1.2 != 0) then (some ((S_api_VersionRecord.mk [] [] 0 0 0 [] false [] [] []), x1.2)) else (Option.bind (m_codec_Fields x1.1 [2, 2, 2, 1, 1, 1, 2, 1, 2, 2, 2]) fun x4 =>
bif (!x4.2) then (some ((S_api_VersionRecord.mk [] [] 0 0 0 [] false [] [] []), 11)) else (Option.bind (idx x4.1 0) fun x7 =>
bif (!(x7.b == [118, 101, 114, 115, 105, 111, 110])) then (some ((S_api_VersionRecord.mk [] [] 0 0 0 [] false [] [] []), 11)) else (Option.bind (idx x4.1 7) fun x10 =>
bif (decide (x10.n > 1)) then (some ((S_api_VersionRecord.mk [] [] 0 0 0 [] false [] [] []), 11)) else (Option.bind (idx x4.1 1) fun x13 =>
Option.bind (idx x4.1 2) fun x15 =>
Option.bind (idx x4.1 3) fun x17 =>
Option.bind (idx x4.1 4) fun x19 =>
Option.bind (idx x4.1 5) fun x21 =>
Option.bind (idx x4.1 6) fun x23 =>
Option.bind (idx x4.1 7) fun x25 =>
Option.bind (idx x4.1 8) fun x27 =>
Option.bind (idx x4.1 9) fun x29 =>
Option.bind (idx x4.1 10) fun x31 =>
Option.bind (m_record_mayVersion (S_api_VersionRecord.mk x13.b x15.b x17.n x19.n x21.n x23.b (x25.n == 1) x27.b x29.b x31.b)) fun x33 =>
bif (!x33) then (some ((S_api_VersionRecord.mk [] [] 0 0 0 [] false [] [] []), 11)) else (some ((S_api_VersionRecord.mk x13.b x15.b x17.n x19.n x21.n x23.b (x25.n == 1) x27.b x29.b x31.b), 0))))))

/-- bastille/bastilleref28.Num -/
def m_R28_Num (p0 : Int) : Option V :=
some (V.mk 1 p0 [] [])

/-- bastille/bastilleref28.Raw -/
def m_R28_Raw (p0 : (List UInt8)) : Option V :=
some (V.mk 2 0 p0 [])

/-- bastille/bastilleref28.Of -/
def m_R28_Of (p0 : (List V)) : Option V :=
some (V.mk 3 0 [] p0)

/-- bastille/bastilleref35.text -/
def m_R35_text (p0 : (List UInt8)) : Option V :=
Option.bind (strB p0) fun x1 =>
Option.bind (m_R28_Raw x1) fun x3 =>
some (V.mk x3.k x3.n x3.b [])

/-- bastille/bastilleref35.VersionText -/
def m_R35_VersionText_j1 (p0 : S_api_VersionRecord) (y1 : Int) : Option (List UInt8) :=
Option.bind (m_R35_text [118, 101, 114, 115, 105, 111, 110]) fun x2 =>
Option.bind (m_R35_text p0.Folder) fun x4 =>
Option.bind (m_R35_text p0.Item) fun x6 =>
Option.bind (m_R28_Num p0.Number) fun x8 =>
Option.bind (m_R28_Num p0.Epoch) fun x10 =>
Option.bind (m_R28_Num p0.Seq) fun x12 =>
Option.bind (m_R28_Raw p0.Digest) fun x14 =>
Option.bind (m_R28_Num y1) fun x16 =>
Option.bind (m_R28_Raw p0.Lock) fun x18 =>
Option.bind (m_R28_Raw p0.Body) fun x20 =>
Option.bind (m_R35_text p0.By) fun x22 =>
Option.bind (m_R28_Of [(V.mk x2.k x2.n x2.b []), (V.mk x4.k x4.n x4.b []), (V.mk x6.k x6.n x6.b []), (V.mk x8.k x8.n [] []), (V.mk x10.k x10.n [] []), (V.mk x12.k x12.n [] []), (V.mk x14.k x14.n x14.b []), (V.mk x16.k x16.n [] []), (V.mk x18.k x18.n x18.b []), (V.mk x20.k x20.n x20.b []), (V.mk x22.k x22.n x22.b [])]) fun x24 =>
Option.bind (m_R02_Bytes (V.ht (V.mk x24.k x24.n [] x24.l)) (V.mk x24.k x24.n [] x24.l)) fun x26 =>
some x26

def m_R35_VersionText (p0 : S_api_VersionRecord) : Option (List UInt8) :=
bif p0.Gone then (m_R35_VersionText_j1 p0 1) else (m_R35_VersionText_j1 p0 0)

/-- bastille/bastilleref35.SameVersion -/
def m_R35_SameVersion (p0 : S_api_VersionRecord) (p1 : S_api_VersionRecord) : Option Bool :=
bif (!(p0.Folder == p1.Folder)) then (some false) else (bif (!(p0.Item == p1.Item)) then (some false) else (bif (p0.Number != p1.Number) then (some false) else (bif (p0.Epoch != p1.Epoch) then (some false) else (bif (p0.Seq != p1.Seq) then (some false) else (bif (!(p0.Gone == p1.Gone)) then (some false) else (bif (!(p0.By == p1.By)) then (some false) else (Option.bind (m_R01_Same p0.Digest p1.Digest) fun x8 =>
bif x8 then (Option.bind (m_R01_Same p0.Lock p1.Lock) fun x11 =>
bif x11 then (Option.bind (m_R01_Same p0.Body p1.Body) fun x14 =>
some x14) else (some false)) else (some false))))))))

/-- bastille/bastilleref35.ReadVersion -/
def m_R35_ReadVersion (p0 : (List UInt8)) : Option (S_api_VersionRecord × Int) :=
Option.bind (m_R02_Decode p0) fun x1 =>
bif (x1.2 != 0) then (some ((S_api_VersionRecord.mk [] [] 0 0 0 [] false [] [] []), x1.2)) else (Option.bind (m_R28_Kinds x1.1 [2, 2, 2, 1, 1, 1, 2, 1, 2, 2, 2]) fun x4 =>
bif (!x4) then (some ((S_api_VersionRecord.mk [] [] 0 0 0 [] false [] [] []), 11)) else (Option.bind (idx x1.1.l 1) fun x7 =>
Option.bind (idx x1.1.l 2) fun x9 =>
Option.bind (idx x1.1.l 3) fun x11 =>
Option.bind (idx x1.1.l 4) fun x13 =>
Option.bind (idx x1.1.l 5) fun x15 =>
Option.bind (idx x1.1.l 6) fun x17 =>
Option.bind (idx x1.1.l 7) fun x19 =>
Option.bind (idx x1.1.l 8) fun x21 =>
Option.bind (idx x1.1.l 9) fun x23 =>
Option.bind (idx x1.1.l 10) fun x25 =>
Option.bind (m_R35_MayVersion (S_api_VersionRecord.mk x7.b x9.b x11.n x13.n x15.n x17.b (x19.n == 1) x21.b x23.b x25.b)) fun x27 =>
bif (!x27) then (some ((S_api_VersionRecord.mk [] [] 0 0 0 [] false [] [] []), 11)) else (Option.bind (m_R35_VersionText (S_api_VersionRecord.mk x7.b x9.b x11.n x13.n x15.n x17.b (x19.n == 1) x21.b x23.b x25.b)) fun x30 =>
Option.bind (m_R01_Same x30 p0) fun x32 =>
bif (!x32) then (some ((S_api_VersionRecord.mk [] [] 0 0 0 [] false [] [] []), 11)) else (some ((S_api_VersionRecord.mk x7.b x9.b x11.n x13.n x15.n x17.b (x19.n == 1) x21.b x23.b x25.b), 0)))))

/-- bastille/bastillelaw35.RecordVersion -/
def m_L35_RecordVersion_j1 (p1 : (List UInt8)) : Option Bool :=
Option.bind (m_record_ReadVersion p1) fun x13 =>
Option.bind (m_R35_ReadVersion p1) fun x15 =>
bif (x13.2 != x15.2) then (some false) else (Option.bind (m_R35_SameVersion x13.1 x15.1) fun x18 =>
bif (!x18) then (some false) else (Option.bind (m_record_VersionText x13.1) fun x21 =>
bif (x13.2 != 0) then (some true) else (bif (x21.2 == 0) then (Option.bind (m_R01_Same x21.1 p1) fun x25 =>
some x25) else (some false))))

def m_L35_RecordVersion (p0 : S_api_VersionRecord) (p1 : (List UInt8)) : Option Bool :=
Option.bind (m_L35_awake) fun x1 =>
bif (!x1) then (some false) else (bif (decide ((p0.Folder.length : Int) > 20)) then (some true) else (bif (decide ((p0.Item.length : Int) > 20)) then (some true) else (bif (decide ((p0.By.length : Int) > 20)) then (some true) else (bif (decide ((p0.Digest.length : Int) > 100)) then (some true) else (bif (decide ((p0.Lock.length : Int) > 200)) then (some true) else (bif (decide ((p0.Body.length : Int) > 700)) then (some true) else (bif (decide ((p1.length : Int) > 1500)) then (some true) else (Option.bind (m_record_VersionText p0) fun x11 =>
Option.bind (m_R35_MayVersion p0) fun x27 =>
bif x27 then (Option.bind (m_record_ReadVersion x11.1) fun x30 =>
bif (x11.2 != 0) then (some false) else (Option.bind (m_R35_VersionText p0) fun x33 =>
Option.bind (m_R01_Same x11.1 x33) fun x35 =>
bif (!x35) then (some false) else (bif (x30.2 != 0) then (some false) else (Option.bind (m_R35_SameVersion x30.1 p0) fun x39 =>
bif (!x39) then (some false) else (m_L35_RecordVersion_j1 p1))))) else (bif (x11.2 != 2) then (some false) else (bif (decide ((x11.1.length : Int) > 0)) then (some false) else (m_L35_RecordVersion_j1 p1)))))))))))
end Go.Proofs.YteopjhakjeknaaaDoor
