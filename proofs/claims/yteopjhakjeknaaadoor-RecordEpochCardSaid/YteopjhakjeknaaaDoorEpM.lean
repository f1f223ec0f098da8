/-
  Texts joined: see the remarks at the head of each part.
-/
import Derived.Test.YteopjhakjeknaaaDoorCbM
import Derived.Test.YteopjhakjeknaaaDoorRcY
/-
  Models of functions: printed by a program of this claim's own (gen.py) off the given translation.
-/
namespace Go.Proofs.YteopjhakjeknaaaDoor
open Go Go.RowKit
set_option linter.unusedVariables false
/-- bastille/record.sized -/
def m_record_sized (p0 : Int) : Option Bool :=
bif (p0 == 120) then (some true) else (some (p0 == 1020))

/-- bastille/record.Pad -/
def m_record_Pad (p0 : (List UInt8)) (p1 : Int) : Option ((List UInt8) × Int) :=
Option.bind (m_record_sized p1) fun x1 =>
bif (!x1) then (some ([], 2)) else (bif (decide ((p0.length : Int) > (wi (p1 - 2)))) then (some ([], 3)) else (Option.bind (m_word_Put (p0.length : Int) 2) fun x5 =>
Option.bind (appI 1 x5.1 p0) fun x7 =>
Option.bind (apzI 1 x7.length (wi ((wi (p1 - 2)) - (p0.length : Int)))) fun x9 =>
some (x7 ++ List.replicate x9 (0 : UInt8), 0)))

/-- bastille/record.Small -/
def m_record_Small_j2 (x1 : V) (y4 : (List V)) : Option ((List UInt8) × Int) :=
Option.bind (m_codec_Encode (V.mk x1.k x1.n [] y4)) fun x5 =>
bif (x5.2 != 0) then (some ([], x5.2)) else (Option.bind (m_record_Pad x5.1 120) fun x8 =>
some (x8.1, x8.2))

def m_record_Small_l3 (p1 : (List (List UInt8))) (x1 : V) : Nat → (List V) → Int → Option ((List UInt8) × Int)
  | 0, _, _ => none
  | nl3 + 1, z10, z11 =>
    bif (decide (z11 < (p1.length : Int))) then (Option.bind (idx p1 z11) fun x13 =>
    Option.bind (m_codec_Raw x13) fun x15 =>
    Option.bind (appI 64 z10 [(V.mk x15.k x15.n x15.b [])]) fun x17 =>
    (m_record_Small_l3 p1 x1 nl3) x17 (wi (z11 + 1))) else (m_record_Small_j2 x1 z10)

def m_record_Small_j1 (p1 : (List (List UInt8))) (x1 : V) (y3 : (List V)) : Option ((List UInt8) × Int) :=
m_record_Small_l3 p1 x1 (p1.length + 1) y3 0

def m_record_Small_l4 (p0 : (List Int)) (p1 : (List (List UInt8))) (x1 : V) : Nat → (List V) → Int → Option ((List UInt8) × Int)
  | 0, _, _ => none
  | nl4 + 1, z19, z20 =>
    bif (decide (z20 < (p0.length : Int))) then (Option.bind (idx p0 z20) fun x22 =>
    Option.bind (m_codec_Num x22) fun x24 =>
    Option.bind (appI 64 z19 [(V.mk x24.k x24.n [] [])]) fun x26 =>
    (m_record_Small_l4 p0 p1 x1 nl4) x26 (wi (z20 + 1))) else (m_record_Small_j1 p1 x1 z19)

def m_record_Small (p0 : (List Int)) (p1 : (List (List UInt8))) : Option ((List UInt8) × Int) :=
Option.bind (m_codec_Of_n0) fun x1 =>
m_record_Small_l4 p0 p1 x1 (p0.length + 1) [] 0

/-- bastille/record.Key -/
def m_record_Key (p0 : (List (List UInt8))) : Option (List UInt8) :=
Option.bind (m_strings_Join p0 [47]) fun x1 =>
some x1

/-- bastille/record.Num -/
def m_record_Num (p0 : Int) : Option (List UInt8) :=
Option.bind (m_strconv_Itoa p0) fun x1 =>
some x1

/-- bastille/bastillelaw35.awake -/
def m_L35_awake : Option Bool :=
Option.bind (m_record_Small [3, 1] [[7]]) fun x1 =>
Option.bind (m_record_Key [[119], [102], [97]]) fun x3 =>
bif (x3 == [119, 47, 102, 47, 97]) then (Option.bind (m_record_Num 40) fun x6 =>
bif (x6 == [52, 48]) then (bif (x1.2 == 0) then (bif ((x1.1.length : Int) == 120) then (Option.bind (idx x1.1 1) fun x11 =>
some ((x11.toNat : Int) == 14)) else (some false)) else (some false)) else (some false)) else (some false)

/-- bastille/bastilleref35.Pad -/
def m_R35_Pad_j2 (y4 : (List UInt8)) : Option ((List UInt8) × Int) :=
some (y4, 0)

def m_R35_Pad_l3 (p1 : Int) : Nat → (List UInt8) → Option ((List UInt8) × Int)
  | 0, _ => none
  | nl3 + 1, z5 =>
    bif (decide ((z5.length : Int) < p1)) then (Option.bind (appI 1 z5 [0]) fun x7 =>
    (m_R35_Pad_l3 p1 nl3) x7) else (m_R35_Pad_j2 z5)

def m_R35_Pad_j1 (p0 : (List UInt8)) (p1 : Int) : Option ((List UInt8) × Int) :=
bif (decide ((p0.length : Int) > (wi (p1 - 2)))) then (some ([], 3)) else (Option.bind (appI 1 [(U8 (wi (Int.tdiv (p0.length : Int) 256))), (U8 (Int.tmod (p0.length : Int) 256))] p0) fun x2 =>
m_R35_Pad_l3 p1 (Int.toNat p1 + 1) x2)

def m_R35_Pad (p0 : (List UInt8)) (p1 : Int) : Option ((List UInt8) × Int) :=
bif (p1 != 120) then (bif (p1 != 1020) then (some ([], 2)) else (m_R35_Pad_j1 p0 p1)) else (m_R35_Pad_j1 p0 p1)

/-- slices.IndexFunc[[]byte,byte] -/
def m_slices_IndexFunc_byte_l1 (p0 : (List UInt8)) (p1 : (UInt8 → Option Bool)) : Nat → Int → Option Int
  | 0, _ => none
  | nl1 + 1, z1 =>
    bif (decide (z1 < (p0.length : Int))) then (Option.bind (idx p0 z1) fun x3 =>
    Option.bind (p1 x3) fun x5 =>
    bif x5 then (some z1) else ((m_slices_IndexFunc_byte_l1 p0 p1 nl1) (wi (z1 + 1)))) else (some (-1))

def m_slices_IndexFunc_byte (p0 : (List UInt8)) (p1 : (UInt8 → Option Bool)) : Option Int :=
m_slices_IndexFunc_byte_l1 p0 p1 (p0.length + 1) 0

/-- slices.ContainsFunc[[]byte,byte] -/
def m_slices_ContainsFunc_byte (p0 : (List UInt8)) (p1 : (UInt8 → Option Bool)) : Option Bool :=
Option.bind (m_slices_IndexFunc_byte p0 p1) fun x1 =>
some (decide (x1 ≥ 0))

/-- bastille/record.Unpad$1 -/
def m_record_Unpad_c1 (p0 : UInt8) : Option Bool :=
some ((p0.toNat : Int) != 0)

/-- bastille/record.Unpad -/
def m_record_Unpad (p0 : (List UInt8)) : Option ((List UInt8) × Int) :=
Option.bind (m_record_sized (p0.length : Int)) fun x1 =>
bif (!x1) then (some ([], 11)) else (Option.bind (cutI p0 0 2) fun x4 =>
Option.bind (m_word_Get x4) fun x6 =>
bif (decide (x6.1 > (wi ((p0.length : Int) - 2)))) then (some ([], 11)) else (Option.bind (cutI p0 (wi (2 + x6.1)) (p0.length : Int)) fun x9 =>
Option.bind (m_slices_ContainsFunc_byte x9 m_record_Unpad_c1) fun x11 =>
bif x11 then (some ([], 11)) else (Option.bind (cutI p0 2 (wi (2 + x6.1))) fun x14 =>
Option.bind (m_slices_Clone_byte x14) fun x16 =>
some (x16, 0))))

/-- bastille/bastilleref35.Unpad -/
def m_R35_Unpad_j1 (p0 : (List UInt8)) : Option ((List UInt8) × Int) :=
Option.bind (idx p0 0) fun x1 =>
Option.bind (idx p0 1) fun x3 =>
bif (decide ((wi ((wi (256 * (x1.toNat : Int))) + (x3.toNat : Int))) > (wi ((p0.length : Int) - 2)))) then (some ([], 11)) else (Option.bind (cutI p0 2 (wi (2 + (wi ((wi (256 * (x1.toNat : Int))) + (x3.toNat : Int)))))) fun x6 =>
Option.bind (m_R35_Pad x6 (p0.length : Int)) fun x8 =>
Option.bind (m_R01_Same x8.1 p0) fun x10 =>
bif (!x10) then (some ([], 11)) else (some (x6, 0)))

def m_R35_Unpad (p0 : (List UInt8)) : Option ((List UInt8) × Int) :=
bif ((p0.length : Int) != 120) then (bif ((p0.length : Int) != 1020) then (some ([], 11)) else (m_R35_Unpad_j1 p0)) else (m_R35_Unpad_j1 p0)

/-- bastille/bastillelaw35.RecordBlobs -/
def m_L35_RecordBlobs_j1 (p0 : (List UInt8)) : Option Bool :=
Option.bind (m_record_Unpad p0) fun x13 =>
Option.bind (m_R35_Unpad p0) fun x15 =>
bif (x13.2 == x15.2) then (Option.bind (m_R01_Same x13.1 x15.1) fun x18 =>
some x18) else (some false)

def m_L35_RecordBlobs (p0 : (List UInt8)) (p1 : Int) : Option Bool :=
Option.bind (m_L35_awake) fun x1 =>
bif (!x1) then (some false) else (bif (decide ((p0.length : Int) > 2000)) then (some true) else (Option.bind (m_record_Pad p0 p1) fun x5 =>
Option.bind (m_R35_Pad p0 p1) fun x7 =>
bif (x5.2 != x7.2) then (some false) else (Option.bind (m_R01_Same x5.1 x7.1) fun x10 =>
bif (!x10) then (some false) else (bif (x5.2 == 0) then (Option.bind (m_record_Unpad x5.1) fun x21 =>
bif (x21.2 != 0) then (some false) else (Option.bind (m_R01_Same x21.1 p0) fun x24 =>
bif (!x24) then (some false) else (m_L35_RecordBlobs_j1 p0))) else (m_L35_RecordBlobs_j1 p0)))))
end Go.Proofs.YteopjhakjeknaaaDoor

/-
  Models of functions: printed by a program of this claim's own (gen.py) off the given translation.
-/
namespace Go.Proofs.YteopjhakjeknaaaDoor
open Go Go.RowKit
set_option linter.unusedVariables false
structure S_api_At where
  Name : (List UInt8)
  Seq : Int

abbrev cS_api_At (x : S_api_At) : List D := [.lit (.string ⟨⟨x.Name⟩⟩), .lit (.int .i64 x.Seq)]

structure S_api_EpochRecord where
  Folder : (List UInt8)
  Number : Int
  Place : Int
  From : Int
  Seq : Int
  Digest : (List UInt8)
  Chain : (List S_api_At)
  Public : (List UInt8)
  Link : (List UInt8)
  By : (List UInt8)

/-- bastille/record.text -/
def m_record_text (p0 : (List UInt8)) : Option V :=
Option.bind (strB p0) fun x1 =>
Option.bind (m_codec_Raw x1) fun x3 =>
some (V.mk x3.k x3.n x3.b [])

/-- bastille/record.seq -/
def m_record_seq (p0 : Int) : Option Bool :=
bif (decide (p0 ≥ 1)) then (some (decide (p0 ≤ 1099511627776))) else (some false)

/-- bastille/record.long -/
def m_record_long (p0 : (List UInt8)) (p1 : Int) : Option Bool :=
bif (decide ((p0.length : Int) ≥ 1)) then (some (decide ((p0.length : Int) ≤ p1))) else (some false)

/-- bastille/record.chain -/
def m_record_chain_l1 (p0 : (List S_api_At)) : Nat → Int → Option Bool
  | 0, _ => none
  | nl1 + 1, z6 =>
    bif (decide (z6 < (p0.length : Int))) then (Option.bind (idx p0 z6) fun x8 =>
    Option.bind (m_tree_Name x8.Name) fun x10 =>
    bif (!x10) then (some false) else (Option.bind (m_record_seq x8.Seq) fun x13 =>
    bif (!x13) then (some false) else ((m_record_chain_l1 p0 nl1) (wi (z6 + 1))))) else (some true)

def m_record_chain (p0 : (List S_api_At)) (p1 : (List UInt8)) (p2 : Int) : Option Bool :=
bif (decide ((p0.length : Int) < 1)) then (some false) else (bif (decide ((p0.length : Int) > 4)) then (some false) else (Option.bind (idx p0 0) fun x3 =>
bif (!((x3.Name == p1) && ((x3.Seq == p2) && true))) then (some false) else (m_record_chain_l1 p0 (p0.length + 1) 0)))

/-- bastille/record.mayEpoch -/
def m_record_mayEpoch_j1 (p0 : S_api_EpochRecord) : Option Bool :=
some ((p0.Link.length : Int) == 0)

def m_record_mayEpoch_j4 (p0 : S_api_EpochRecord) (y5 : Bool) : Option Bool :=
bif y5 then (some false) else (bif (p0.Place == 1) then (bif (decide (p0.Number > 1)) then (Option.bind (m_record_long p0.Link 100) fun x9 =>
some x9) else (m_record_mayEpoch_j1 p0)) else (m_record_mayEpoch_j1 p0))

def m_record_mayEpoch_j3 (p0 : S_api_EpochRecord) (y3 : Bool) : Option Bool :=
bif y3 then (some false) else (Option.bind (m_record_long p0.Digest 64) fun x11 =>
bif (!x11) then (m_record_mayEpoch_j4 p0 true) else (Option.bind (m_record_long p0.Public 64) fun x14 =>
bif (!x14) then (m_record_mayEpoch_j4 p0 true) else (Option.bind (m_record_chain p0.Chain p0.Folder p0.Seq) fun x17 =>
m_record_mayEpoch_j4 p0 (!x17))))

def m_record_mayEpoch_j2 (p0 : S_api_EpochRecord) (y1 : Bool) : Option Bool :=
bif y1 then (some false) else (bif (decide (p0.Place < 1)) then (m_record_mayEpoch_j3 p0 true) else (bif (decide (p0.Place > 4)) then (m_record_mayEpoch_j3 p0 true) else (bif (decide (p0.From < 1)) then (m_record_mayEpoch_j3 p0 true) else (m_record_mayEpoch_j3 p0 (decide (p0.From > p0.Seq))))))

def m_record_mayEpoch (p0 : S_api_EpochRecord) : Option Bool :=
Option.bind (m_tree_Name p0.Folder) fun x22 =>
bif (!x22) then (m_record_mayEpoch_j2 p0 true) else (Option.bind (m_tree_Name p0.By) fun x25 =>
bif (!x25) then (m_record_mayEpoch_j2 p0 true) else (Option.bind (m_record_seq p0.Number) fun x28 =>
bif (!x28) then (m_record_mayEpoch_j2 p0 true) else (Option.bind (m_record_seq p0.Seq) fun x31 =>
m_record_mayEpoch_j2 p0 (!x31))))

/-- bastille/record.EpochText -/
def m_record_EpochText_j1 (p0 : S_api_EpochRecord) (x4 : V) (y6 : (List V)) : Option ((List UInt8) × Int) :=
Option.bind (m_record_text [101, 112, 111, 99, 104]) fun x7 =>
Option.bind (m_record_text p0.Folder) fun x9 =>
Option.bind (m_codec_Num p0.Number) fun x11 =>
Option.bind (m_codec_Num p0.Place) fun x13 =>
Option.bind (m_codec_Num p0.From) fun x15 =>
Option.bind (m_codec_Num p0.Seq) fun x17 =>
Option.bind (m_codec_Raw p0.Digest) fun x19 =>
Option.bind (m_codec_Raw p0.Public) fun x21 =>
Option.bind (m_codec_Raw p0.Link) fun x23 =>
Option.bind (m_record_text p0.By) fun x25 =>
Option.bind (m_codec_Of [(V.mk x7.k x7.n x7.b []), (V.mk x9.k x9.n x9.b []), (V.mk x11.k x11.n [] []), (V.mk x13.k x13.n [] []), (V.mk x15.k x15.n [] []), (V.mk x17.k x17.n [] []), (V.mk x19.k x19.n x19.b []), (V.mk x4.k x4.n [] y6), (V.mk x21.k x21.n x21.b []), (V.mk x23.k x23.n x23.b []), (V.mk x25.k x25.n x25.b [])]) fun x27 =>
Option.bind (m_codec_Encode (V.mk x27.k x27.n [] x27.l)) fun x29 =>
some (x29.1, x29.2)

def m_record_EpochText_l2 (p0 : S_api_EpochRecord) (x4 : V) : Nat → (List V) → Int → Option ((List UInt8) × Int)
  | 0, _, _ => none
  | nl2 + 1, z31, z32 =>
    bif (decide (z32 < (p0.Chain.length : Int))) then (Option.bind (idx p0.Chain z32) fun x34 =>
    Option.bind (m_record_text x34.Name) fun x36 =>
    Option.bind (m_codec_Num x34.Seq) fun x38 =>
    Option.bind (m_codec_Of [(V.mk x36.k x36.n x36.b []), (V.mk x38.k x38.n [] [])]) fun x40 =>
    Option.bind (appI 64 z31 [(V.mk x40.k x40.n [] x40.l)]) fun x42 =>
    (m_record_EpochText_l2 p0 x4 nl2) x42 (wi (z32 + 1))) else (m_record_EpochText_j1 p0 x4 z31)

def m_record_EpochText (p0 : S_api_EpochRecord) : Option ((List UInt8) × Int) :=
Option.bind (m_record_mayEpoch p0) fun x1 =>
bif (!x1) then (some ([], 2)) else (Option.bind (m_codec_Of_n0) fun x4 =>
m_record_EpochText_l2 p0 x4 (p0.Chain.length + 1) [] 0)

/-- bastille/bastilleref35.in -/
def m_R35_in (p0 : Int) (p1 : Int) (p2 : Int) : Option Bool :=
bif (decide (p0 ≥ p1)) then (some (decide (p0 ≤ p2))) else (some false)

/-- bastille/bastilleref35.MayEpoch -/
def m_R35_MayEpoch_j2 (p0 : S_api_EpochRecord) : Option Bool :=
some ((p0.Link.length : Int) == 0)

def m_R35_MayEpoch_j1 (p0 : S_api_EpochRecord) : Option Bool :=
Option.bind (idx p0.Chain 0) fun x28 =>
bif (!(x28.Name == p0.Folder)) then (some false) else (Option.bind (idx p0.Chain 0) fun x31 =>
bif (x31.Seq != p0.Seq) then (some false) else (bif (p0.Place == 1) then (bif (decide (p0.Number > 1)) then (Option.bind (m_R35_in (p0.Link.length : Int) 1 100) fun x36 =>
some x36) else (m_R35_MayEpoch_j2 p0)) else (m_R35_MayEpoch_j2 p0)))

def m_R35_MayEpoch_l3 (p0 : S_api_EpochRecord) : Nat → Int → Option Bool
  | 0, _ => none
  | nl3 + 1, z38 =>
    bif (decide (z38 < (p0.Chain.length : Int))) then (Option.bind (idx p0.Chain z38) fun x40 =>
    Option.bind (m_R25_Name x40.Name) fun x42 =>
    bif (!x42) then (some false) else (Option.bind (idx p0.Chain z38) fun x45 =>
    Option.bind (m_R35_in x45.Seq 1 1099511627776) fun x47 =>
    bif (!x47) then (some false) else ((m_R35_MayEpoch_l3 p0 nl3) (wi (z38 + 1))))) else (m_R35_MayEpoch_j1 p0)

def m_R35_MayEpoch (p0 : S_api_EpochRecord) : Option Bool :=
Option.bind (m_R25_Name p0.Folder) fun x1 =>
bif (!x1) then (some false) else (Option.bind (m_R25_Name p0.By) fun x4 =>
bif (!x4) then (some false) else (Option.bind (m_R35_in p0.Number 1 1099511627776) fun x7 =>
bif (!x7) then (some false) else (Option.bind (m_R35_in p0.Seq 1 1099511627776) fun x10 =>
bif (!x10) then (some false) else (Option.bind (m_R35_in p0.Place 1 4) fun x13 =>
bif (!x13) then (some false) else (Option.bind (m_R35_in p0.From 1 p0.Seq) fun x16 =>
bif (!x16) then (some false) else (Option.bind (m_R35_in (p0.Digest.length : Int) 1 64) fun x19 =>
bif (!x19) then (some false) else (Option.bind (m_R35_in (p0.Public.length : Int) 1 64) fun x22 =>
bif (!x22) then (some false) else (Option.bind (m_R35_in (p0.Chain.length : Int) 1 4) fun x25 =>
bif (!x25) then (some false) else (m_R35_MayEpoch_l3 p0 (p0.Chain.length + 1) 0)))))))))

/-- bastille/record.ReadEpoch -/
def m_record_ReadEpoch_j1 (x10 : V) (x12 : V) (x14 : V) (x16 : V) (x18 : V) (x20 : V) (x22 : V) (x24 : V) (x26 : V) (y28 : (List S_api_At)) : Option (S_api_EpochRecord × Int) :=
Option.bind (m_record_mayEpoch (S_api_EpochRecord.mk x10.b x12.n x14.n x16.n x18.n x20.b y28 x22.b x24.b x26.b)) fun x29 =>
bif (!x29) then (some ((S_api_EpochRecord.mk [] 0 0 0 0 [] [] [] [] []), 11)) else (some ((S_api_EpochRecord.mk x10.b x12.n x14.n x16.n x18.n x20.b y28 x22.b x24.b x26.b), 0))

def m_record_ReadEpoch_l2 (x32 : V) (x10 : V) (x12 : V) (x14 : V) (x16 : V) (x18 : V) (x20 : V) (x22 : V) (x24 : V) (x26 : V) : Nat → (List S_api_At) → Int → Option (S_api_EpochRecord × Int)
  | 0, _, _ => none
  | nl2 + 1, z34, z35 =>
    bif (decide (z35 < (x32.l.length : Int))) then (Option.bind (idx x32.l z35) fun x37 =>
    Option.bind (m_codec_Fields x37 [2, 1]) fun x39 =>
    bif (!x39.2) then (some ((S_api_EpochRecord.mk [] 0 0 0 0 [] [] [] [] []), 11)) else (Option.bind (idx x39.1 0) fun x42 =>
    Option.bind (idx x39.1 1) fun x44 =>
    Option.bind (appI 24 z34 [(S_api_At.mk x42.b x44.n)]) fun x46 =>
    (m_record_ReadEpoch_l2 x32 x10 x12 x14 x16 x18 x20 x22 x24 x26 nl2) x46 (wi (z35 + 1)))) else (m_record_ReadEpoch_j1 x10 x12 x14 x16 x18 x20 x22 x24 x26 z34)

def m_record_ReadEpoch (p0 : (List UInt8)) : Option (S_api_EpochRecord × Int) :=
Option.bind (m_codec_Decode p0) fun x1 =>
bif (x1.2 != 0) then (some ((S_api_EpochRecord.mk [] 0 0 0 0 [] [] [] [] []), x1.2)) else (Option.bind (m_codec_Fields x1.1 [2, 2, 1, 1, 1, 1, 2, 3, 2, 2, 2]) fun x4 =>
bif (!x4.2) then (some ((S_api_EpochRecord.mk [] 0 0 0 0 [] [] [] [] []), 11)) else (Option.bind (idx x4.1 0) fun x7 =>
bif (!(x7.b == [101, 112, 111, 99, 104])) then (some ((S_api_EpochRecord.mk [] 0 0 0 0 [] [] [] [] []), 11)) else (Option.bind (idx x4.1 1) fun x10 =>
Option.bind (idx x4.1 2) fun x12 =>
Option.bind (idx x4.1 3) fun x14 =>
Option.bind (idx x4.1 4) fun x16 =>
Option.bind (idx x4.1 5) fun x18 =>
Option.bind (idx x4.1 6) fun x20 =>
Option.bind (idx x4.1 8) fun x22 =>
Option.bind (idx x4.1 9) fun x24 =>
Option.bind (idx x4.1 10) fun x26 =>
Option.bind (idx x4.1 7) fun x32 =>
m_record_ReadEpoch_l2 x32 x10 x12 x14 x16 x18 x20 x22 x24 x26 (x32.l.length + 1) [] 0)))

/-- bastille/bastilleref28.Num -/
def m_R28_Num (p0 : Int) : Option V :=
some (V.mk 1 p0 [] [])

/-- bastille/bastilleref28.Raw -/
def m_R28_Raw (p0 : (List UInt8)) : Option V :=
some (V.mk 2 0 p0 [])

/-- bastille/bastilleref28.Of -/
def m_R28_Of (p0 : (List V)) : Option V :=
some (V.mk 3 0 [] p0)

/-- bastille/bastilleref35.text -/
def m_R35_text (p0 : (List UInt8)) : Option V :=
Option.bind (strB p0) fun x1 =>
Option.bind (m_R28_Raw x1) fun x3 =>
some (V.mk x3.k x3.n x3.b [])

/-- bastille/bastilleref35.EpochText -/
def m_R35_EpochText_j1 (p0 : S_api_EpochRecord) (y1 : (List V)) : Option (List UInt8) :=
Option.bind (m_R35_text [101, 112, 111, 99, 104]) fun x2 =>
Option.bind (m_R35_text p0.Folder) fun x4 =>
Option.bind (m_R28_Num p0.Number) fun x6 =>
Option.bind (m_R28_Num p0.Place) fun x8 =>
Option.bind (m_R28_Num p0.From) fun x10 =>
Option.bind (m_R28_Num p0.Seq) fun x12 =>
Option.bind (m_R28_Raw p0.Digest) fun x14 =>
Option.bind (m_R28_Of y1) fun x16 =>
Option.bind (m_R28_Raw p0.Public) fun x18 =>
Option.bind (m_R28_Raw p0.Link) fun x20 =>
Option.bind (m_R35_text p0.By) fun x22 =>
Option.bind (m_R28_Of [(V.mk x2.k x2.n x2.b []), (V.mk x4.k x4.n x4.b []), (V.mk x6.k x6.n [] []), (V.mk x8.k x8.n [] []), (V.mk x10.k x10.n [] []), (V.mk x12.k x12.n [] []), (V.mk x14.k x14.n x14.b []), (V.mk x16.k x16.n [] x16.l), (V.mk x18.k x18.n x18.b []), (V.mk x20.k x20.n x20.b []), (V.mk x22.k x22.n x22.b [])]) fun x24 =>
Option.bind (m_R02_Bytes (V.ht (V.mk x24.k x24.n [] x24.l)) (V.mk x24.k x24.n [] x24.l)) fun x26 =>
some x26

def m_R35_EpochText_l2 (p0 : S_api_EpochRecord) : Nat → (List V) → Int → Option (List UInt8)
  | 0, _, _ => none
  | nl2 + 1, z28, z29 =>
    bif (decide (z29 < (p0.Chain.length : Int))) then (Option.bind (idx p0.Chain z29) fun x31 =>
    Option.bind (m_R35_text x31.Name) fun x33 =>
    Option.bind (idx p0.Chain z29) fun x35 =>
    Option.bind (m_R28_Num x35.Seq) fun x37 =>
    Option.bind (m_R28_Of [(V.mk x33.k x33.n x33.b []), (V.mk x37.k x37.n [] [])]) fun x39 =>
    Option.bind (appI 64 z28 [(V.mk x39.k x39.n [] x39.l)]) fun x41 =>
    (m_R35_EpochText_l2 p0 nl2) x41 (wi (z29 + 1))) else (m_R35_EpochText_j1 p0 z28)

def m_R35_EpochText (p0 : S_api_EpochRecord) : Option (List UInt8) :=
m_R35_EpochText_l2 p0 (p0.Chain.length + 1) [] 0

/-- bastille/bastilleref35.SameEpoch -/
def m_R35_SameEpoch_j1 (p0 : S_api_EpochRecord) (p1 : S_api_EpochRecord) : Option Bool :=
Option.bind (m_R01_Same p0.Digest p1.Digest) fun x8 =>
bif x8 then (Option.bind (m_R01_Same p0.Public p1.Public) fun x11 =>
bif x11 then (Option.bind (m_R01_Same p0.Link p1.Link) fun x14 =>
some x14) else (some false)) else (some false)

def m_R35_SameEpoch_l2 (p0 : S_api_EpochRecord) (p1 : S_api_EpochRecord) : Nat → Int → Option Bool
  | 0, _ => none
  | nl2 + 1, z16 =>
    bif (decide (z16 < (p0.Chain.length : Int))) then (Option.bind (idx p0.Chain z16) fun x18 =>
    Option.bind (idx p1.Chain z16) fun x20 =>
    bif (!((x18.Name == x20.Name) && ((x18.Seq == x20.Seq) && true))) then (some false) else ((m_R35_SameEpoch_l2 p0 p1 nl2) (wi (z16 + 1)))) else (m_R35_SameEpoch_j1 p0 p1)

def m_R35_SameEpoch (p0 : S_api_EpochRecord) (p1 : S_api_EpochRecord) : Option Bool :=
bif (!(p0.Folder == p1.Folder)) then (some false) else (bif (p0.Number != p1.Number) then (some false) else (bif (p0.Place != p1.Place) then (some false) else (bif (p0.From != p1.From) then (some false) else (bif (p0.Seq != p1.Seq) then (some false) else (bif (!(p0.By == p1.By)) then (some false) else (bif ((p0.Chain.length : Int) != (p1.Chain.length : Int)) then (some false) else (m_R35_SameEpoch_l2 p0 p1 (p0.Chain.length + 1) 0)))))))

/-- bastille/bastilleref35.ReadEpoch -/
def m_R35_ReadEpoch_j1 (x7 : V) (x9 : V) (x11 : V) (x13 : V) (x15 : V) (x17 : V) (x19 : V) (x21 : V) (x23 : V) (p0 : (List UInt8)) (y25 : (List S_api_At)) : Option (S_api_EpochRecord × Int) :=
Option.bind (m_R35_MayEpoch (S_api_EpochRecord.mk x7.b x9.n x11.n x13.n x15.n x17.b y25 x19.b x21.b x23.b)) fun x26 =>
bif (!x26) then (some ((S_api_EpochRecord.mk [] 0 0 0 0 [] [] [] [] []), 11)) else (Option.bind (m_R35_EpochText (S_api_EpochRecord.mk x7.b x9.n x11.n x13.n x15.n x17.b y25 x19.b x21.b x23.b)) fun x29 =>
Option.bind (m_R01_Same x29 p0) fun x31 =>
bif (!x31) then (some ((S_api_EpochRecord.mk [] 0 0 0 0 [] [] [] [] []), 11)) else (some ((S_api_EpochRecord.mk x7.b x9.n x11.n x13.n x15.n x17.b y25 x19.b x21.b x23.b), 0)))

def m_R35_ReadEpoch_l2 (x1 : (V × Int)) (x7 : V) (x9 : V) (x11 : V) (x13 : V) (x15 : V) (x17 : V) (x19 : V) (x21 : V) (x23 : V) (p0 : (List UInt8)) : Nat → (List S_api_At) → Int → Option (S_api_EpochRecord × Int)
  | 0, _, _ => none
  | nl2 + 1, z34, z35 =>
    Option.bind (idx x1.1.l 7) fun x36 =>
    bif (decide (z35 < (x36.l.length : Int))) then (Option.bind (idx x1.1.l 7) fun x39 =>
    Option.bind (idx x39.l z35) fun x41 =>
    Option.bind (m_R28_Kinds x41 [2, 1]) fun x43 =>
    bif (!x43) then (some ((S_api_EpochRecord.mk [] 0 0 0 0 [] [] [] [] []), 11)) else (Option.bind (idx x41.l 0) fun x46 =>
    Option.bind (idx x41.l 1) fun x48 =>
    Option.bind (appI 24 z34 [(S_api_At.mk x46.b x48.n)]) fun x50 =>
    (m_R35_ReadEpoch_l2 x1 x7 x9 x11 x13 x15 x17 x19 x21 x23 p0 nl2) x50 (wi (z35 + 1)))) else (m_R35_ReadEpoch_j1 x7 x9 x11 x13 x15 x17 x19 x21 x23 p0 z34)

def m_R35_ReadEpoch (p0 : (List UInt8)) : Option (S_api_EpochRecord × Int) :=
Option.bind (m_R02_Decode p0) fun x1 =>
bif (x1.2 != 0) then (some ((S_api_EpochRecord.mk [] 0 0 0 0 [] [] [] [] []), x1.2)) else (Option.bind (m_R28_Kinds x1.1 [2, 2, 1, 1, 1, 1, 2, 3, 2, 2, 2]) fun x4 =>
bif (!x4) then (some ((S_api_EpochRecord.mk [] 0 0 0 0 [] [] [] [] []), 11)) else (Option.bind (idx x1.1.l 1) fun x7 =>
Option.bind (idx x1.1.l 2) fun x9 =>
Option.bind (idx x1.1.l 3) fun x11 =>
Option.bind (idx x1.1.l 4) fun x13 =>
Option.bind (idx x1.1.l 5) fun x15 =>
Option.bind (idx x1.1.l 6) fun x17 =>
Option.bind (idx x1.1.l 8) fun x19 =>
Option.bind (idx x1.1.l 9) fun x21 =>
Option.bind (idx x1.1.l 10) fun x23 =>
m_R35_ReadEpoch_l2 x1 x7 x9 x11 x13 x15 x17 x19 x21 x23 p0 (4098) [] 0))

/-- bastille/bastillelaw35.RecordEpoch -/
def m_L35_RecordEpoch_j1 (p1 : (List UInt8)) : Option Bool :=
Option.bind (m_record_ReadEpoch p1) fun x13 =>
Option.bind (m_R35_ReadEpoch p1) fun x15 =>
bif (x13.2 != x15.2) then (some false) else (Option.bind (m_R35_SameEpoch x13.1 x15.1) fun x18 =>
bif (!x18) then (some false) else (Option.bind (m_record_EpochText x13.1) fun x21 =>
bif (x13.2 != 0) then (some true) else (bif (x21.2 == 0) then (Option.bind (m_R01_Same x21.1 p1) fun x25 =>
some x25) else (some false))))

def m_L35_RecordEpoch (p0 : S_api_EpochRecord) (p1 : (List UInt8)) : Option Bool :=
Option.bind (m_L35_awake) fun x1 =>
bif (!x1) then (some false) else (bif (decide ((p0.Folder.length : Int) > 20)) then (some true) else (bif (decide ((p0.By.length : Int) > 20)) then (some true) else (bif (decide ((p0.Chain.length : Int) > 10)) then (some true) else (bif (decide ((p0.Digest.length : Int) > 100)) then (some true) else (bif (decide ((p0.Public.length : Int) > 100)) then (some true) else (bif (decide ((p0.Link.length : Int) > 200)) then (some true) else (bif (decide ((p1.length : Int) > 1500)) then (some true) else (Option.bind (m_record_EpochText p0) fun x11 =>
Option.bind (m_R35_MayEpoch p0) fun x27 =>
bif x27 then (Option.bind (m_record_ReadEpoch x11.1) fun x30 =>
bif (x11.2 != 0) then (some false) else (Option.bind (m_R35_EpochText p0) fun x33 =>
Option.bind (m_R01_Same x11.1 x33) fun x35 =>
bif (!x35) then (some false) else (bif (x30.2 != 0) then (some false) else (Option.bind (m_R35_SameEpoch x30.1 p0) fun x39 =>
bif (!x39) then (some false) else (m_L35_RecordEpoch_j1 p1))))) else (bif (x11.2 != 2) then (some false) else (bif (decide ((x11.1.length : Int) > 0)) then (some false) else (m_L35_RecordEpoch_j1 p1)))))))))))
end Go.Proofs.YteopjhakjeknaaaDoor
