/-
  Texts joined: see the remark at the head of each part.
-/
import Derived.Test.YtjomnccladjpgaaQ11
import Derived.Test.YtjomnccladjpgaaQ09
set_option linter.unusedVariables false
set_option linter.unusedSimpArgs false
/-
  Models of functions: printed by a program of this claim's own (gen.py) off the given translation.
-/
namespace Go.Proofs.Ytjomnccladjpgaa
open Go Go.RowKit
set_option linter.unusedVariables false
structure S_L20_Do where
  Kind : Int
  Home : Int
  E : S_api_Entry

abbrev cS_L20_Do (x : S_L20_Do) : List D := [.lit (.int .i64 x.Kind), .lit (.int .i64 x.Home), .lit (.string ⟨⟨x.E.Key⟩⟩), .lit (.int .i64 x.E.Version), .lit (.int .i64 x.E.Len), .lit (.int .i64 x.E.First)]

/-- bastille/bastillelaw20.Begun -/
def m_L20_Begun_l1 (p0 : (List (List UInt8))) (x7 : ((Option Nat) × Int × Hp)) : Nat → Int → Hp → Option ((Option Nat) × Hp)
  | 0, _, _ => none
  | nl1 + 1, z9, z10 =>
    bif (decide (z9 < (p0.length : Int))) then (Option.bind (idx p0 z9) fun x12 =>
    Option.bind (m_wal_Txn_Write x7.1 z9 x12 z10) fun x14 =>
    (m_L20_Begun_l1 p0 x7 nl1) (wi (z9 + 1)) x14.2) else (some (x7.1, z10))

def m_L20_Begun (p0 : (List (List UInt8))) (w0 : Hp) : Option ((Option Nat) × Hp) :=
Option.bind (m_disk_New 30 w0) fun x1 =>
Option.bind (m_wal_Format x1.1 8 x1.2.2) fun x3 =>
Option.bind (m_wal_Open x1.1 x3.2) fun x5 =>
Option.bind (m_wal_Log_Begin x5.1 x5.2.2) fun x7 =>
m_L20_Begun_l1 p0 x7 (p0.length + 1) 0 x7.2.2

/-- bastille/bastilleref01.Same -/
def m_R01_Same_l1 (p0 : (List UInt8)) (p1 : (List UInt8)) : Nat → Int → Option Bool
  | 0, _ => none
  | nl1 + 1, z2 =>
    bif (decide (z2 < (p0.length : Int))) then (Option.bind (idx p0 z2) fun x4 =>
    Option.bind (idx p1 z2) fun x6 =>
    bif ((x4.toNat : Int) != (x6.toNat : Int)) then (some false) else ((m_R01_Same_l1 p0 p1 nl1) (wi (z2 + 1)))) else (some true)

def m_R01_Same (p0 : (List UInt8)) (p1 : (List UInt8)) : Option Bool :=
bif ((p0.length : Int) != (p1.length : Int)) then (some false) else (m_R01_Same_l1 p0 p1 (p0.length + 1) 0)

/-- bastille/bastillelaw20.awake -/
def m_L20_awake (w0 : Hp) : Option (Bool × Hp) :=
Option.bind (m_index_Bucket [65]) fun x1 =>
Option.bind (m_L20_Begun [] w0) fun x3 =>
Option.bind (m_index_At x3.1 1 x3.2) fun x5 =>
bif (!x1.2) then (some (false, x5.2)) else (bif (x1.1 != 1) then (some (false, x5.2)) else (Option.bind (m_index_Index_Put x5.1 5 (S_api_Entry.mk [65] 3 0 0) x5.2) fun x9 =>
bif (x9.1 != 0) then (some (false, x9.2)) else (Option.bind (m_index_Index_Find x5.1 [65] x9.2) fun x12 =>
bif (x12.2.2 == 0) then (bif (x12.2.1 == 5) then (some ((x12.1.Version == 3), x9.2)) else (some (false, x9.2))) else (some (false, x9.2)))))

/-- bastille/bastillelaw20.few -/
def m_L20_few_j1 (p0 : (List S_L20_Do)) : Option Bool :=
some (decide ((p0.length : Int) ≤ 30))

def m_L20_few_l2 (p0 : (List S_L20_Do)) : Nat → Int → Option Bool
  | 0, _ => none
  | nl2 + 1, z1 =>
    bif (decide (z1 < (p0.length : Int))) then (Option.bind (idx p0 z1) fun x3 =>
    bif (decide ((x3.E.Key.length : Int) > 100)) then (some false) else ((m_L20_few_l2 p0 nl2) (wi (z1 + 1)))) else (m_L20_few_j1 p0)

def m_L20_few (p0 : (List S_L20_Do)) : Option Bool :=
m_L20_few_l2 p0 (p0.length + 1) 0

/-- bastille/bastilleref20.Bucket -/
def m_R20_Bucket_j1 (y1 : Int) : Option Int :=
some (Int.tmod y1 64)

def m_R20_Bucket_l2 (p0 : (List UInt8)) : Nat → Int → Int → Option Int
  | 0, _, _ => none
  | nl2 + 1, z2, z3 =>
    bif (decide (z3 < (p0.length : Int))) then (Option.bind (idx p0 z3) fun x5 =>
    (m_R20_Bucket_l2 p0 nl2) (Int.tmod (wi ((wi (31 * z2)) + (x5.toNat : Int))) 4294967296) (wi (z3 + 1))) else (m_R20_Bucket_j1 z2)

def m_R20_Bucket (p0 : (List UInt8)) : Option Int :=
m_R20_Bucket_l2 p0 (p0.length + 1) 0 0

/-- bastille/bastilleref01.Get -/
def m_R01_Get_j1 (y3 : Int) : Option (Int × Int) :=
some (y3, 0)

def m_R01_Get_j3 (kl2 : Int → Int → Option (Int × Int)) (z4 : Int) (x7 : UInt8) (z5 : Int) (y9 : Bool) : Option (Int × Int) :=
kl2 (wi ((wi (256 * z4)) + (x7.toNat : Int))) (wi (z5 + 1))

def m_R01_Get_l2 (p0 : (List UInt8)) : Nat → Int → Int → Option (Int × Int)
  | 0, _, _ => none
  | nl2 + 1, z4, z5 =>
    bif (decide (z5 < (p0.length : Int))) then (Option.bind (idx p0 z5) fun x7 =>
    bif (decide (z4 > 18014398509481984)) then (some (0, 11)) else (bif (z4 == 18014398509481984) then (bif (decide ((x7.toNat : Int) > 0)) then (some (0, 11)) else (m_R01_Get_j3 (m_R01_Get_l2 p0 nl2) z4 x7 z5 (decide ((x7.toNat : Int) > 0)))) else (m_R01_Get_j3 (m_R01_Get_l2 p0 nl2) z4 x7 z5 false))) else (m_R01_Get_j1 z4)

def m_R01_Get (p0 : (List UInt8)) : Option (Int × Int) :=
bif ((p0.length : Int) == 0) then (some (0, 10)) else (bif (decide ((p0.length : Int) > 8)) then (some (0, 2)) else (m_R01_Get_l2 p0 (p0.length + 1) 0 0))

/-- bastille/bastilleref20.Head -/
def m_R20_Head (p0 : (List (List UInt8))) (p1 : Int) (p2 : Int) : Option Int :=
bif (decide ((wi (p1 + (wi (Int.tdiv p2 16)))) < 0)) then (some (-1)) else (bif (decide ((wi (p1 + (wi (Int.tdiv p2 16)))) ≥ (p0.length : Int))) then (some (-1)) else (Option.bind (idx p0 (wi (p1 + (wi (Int.tdiv p2 16))))) fun x3 =>
Option.bind (cutI x3 (wi (4 * (Int.tmod p2 16))) (wi ((wi (4 * (Int.tmod p2 16))) + 4))) fun x5 =>
Option.bind (m_R01_Get x5) fun x7 =>
some x7.1))

/-- bastille/bastilleref20.Key -/
def m_R20_Key_l1 (p0 : (List UInt8)) : Nat → Int → Option Bool
  | 0, _ => none
  | nl1 + 1, z3 =>
    bif (decide (z3 < (p0.length : Int))) then (Option.bind (idx p0 z3) fun x5 =>
    bif (decide ((x5.toNat : Int) < 33)) then (some false) else (Option.bind (idx p0 z3) fun x8 =>
    bif (decide ((x8.toNat : Int) > 126)) then (some false) else ((m_R20_Key_l1 p0 nl1) (wi (z3 + 1))))) else (some true)

def m_R20_Key (p0 : (List UInt8)) : Option Bool :=
bif (decide ((p0.length : Int) < 1)) then (some false) else (bif (decide ((p0.length : Int) > 40)) then (some false) else (m_R20_Key_l1 p0 (p0.length + 1) 0))

/-- bastille/bastilleref20.May -/
def m_R20_May (p0 : S_api_Entry) : Option Bool :=
Option.bind (m_R20_Key p0.Key) fun x1 =>
bif x1 then (bif (decide (p0.Version ≥ 0)) then (bif (decide (p0.Version ≤ 4611686018427387904)) then (bif (decide (p0.Len ≥ 0)) then (bif (decide (p0.Len ≤ 1024)) then (bif (decide (p0.First ≥ 0)) then (some (decide (p0.First ≤ 16384))) else (some false)) else (some false)) else (some false)) else (some false)) else (some false)) else (some false)

/-- bastille/bastilleref01.Low -/
def m_R01_Low_j1 (y5 : Int) (y6 : (List UInt8)) : Option ((List UInt8) × Int) :=
bif (decide (y5 > 0)) then (some ([], 2)) else (some (y6, 0))

def m_R01_Low_l2 (p1 : Int) : Nat → Int → (List UInt8) → Int → Option ((List UInt8) × Int)
  | 0, _, _, _ => none
  | nl2 + 1, z8, z9, z10 =>
    bif (decide (z10 < p1)) then (Option.bind (appI 1 z9 [(U8 (Int.tmod z8 256))]) fun x12 =>
    (m_R01_Low_l2 p1 nl2) (wi (Int.tdiv z8 256)) x12 (wi (z10 + 1))) else (m_R01_Low_j1 z8 z9)

def m_R01_Low (p0 : Int) (p1 : Int) : Option ((List UInt8) × Int) :=
bif (decide (p1 < 1)) then (some ([], 2)) else (bif (decide (p1 > 8)) then (some ([], 2)) else (bif (decide (p0 < 0)) then (some ([], 2)) else (bif (decide (p0 > 4611686018427387904)) then (some ([], 2)) else (m_R01_Low_l2 p1 (Int.toNat p1 + 1) p0 [] 0))))

/-- bastille/bastilleref01.Turned -/
def m_R01_Turned_l1 (p0 : (List UInt8)) : Nat → (List UInt8) → Int → Option (List UInt8)
  | 0, _, _ => none
  | nl1 + 1, z1, z2 =>
    bif (decide (z2 ≥ 0)) then (Option.bind (idx p0 z2) fun x4 =>
    Option.bind (appI 1 z1 [x4]) fun x6 =>
    (m_R01_Turned_l1 p0 nl1) x6 (wi (z2 - 1))) else (some z1)

def m_R01_Turned (p0 : (List UInt8)) : Option (List UInt8) :=
m_R01_Turned_l1 p0 (Int.toNat (wi ((p0.length : Int) - 1)) + 2) [] (wi ((p0.length : Int) - 1))

/-- bastille/bastilleref01.Put -/
def m_R01_Put (p0 : Int) (p1 : Int) : Option ((List UInt8) × Int) :=
Option.bind (m_R01_Low p0 p1) fun x1 =>
Option.bind (m_R01_Turned x1.1) fun x3 =>
some (x3, x1.2)

/-- bastille/bastilleref20.number -/
def m_R20_number (p0 : Int) (p1 : Int) : Option (List UInt8) :=
Option.bind (m_R01_Put p0 p1) fun x1 =>
some x1.1

/-- bastille/bastilleref20.Bytes -/
def m_R20_Bytes_l1 : Nat → (List UInt8) → Option (List UInt8)
  | 0, _ => none
  | nl1 + 1, z23 =>
    bif (decide ((z23.length : Int) < 64)) then (Option.bind (appI 1 z23 [0]) fun x25 =>
    (m_R20_Bytes_l1 nl1) x25) else (some z23)

def m_R20_Bytes (p0 : S_api_Entry) (p1 : Int) : Option (List UInt8) :=
Option.bind (m_R20_number p1 4) fun x1 =>
Option.bind (appI 1 [] x1) fun x3 =>
Option.bind (m_R20_number p0.Version 8) fun x5 =>
Option.bind (appI 1 x3 x5) fun x7 =>
Option.bind (m_R20_number p0.Len 4) fun x9 =>
Option.bind (appI 1 x7 x9) fun x11 =>
Option.bind (m_R20_number p0.First 4) fun x13 =>
Option.bind (appI 1 x11 x13) fun x15 =>
Option.bind (appI 1 x15 [(U8 (p0.Key.length : Int))]) fun x17 =>
Option.bind (strB p0.Key) fun x19 =>
Option.bind (appI 1 x17 x19) fun x21 =>
m_R20_Bytes_l1 (Int.toNat 64 + 1) x21

/-- bastille/bastilleref20.Read -/
def m_R20_Read (p0 : (List UInt8)) : Option (S_api_Entry × Int × Bool) :=
Option.bind (cutI p0 0 4) fun x1 =>
Option.bind (m_R01_Get x1) fun x3 =>
Option.bind (cutI p0 4 12) fun x5 =>
Option.bind (m_R01_Get x5) fun x7 =>
Option.bind (cutI p0 12 16) fun x9 =>
Option.bind (m_R01_Get x9) fun x11 =>
Option.bind (cutI p0 16 20) fun x13 =>
Option.bind (m_R01_Get x13) fun x15 =>
Option.bind (idx p0 20) fun x17 =>
bif (x7.2 != 0) then (some ((S_api_Entry.mk [] 0 0 0), 0, false)) else (bif (decide ((x17.toNat : Int) > 40)) then (some ((S_api_Entry.mk [] 0 0 0), 0, false)) else (Option.bind (cutI p0 21 (wi (21 + (x17.toNat : Int)))) fun x21 =>
Option.bind (m_R20_May (S_api_Entry.mk x21 x7.1 x11.1 x15.1)) fun x23 =>
bif x23 then (Option.bind (m_R20_Bytes (S_api_Entry.mk x21 x7.1 x11.1 x15.1) x3.1) fun x26 =>
Option.bind (m_R01_Same x26 p0) fun x28 =>
some ((S_api_Entry.mk x21 x7.1 x11.1 x15.1), x3.1, x28)) else (some ((S_api_Entry.mk x21 x7.1 x11.1 x15.1), x3.1, false))))

/-- bastille/bastilleref20.Walk -/
def m_R20_Walk_j1 (y3 : (List Int)) : Option ((List Int) × Int) :=
some (y3, 0)

def m_R20_Walk_l2 (p0 : (List (List UInt8))) (p2 : Int) : Nat → (List Int) → Int → Option ((List Int) × Int)
  | 0, _, _ => none
  | nl2 + 1, z4, z5 =>
    bif (z5 != 0) then (bif (decide (z5 < 0)) then (some (z4, 11)) else (bif (decide (z5 ≥ (p0.length : Int))) then (some (z4, 11)) else (Option.bind (idx p0 z5) fun x9 =>
    Option.bind (m_R20_Read x9) fun x11 =>
    bif (!x11.2.2) then (some (z4, 11)) else (Option.bind (m_R20_Bucket x11.1.Key) fun x14 =>
    bif (x14 != p2) then (some (z4, 11)) else (bif (decide ((z4.length : Int) ≥ 16384)) then (some (z4, 11)) else (Option.bind (appI 8 z4 [z5]) fun x18 =>
    (m_R20_Walk_l2 p0 p2 nl2) x18 x11.2.1)))))) else (m_R20_Walk_j1 z4)

def m_R20_Walk (p0 : (List (List UInt8))) (p1 : Int) (p2 : Int) : Option ((List Int) × Int) :=
Option.bind (m_R20_Head p0 p1 p2) fun x1 =>
m_R20_Walk_l2 p0 p2 (16400) [] x1

/-- bastille/bastillelaw20.used -/
def m_L20_used_l2 (kl1 : Int → Option Bool) (x3 : ((List Int) × Int)) (p1 : Int) (z1 : Int) : Nat → Int → Option Bool
  | 0, _ => none
  | nl2 + 1, z5 =>
    bif (decide (z5 < (x3.1.length : Int))) then (Option.bind (idx x3.1 z5) fun x7 =>
    bif (x7 == p1) then (some true) else ((m_L20_used_l2 kl1 x3 p1 z1 nl2) (wi (z5 + 1)))) else (kl1 (wi (z1 + 1)))

def m_L20_used_l1 (p0 : (List (List UInt8))) (p1 : Int) : Nat → Int → Option Bool
  | 0, _ => none
  | nl1 + 1, z1 =>
    bif (decide (z1 < 64)) then (Option.bind (m_R20_Walk p0 2 z1) fun x3 =>
    m_L20_used_l2 (m_L20_used_l1 p0 p1 nl1) x3 p1 z1 (x3.1.length + 1) 0) else (some false)

def m_L20_used (p0 : (List (List UInt8))) (p1 : Int) : Option Bool :=
m_L20_used_l1 p0 p1 (Int.toNat 64 + 1) 0

/-- bastille/bastilleref20.Find -/
def m_R20_Find_j1 (x6 : ((List Int) × Int)) : Option (Int × Int) :=
bif (x6.2 != 0) then (some (0, x6.2)) else (some (0, 35))

def m_R20_Find_l2 (x6 : ((List Int) × Int)) (p0 : (List (List UInt8))) (p2 : (List UInt8)) : Nat → Int → Option (Int × Int)
  | 0, _ => none
  | nl2 + 1, z9 =>
    bif (decide (z9 < (x6.1.length : Int))) then (Option.bind (idx x6.1 z9) fun x11 =>
    Option.bind (idx p0 x11) fun x13 =>
    Option.bind (m_R20_Read x13) fun x15 =>
    bif (x15.1.Key == p2) then (Option.bind (idx x6.1 z9) fun x18 =>
    some (x18, 0)) else ((m_R20_Find_l2 x6 p0 p2 nl2) (wi (z9 + 1)))) else (m_R20_Find_j1 x6)

def m_R20_Find (p0 : (List (List UInt8))) (p1 : Int) (p2 : (List UInt8)) : Option (Int × Int) :=
Option.bind (m_R20_Key p2) fun x1 =>
bif (!x1) then (some (0, 2)) else (Option.bind (m_R20_Bucket p2) fun x4 =>
Option.bind (m_R20_Walk p0 p1 x4) fun x6 =>
m_R20_Find_l2 x6 p0 p2 (x6.1.length + 1) 0)

/-- bastille/bastillelaw20.sectors -/
def m_L20_sectors_r_j2 (kl1 : Int → (List (List UInt8)) → Option (List (List UInt8))) (z2 : (List (List UInt8))) (z1 : Int) (y6 : (List UInt8)) : Option (List (List UInt8)) :=
Option.bind (appI 24 z2 [y6]) fun x7 =>
kl1 (wi (z1 + 1)) x7

def m_L20_sectors_r_l1 (p0 : (List (List UInt8))) : Nat → Int → (List (List UInt8)) → Option (List (List UInt8))
  | 0, _, _ => none
  | nl1 + 1, z1, z2 =>
    bif (decide (z1 < 20)) then (Option.bind (mkI 1 64) fun x4 =>
    bif (decide (z1 < (p0.length : Int))) then (Option.bind (idx p0 z1) fun x10 =>
    bif ((x10.length : Int) == 64) then (Option.bind (idx p0 z1) fun x13 =>
    Option.bind (cpyI (List.replicate x4 (0 : UInt8)) 0 x4 x13) fun x15 =>
    Option.bind (lenI x15.length (List.replicate x4 (0 : UInt8)).length) fun x17 =>
    m_L20_sectors_r_j2 (m_L20_sectors_r_l1 p0 nl1) z2 z1 x15) else (m_L20_sectors_r_j2 (m_L20_sectors_r_l1 p0 nl1) z2 z1 (List.replicate x4 (0 : UInt8)))) else (m_L20_sectors_r_j2 (m_L20_sectors_r_l1 p0 nl1) z2 z1 (List.replicate x4 (0 : UInt8)))) else (some z2)

def m_L20_sectors_r (p0 : (List (List UInt8))) : Option (List (List UInt8)) :=
m_L20_sectors_r_l1 p0 (Int.toNat 20 + 1) 0 []

/-- bastille/bastilleref20.name -/
def m_R20_name_v0_l1 (p0 : (List (List UInt8))) (p3 : Int) (p4 : Int) : Nat → Int → Int → Option (List (List UInt8))
  | 0, _, _ => none
  | nl1 + 1, z1, z2 =>
    Option.bind (idx p0 z1) fun x3 =>
    Option.bind (cutI x3 z2 (wi (z2 + 4))) fun x5 =>
    Option.bind (m_R01_Get x5) fun x7 =>
    bif (x7.1 == p3) then (Option.bind (idx p0 z1) fun x10 =>
    bif x10.isEmpty then none else (Option.bind (appI 1 [] x10) fun x13 =>
    Option.bind (vcut x13.length z2 (wi (z2 + 4))) fun x15 =>
    Option.bind (m_R20_number p4 4) fun x17 =>
    bif x13.isEmpty then none else (Option.bind (cpyI x13 (0 + Int.toNat z2 * 1) (Int.toNat (wi (z2 + 4)) - Int.toNat z2) x17) fun x20 =>
    Option.bind (lenI x20.length x13.length) fun x22 =>
    Option.bind (idx p0 z1) fun x24 =>
    some (p0.set (Int.toNat z1) x20)))) else ((m_R20_name_v0_l1 p0 p3 p4 nl1) x7.1 0)

def m_R20_name_v0 (p0 : (List (List UInt8))) (p1 : Int) (p2 : Int) (p3 : Int) (p4 : Int) : Option (List (List UInt8)) :=
m_R20_name_v0_l1 p0 p3 p4 (16400) (wi (p1 + (wi (Int.tdiv p2 16)))) (wi (4 * (Int.tmod p2 16)))

/-- bastille/bastilleref20.Put -/
def m_R20_Put_v0_j1 (p0 : (List (List UInt8))) (p1 : Int) (p3 : S_api_Entry) (p2 : Int) : Option (Int × (List (List UInt8))) :=
Option.bind (m_R20_Find p0 p1 p3.Key) fun x1 =>
bif (x1.2 == 0) then (some (42, p0)) else (bif (x1.2 != 35) then (some (x1.2, p0)) else (Option.bind (m_R20_Bucket p3.Key) fun x5 =>
Option.bind (m_R20_Head p0 p1 x5) fun x7 =>
Option.bind (m_R20_Bytes p3 x7) fun x9 =>
Option.bind (idx p0 p2) fun x11 =>
Option.bind (m_R20_name_v0 (p0.set (Int.toNat p2) x9) p1 x5 x7 p2) fun x13 =>
Option.bind (lenI x13.length (p0.set (Int.toNat p2) x9).length) fun x15 =>
some (0, x13)))

def m_R20_Put_v0 (p0 : (List (List UInt8))) (p1 : Int) (p2 : Int) (p3 : S_api_Entry) : Option (Int × (List (List UInt8))) :=
Option.bind (m_R20_May p3) fun x17 =>
bif (!x17) then (some (2, p0)) else (bif (decide (p2 < 1)) then (some (2, p0)) else (bif (decide (p2 ≥ p1)) then (bif (decide (p2 < (wi (p1 + 4)))) then (some (2, p0)) else (m_R20_Put_v0_j1 p0 p1 p3 p2)) else (m_R20_Put_v0_j1 p0 p1 p3 p2)))

/-- bastille/bastilleref20.Set -/
def m_R20_Set_v0 (p0 : (List (List UInt8))) (p1 : Int) (p2 : S_api_Entry) : Option (Int × (List (List UInt8))) :=
Option.bind (m_R20_May p2) fun x1 =>
bif (!x1) then (some (2, p0)) else (Option.bind (m_R20_Find p0 p1 p2.Key) fun x4 =>
bif (x4.2 != 0) then (some (x4.2, p0)) else (Option.bind (idx p0 x4.1) fun x7 =>
Option.bind (m_R20_Read x7) fun x9 =>
Option.bind (m_R20_Bytes p2 x9.2.1) fun x11 =>
Option.bind (idx p0 x4.1) fun x13 =>
some (0, (p0.set (Int.toNat x4.1) x11))))

/-- bastille/bastilleref20.Drop -/
def m_R20_Drop_v0 (p0 : (List (List UInt8))) (p1 : Int) (p2 : (List UInt8)) : Option (Int × Int × (List (List UInt8))) :=
Option.bind (m_R20_Find p0 p1 p2) fun x1 =>
bif (x1.2 != 0) then (some (0, x1.2, p0)) else (Option.bind (idx p0 x1.1) fun x4 =>
Option.bind (m_R20_Read x4) fun x6 =>
Option.bind (m_R20_Bucket p2) fun x8 =>
Option.bind (m_R20_name_v0 p0 p1 x8 x1.1 x6.2.1) fun x10 =>
Option.bind (lenI x10.length p0.length) fun x12 =>
some (x1.1, 0, x10))

/-- bastille/bastillelaw20.IndexDoes -/
def m_L20_IndexDoes_l2 (y14 : (List (List UInt8))) (x10 : ((Option Nat) × Hp)) (y15 : Hp) : Nat → Int → Option (Bool × Hp)
  | 0, _ => none
  | nl2 + 1, z16 =>
    bif (decide (z16 < (y14.length : Int))) then (Option.bind (m_wal_Txn_Read x10.1 z16 y15) fun x18 =>
    bif (x18.2 != 0) then (some (false, y15)) else (Option.bind (idx y14 z16) fun x21 =>
    Option.bind (m_R01_Same x18.1 x21) fun x23 =>
    bif (!x23) then (some (false, y15)) else ((m_L20_IndexDoes_l2 y14 x10 y15 nl2) (wi (z16 + 1))))) else (some (true, y15))

def m_L20_IndexDoes_j1 (x10 : ((Option Nat) × Hp)) (y14 : (List (List UInt8))) (y15 : Hp) : Option (Bool × Hp) :=
m_L20_IndexDoes_l2 y14 x10 y15 (y14.length + 1) 0

def m_L20_IndexDoes_l3 (p0 : (List S_L20_Do)) (x12 : ((Option Nat) × Hp)) (x10 : ((Option Nat) × Hp)) : Nat → Int → (List (List UInt8)) → Hp → Option (Bool × Hp)
  | 0, _, _, _ => none
  | nl3 + 1, z26, z27, z28 =>
    bif (decide (z26 < (p0.length : Int))) then (Option.bind (idx p0 z26) fun x30 =>
    bif (x30.Kind == 1) then (bif (decide (x30.Home < 0)) then ((m_L20_IndexDoes_l3 p0 x12 x10 nl3) (wi (z26 + 1)) z27 z28) else (bif (decide (x30.Home ≥ (z27.length : Int))) then ((m_L20_IndexDoes_l3 p0 x12 x10 nl3) (wi (z26 + 1)) z27 z28) else (Option.bind (m_L20_used z27 x30.Home) fun x35 =>
    bif x35 then ((m_L20_IndexDoes_l3 p0 x12 x10 nl3) (wi (z26 + 1)) z27 z28) else (ptM x12.1 (Option.bind (m_index_Index_Put none x30.Home x30.E z28) fun x40 =>
    Option.bind (m_R20_Put_v0 z27 2 x30.Home x30.E) fun x42 =>
    Option.bind (lenI x42.2.length z27.length) fun x44 =>
    bif (x40.1 != x42.1) then (some (false, x40.2)) else ((m_L20_IndexDoes_l3 p0 x12 x10 nl3) (wi (z26 + 1)) x42.2 x40.2)) (fun i39 =>
    Option.bind (m_index_Index_Put (some i39) x30.Home x30.E z28) fun x47 =>
    Option.bind (m_R20_Put_v0 z27 2 x30.Home x30.E) fun x49 =>
    Option.bind (lenI x49.2.length z27.length) fun x51 =>
    bif (x47.1 != x49.1) then (some (false, x47.2)) else ((m_L20_IndexDoes_l3 p0 x12 x10 nl3) (wi (z26 + 1)) x49.2 x47.2)))))) else (bif (x30.Kind == 2) then (ptM x12.1 (Option.bind (m_index_Index_Set none x30.E z28) fun x57 =>
    Option.bind (m_R20_Set_v0 z27 2 x30.E) fun x59 =>
    Option.bind (lenI x59.2.length z27.length) fun x61 =>
    bif (x57.1 != x59.1) then (some (false, x57.2)) else ((m_L20_IndexDoes_l3 p0 x12 x10 nl3) (wi (z26 + 1)) x59.2 x57.2)) (fun i56 =>
    Option.bind (m_index_Index_Set (some i56) x30.E z28) fun x64 =>
    Option.bind (m_R20_Set_v0 z27 2 x30.E) fun x66 =>
    Option.bind (lenI x66.2.length z27.length) fun x68 =>
    bif (x64.1 != x66.1) then (some (false, x64.2)) else ((m_L20_IndexDoes_l3 p0 x12 x10 nl3) (wi (z26 + 1)) x66.2 x64.2))) else (bif (x30.Kind == 3) then (Option.bind (m_index_Index_Drop x12.1 x30.E.Key z28) fun x72 =>
    Option.bind (m_R20_Drop_v0 z27 2 x30.E.Key) fun x74 =>
    Option.bind (lenI x74.2.2.length z27.length) fun x76 =>
    bif (x72.1 != x74.1) then (some (false, x72.2.2)) else (bif (x72.2.1 != x74.2.1) then (some (false, x72.2.2)) else ((m_L20_IndexDoes_l3 p0 x12 x10 nl3) (wi (z26 + 1)) x74.2.2 x72.2.2))) else (Option.bind (m_index_Index_Find x12.1 x30.E.Key z28) fun x80 =>
    Option.bind (m_R20_Find z27 2 x30.E.Key) fun x82 =>
    bif (x80.2.1 != x82.1) then (some (false, z28)) else (bif (x80.2.2 != x82.2) then (some (false, z28)) else ((m_L20_IndexDoes_l3 p0 x12 x10 nl3) (wi (z26 + 1)) z27 z28)))))) else (m_L20_IndexDoes_j1 x10 z27 z28)

def m_L20_IndexDoes (p0 : (List S_L20_Do)) (w0 : Hp) : Option (Bool × Hp) :=
Option.bind (m_L20_awake w0) fun x1 =>
bif (!x1.1) then (some (false, x1.2)) else (Option.bind (m_L20_few p0) fun x4 =>
bif (!x4) then (some (true, x1.2)) else (Option.bind (m_L20_sectors_r []) fun x7 =>
bif x7.isEmpty then none else (Option.bind (m_L20_Begun x7 x1.2) fun x10 =>
Option.bind (m_index_At x10.1 2 x10.2) fun x12 =>
m_L20_IndexDoes_l3 p0 x12 x10 (p0.length + 1) 0 x7 x12.2)))
end Go.Proofs.Ytjomnccladjpgaa

/-
  The contract of slices.Clone over sectors.
-/
namespace Go.Proofs.Ytjomnccladjpgaa
open Go Go.RowKit
set_option linter.unusedVariables false
set_option maxHeartbeats 4000000
set_option maxRecDepth 20000
end Go.Proofs.Ytjomnccladjpgaa
