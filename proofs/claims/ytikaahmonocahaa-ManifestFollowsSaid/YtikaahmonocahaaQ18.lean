/-
  Models of functions: printed by a program of this claim's own (gen.py) off the given translation.
-/
import Derived.Test.YtikaahmonocahaaQ10
import Derived.Test.YtikaahmonocahaaQ11
namespace Go.Proofs.Ytikaahmonocahaa
open Go Go.RowKit
set_option linter.unusedVariables false
/-- bastille/codec.plain -/
def m_codec_plain_l1 : Nat → (List UInt8) → Option (List UInt8)
  | 0, _ => none
  | nl1 + 1, z3 =>
    bif (decide ((z3.length : Int) > 0)) then (Option.bind (idx z3 0) fun x5 =>
    bif ((x5.toNat : Int) == 0) then (Option.bind (cutI z3 1 (z3.length : Int)) fun x8 =>
    (m_codec_plain_l1 nl1) x8) else (some z3)) else (some z3)

def m_codec_plain (p0 : Int) : Option (List UInt8) :=
Option.bind (m_word_Put p0 8) fun x1 =>
m_codec_plain_l1 (x1.1.length + 1) x1.1

/-- bastille/codec.pure -/
def m_codec_pure_j1 (y1 : Bool) (y2 : Bool) (y3 : Bool) : Option Bool :=
bif y1 then (bif y2 then (some y3) else (some false)) else (some false)

def m_codec_pure (p0 : V) : Option Bool :=
bif (p0.k == 1) then (bif (decide (p0.n ≥ 0)) then (m_codec_pure_j1 (decide (p0.n ≤ 4611686018427387904)) ((p0.b.length : Int) == 0) ((p0.l.length : Int) == 0)) else (m_codec_pure_j1 false ((p0.b.length : Int) == 0) ((p0.l.length : Int) == 0))) else (bif (p0.k == 2) then (m_codec_pure_j1 (p0.n == 0) (decide ((p0.b.length : Int) ≤ 1048576)) ((p0.l.length : Int) == 0)) else (bif (p0.k == 3) then (m_codec_pure_j1 (p0.n == 0) ((p0.b.length : Int) == 0) (decide ((p0.l.length : Int) ≤ 4096))) else (some false)))

/-- bastille/codec.measure -/
def m_codec_measure_j1 (y11 : Int) : Option (Int × Bool) :=
some (y11, true)

def m_codec_measure_l2 (p0 : V) (self : V → Int → Int → Option (Int × Bool)) (p1 : Int) (p2 : Int) : Nat → Int → Int → Option (Int × Bool)
  | 0, _, _ => none
  | nl2 + 1, z12, z13 =>
    bif (decide (z13 < (p0.l.length : Int))) then (Option.bind (idx p0.l z13) fun x15 =>
    Option.bind (self x15 (wi (p1 - z12)) (wi (p2 - 1))) fun x17 =>
    bif (!x17.2) then (some (0, false)) else ((m_codec_measure_l2 p0 self p1 p2 nl2) (wi (z12 + x17.1)) (wi (z13 + 1)))) else (m_codec_measure_j1 z12)

def m_codec_measure : Nat → V → Int → Int → Option (Int × Bool)
  | 0, _, _, _ => none
  | k0 + 1, p0, p1, p2 =>
    Option.bind (m_codec_pure p0) fun x1 =>
    bif (!x1) then (some (0, false)) else (bif (decide (p1 < 0)) then (some (0, false)) else (bif (decide (p2 < 0)) then (some (0, false)) else (bif (p0.k == 1) then (Option.bind (m_codec_plain p0.n) fun x7 =>
    some ((wi (2 + (x7.length : Int))), true)) else (bif (p0.k == 2) then (some ((wi (4 + (p0.b.length : Int))), true)) else (bif (p2 == 0) then (some (0, false)) else (m_codec_measure_l2 p0 (m_codec_measure k0) p1 p2 (p0.l.length + 1) 3 0))))))

/-- bastille/codec.Size -/
def m_codec_Size (p0 : V) : Option (Int × Bool) :=
Option.bind (m_codec_measure (Int.toNat 16 + 1) p0 1048576 16) fun x1 =>
bif (!x1.2) then (some (0, false)) else (bif (decide (x1.1 > 1048576)) then (some (0, false)) else (some (x1.1, true)))

/-- bastille/codec.put -/
def m_codec_put_l1 (p1 : V) (self : (List UInt8) → V → Option (List UInt8)) : Nat → (List UInt8) → Int → Option (List UInt8)
  | 0, _, _ => none
  | nl1 + 1, z23, z24 =>
    bif (decide (z24 < (p1.l.length : Int))) then (Option.bind (idx p1.l z24) fun x26 =>
    Option.bind (self z23 x26) fun x28 =>
    (m_codec_put_l1 p1 self nl1) x28 (wi (z24 + 1))) else (some z23)

def m_codec_put : Nat → (List UInt8) → V → Option (List UInt8)
  | 0, _, _ => none
  | k0 + 1, p0, p1 =>
    bif (p1.k == 1) then (Option.bind (m_codec_plain p1.n) fun x2 =>
    Option.bind (appI 1 p0 [1, (U8 (x2.length : Int))]) fun x4 =>
    Option.bind (appI 1 x4 x2) fun x6 =>
    some x6) else (bif (p1.k == 2) then (Option.bind (m_word_Put (p1.b.length : Int) 3) fun x9 =>
    Option.bind (appI 1 p0 [2]) fun x11 =>
    Option.bind (appI 1 x11 x9.1) fun x13 =>
    Option.bind (appI 1 x13 p1.b) fun x15 =>
    some x15) else (Option.bind (m_word_Put (p1.l.length : Int) 2) fun x17 =>
    Option.bind (appI 1 p0 [3]) fun x19 =>
    Option.bind (appI 1 x19 x17.1) fun x21 =>
    m_codec_put_l1 p1 (m_codec_put k0) (p1.l.length + 1) x21 0))

/-- bastille/codec.put, of nil -/
def m_codec_put_n0_l1 (p1 : V) : Nat → (List UInt8) → Int → Option (List UInt8)
  | 0, _, _ => none
  | nl1 + 1, z23, z24 =>
    bif (decide (z24 < (p1.l.length : Int))) then (Option.bind (idx p1.l z24) fun x26 =>
    Option.bind (m_codec_put (V.ht x26) z23 x26) fun x28 =>
    (m_codec_put_n0_l1 p1 nl1) x28 (wi (z24 + 1))) else (some z23)

def m_codec_put_n0 (p1 : V) : Option (List UInt8) :=
bif (p1.k == 1) then (Option.bind (m_codec_plain p1.n) fun x2 =>
Option.bind (appI 1 [] [1, (U8 (x2.length : Int))]) fun x4 =>
Option.bind (appI 1 x4 x2) fun x6 =>
some x6) else (bif (p1.k == 2) then (Option.bind (m_word_Put (p1.b.length : Int) 3) fun x9 =>
Option.bind (appI 1 [] [2]) fun x11 =>
Option.bind (appI 1 x11 x9.1) fun x13 =>
Option.bind (appI 1 x13 p1.b) fun x15 =>
some x15) else (Option.bind (m_word_Put (p1.l.length : Int) 2) fun x17 =>
Option.bind (appI 1 [] [3]) fun x19 =>
Option.bind (appI 1 x19 x17.1) fun x21 =>
m_codec_put_n0_l1 p1 (p1.l.length + 1) x21 0))

/-- bastille/codec.Encode -/
def m_codec_Encode (p0 : V) : Option ((List UInt8) × Int) :=
Option.bind (m_codec_Size p0) fun x1 =>
bif (!x1.2) then (some ([], 2)) else (Option.bind (m_codec_put_n0 p0) fun x4 =>
some (x4, 0))

/-- bastille/codec.Num -/
def m_codec_Num (p0 : Int) : Option V :=
some (V.mk 1 p0 [] [])

/-- bastille/codec.Of -/
def m_codec_Of (p0 : (List V)) : Option V :=
some (V.mk 3 0 [] p0)

/-- bastille/codec.Raw -/
def m_codec_Raw (p0 : (List UInt8)) : Option V :=
some (V.mk 2 0 p0 [])

/-- bastille/bastilleref01.Same -/
def m_R01_Same_l1 (p0 : (List UInt8)) (p1 : (List UInt8)) : Nat → Int → Option Bool
  | 0, _ => none
  | nl1 + 1, z2 =>
    bif (decide (z2 < (p0.length : Int))) then (Option.bind (idx p0 z2) fun x4 =>
    Option.bind (idx p1 z2) fun x6 =>
    bif ((x4.toNat : Int) != (x6.toNat : Int)) then (some false) else ((m_R01_Same_l1 p0 p1 nl1) (wi (z2 + 1)))) else (some true)

def m_R01_Same (p0 : (List UInt8)) (p1 : (List UInt8)) : Option Bool :=
bif ((p0.length : Int) != (p1.length : Int)) then (some false) else (m_R01_Same_l1 p0 p1 (p0.length + 1) 0)

/-- bastille/bastilleref01.Low -/
def m_R01_Low_j1 (y5 : Int) (y6 : (List UInt8)) : Option ((List UInt8) × Int) :=
bif (decide (y5 > 0)) then (some ([], 2)) else (some (y6, 0))

def m_R01_Low_l2 (p1 : Int) : Nat → Int → (List UInt8) → Int → Option ((List UInt8) × Int)
  | 0, _, _, _ => none
  | nl2 + 1, z8, z9, z10 =>
    bif (decide (z10 < p1)) then (Option.bind (appI 1 z9 [(U8 (Int.tmod z8 256))]) fun x12 =>
    (m_R01_Low_l2 p1 nl2) (wi (Int.tdiv z8 256)) x12 (wi (z10 + 1))) else (m_R01_Low_j1 z8 z9)

def m_R01_Low (p0 : Int) (p1 : Int) : Option ((List UInt8) × Int) :=
bif (decide (p1 < 1)) then (some ([], 2)) else (bif (decide (p1 > 8)) then (some ([], 2)) else (bif (decide (p0 < 0)) then (some ([], 2)) else (bif (decide (p0 > 4611686018427387904)) then (some ([], 2)) else (m_R01_Low_l2 p1 (Int.toNat p1 + 1) p0 [] 0))))

/-- bastille/bastilleref01.Turned -/
def m_R01_Turned_l1 (p0 : (List UInt8)) : Nat → (List UInt8) → Int → Option (List UInt8)
  | 0, _, _ => none
  | nl1 + 1, z1, z2 =>
    bif (decide (z2 ≥ 0)) then (Option.bind (idx p0 z2) fun x4 =>
    Option.bind (appI 1 z1 [x4]) fun x6 =>
    (m_R01_Turned_l1 p0 nl1) x6 (wi (z2 - 1))) else (some z1)

def m_R01_Turned (p0 : (List UInt8)) : Option (List UInt8) :=
m_R01_Turned_l1 p0 (Int.toNat (wi ((p0.length : Int) - 1)) + 2) [] (wi ((p0.length : Int) - 1))

/-- bastille/bastilleref01.Put -/
def m_R01_Put (p0 : Int) (p1 : Int) : Option ((List UInt8) × Int) :=
Option.bind (m_R01_Low p0 p1) fun x1 =>
Option.bind (m_R01_Turned x1.1) fun x3 =>
some (x3, x1.2)

/-- bastille/bastilleref02.Bytes -/
def m_R02_Bytes_j1 (p0 : V) (y2 : Int) : Option (List UInt8) :=
bif (decide (y2 > 0)) then (Option.bind (m_R01_Put p0.n y2) fun x4 =>
Option.bind (appI 1 [1, (U8 y2)] x4.1) fun x6 =>
some x6) else (some [1, (U8 y2)])

def m_R02_Bytes_l2 (p0 : V) : Nat → Int → Int → Option (List UInt8)
  | 0, _, _ => none
  | nl2 + 1, z8, z9 =>
    bif (decide (z9 > 0)) then ((m_R02_Bytes_l2 p0 nl2) (wi (z8 + 1)) (wi (Int.tdiv z9 256))) else (m_R02_Bytes_j1 p0 z8)

def m_R02_Bytes_l3 (p0 : V) (self : V → Option (List UInt8)) : Nat → (List UInt8) → Int → Option (List UInt8)
  | 0, _, _ => none
  | nl3 + 1, z22, z23 =>
    bif (decide (z23 < (p0.l.length : Int))) then (Option.bind (idx p0.l z23) fun x25 =>
    Option.bind (self x25) fun x27 =>
    Option.bind (appI 1 z22 x27) fun x29 =>
    (m_R02_Bytes_l3 p0 self nl3) x29 (wi (z23 + 1))) else (some z22)

def m_R02_Bytes : Nat → V → Option (List UInt8)
  | 0, _ => none
  | k0 + 1, p0 =>
    bif (p0.k == 1) then (m_R02_Bytes_l2 p0 (70) 0 p0.n) else (bif (p0.k == 2) then (Option.bind (m_R01_Put (p0.b.length : Int) 3) fun x12 =>
    Option.bind (appI 1 [2] x12.1) fun x14 =>
    Option.bind (appI 1 x14 p0.b) fun x16 =>
    some x16) else (Option.bind (m_R01_Put (p0.l.length : Int) 2) fun x18 =>
    Option.bind (appI 1 [3] x18.1) fun x20 =>
    m_R02_Bytes_l3 p0 (m_R02_Bytes k0) (p0.l.length + 1) x20 0))

/-- bastille/tree.Name -/
def m_tree_Name_j1 (p0 : (List UInt8)) : Option Bool :=
bif (decide ((p0.length : Int) ≥ 1)) then (some (decide ((p0.length : Int) ≤ 12))) else (some false)

def m_tree_Name_l2 (p0 : (List UInt8)) : Nat → Int → Option Bool
  | 0, _ => none
  | nl2 + 1, z2 =>
    bif (decide (z2 < (p0.length : Int))) then (Option.bind (idx p0 z2) fun x4 =>
    bif (decide ((x4.toNat : Int) < 97)) then (bif (decide ((x4.toNat : Int) < 48)) then (some false) else (bif (decide ((x4.toNat : Int) > 57)) then (some false) else ((m_tree_Name_l2 p0 nl2) (wi (z2 + 1))))) else (bif (decide ((x4.toNat : Int) > 122)) then (bif (decide ((x4.toNat : Int) < 48)) then (some false) else (bif (decide ((x4.toNat : Int) > 57)) then (some false) else ((m_tree_Name_l2 p0 nl2) (wi (z2 + 1))))) else ((m_tree_Name_l2 p0 nl2) (wi (z2 + 1))))) else (m_tree_Name_j1 p0)

def m_tree_Name (p0 : (List UInt8)) : Option Bool :=
m_tree_Name_l2 p0 (p0.length + 1) 0

/-- bastille/bastilleref25.Name -/
def m_R25_Name_j2 (kl1 : Int → Option Bool) (z3 : Int) : Option Bool :=
kl1 (wi (z3 + 1))

def m_R25_Name_j4 (kl1 : Int → Option Bool) (y5 : Bool) (z3 : Int) (y6 : Bool) : Option Bool :=
bif (!y5) then (bif (!y6) then (some false) else (m_R25_Name_j2 kl1 z3)) else (m_R25_Name_j2 kl1 z3)

def m_R25_Name_j3 (kl1 : Int → Option Bool) (p0 : (List UInt8)) (z3 : Int) (y5 : Bool) : Option Bool :=
Option.bind (idx p0 z3) fun x9 =>
bif (decide ((x9.toNat : Int) ≥ 48)) then (Option.bind (idx p0 z3) fun x12 =>
m_R25_Name_j4 kl1 y5 z3 (decide ((x12.toNat : Int) ≤ 57))) else (m_R25_Name_j4 kl1 y5 z3 false)

def m_R25_Name_l1 (p0 : (List UInt8)) : Nat → Int → Option Bool
  | 0, _ => none
  | nl1 + 1, z3 =>
    bif (decide (z3 < (p0.length : Int))) then (Option.bind (idx p0 z3) fun x14 =>
    bif (decide ((x14.toNat : Int) ≥ 97)) then (Option.bind (idx p0 z3) fun x17 =>
    m_R25_Name_j3 (m_R25_Name_l1 p0 nl1) p0 z3 (decide ((x17.toNat : Int) ≤ 122))) else (m_R25_Name_j3 (m_R25_Name_l1 p0 nl1) p0 z3 false)) else (some true)

def m_R25_Name (p0 : (List UInt8)) : Option Bool :=
bif (decide ((p0.length : Int) < 1)) then (some false) else (bif (decide ((p0.length : Int) > 12)) then (some false) else (m_R25_Name_l1 p0 (p0.length + 1) 0))
end Go.Proofs.Ytikaahmonocahaa
