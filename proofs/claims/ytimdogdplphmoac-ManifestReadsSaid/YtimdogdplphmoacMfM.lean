/-
  Models of functions: printed by a program of this claim's own (gen.py) off the given translation.
-/
import Derived.Test.YtimdogdplphmoacCbM
namespace Go.Proofs.Ytimdogdplphmoac
open Go Go.RowKit
set_option linter.unusedVariables false
structure S_api_Member where
  Name : (List UInt8)
  Role : Int

abbrev cS_api_Member (x : S_api_Member) : List D := [.lit (.string ⟨⟨x.Name⟩⟩), .lit (.int .i64 x.Role)]

structure S_api_Manifest where
  Folder : (List UInt8)
  Seq : Int
  Prev : (List UInt8)
  Parent : (List UInt8)
  Members : (List S_api_Member)
  Cut : Int
  Gone : Bool
  By : (List UInt8)

/-- bastille/tree.Name -/
def m_tree_Name_j1 (p0 : (List UInt8)) : Option Bool :=
bif (decide ((p0.length : Int) ≥ 1)) then (some (decide ((p0.length : Int) ≤ 12))) else (some false)

def m_tree_Name_l2 (p0 : (List UInt8)) : Nat → Int → Option Bool
  | 0, _ => none
  | nl2 + 1, z2 =>
    bif (decide (z2 < (p0.length : Int))) then (Option.bind (idx p0 z2) fun x4 =>
    bif (decide ((x4.toNat : Int) < 97)) then (bif (decide ((x4.toNat : Int) < 48)) then (some false) else (bif (decide ((x4.toNat : Int) > 57)) then (some false) else ((m_tree_Name_l2 p0 nl2) (wi (z2 + 1))))) else (bif (decide ((x4.toNat : Int) > 122)) then (bif (decide ((x4.toNat : Int) < 48)) then (some false) else (bif (decide ((x4.toNat : Int) > 57)) then (some false) else ((m_tree_Name_l2 p0 nl2) (wi (z2 + 1))))) else ((m_tree_Name_l2 p0 nl2) (wi (z2 + 1))))) else (m_tree_Name_j1 p0)

def m_tree_Name (p0 : (List UInt8)) : Option Bool :=
m_tree_Name_l2 p0 (p0.length + 1) 0

/-- bastille/role.is -/
def m_role_is (p0 : Int) : Option Bool :=
bif (decide (p0 ≥ 1)) then (some (decide (p0 ≤ 4))) else (some false)

/-- bastille/role.With -/
def m_role_With_l1 (p0 : (List S_api_Member)) (p1 : Int) : Nat → (List (List UInt8)) → Int → Option (List (List UInt8))
  | 0, _, _ => none
  | nl1 + 1, z1, z2 =>
    bif (decide (z2 < (p0.length : Int))) then (Option.bind (idx p0 z2) fun x4 =>
    bif (decide (x4.Role ≥ p1)) then (Option.bind (appI 16 z1 [x4.Name]) fun x7 =>
    (m_role_With_l1 p0 p1 nl1) x7 (wi (z2 + 1))) else ((m_role_With_l1 p0 p1 nl1) z1 (wi (z2 + 1)))) else (some z1)

def m_role_With (p0 : (List S_api_Member)) (p1 : Int) : Option (List (List UInt8)) :=
m_role_With_l1 p0 p1 (p0.length + 1) [] 0

/-- bastille/role.owners -/
def m_role_owners (p0 : (List S_api_Member)) : Option Int :=
Option.bind (m_role_With p0 4) fun x1 =>
some (x1.length : Int)

/-- bastille/role.Right -/
def m_role_Right_j1 (p0 : (List S_api_Member)) : Option Bool :=
bif (decide ((p0.length : Int) ≤ 8)) then (Option.bind (m_role_owners p0) fun x2 =>
some (decide (x2 > 0))) else (some false)

def m_role_Right_l2 (p0 : (List S_api_Member)) : Nat → Int → Option Bool
  | 0, _ => none
  | nl2 + 1, z4 =>
    bif (decide (z4 < (p0.length : Int))) then (Option.bind (idx p0 z4) fun x6 =>
    Option.bind (m_tree_Name x6.Name) fun x8 =>
    bif (!x8) then (some false) else (Option.bind (m_role_is x6.Role) fun x11 =>
    bif (!x11) then (some false) else (bif (decide (z4 > 0)) then (Option.bind (idx p0 (wi (z4 - 1))) fun x15 =>
    bif (!(sLt x15.Name x6.Name)) then (some false) else ((m_role_Right_l2 p0 nl2) (wi (z4 + 1)))) else ((m_role_Right_l2 p0 nl2) (wi (z4 + 1)))))) else (m_role_Right_j1 p0)

def m_role_Right (p0 : (List S_api_Member)) : Option Bool :=
m_role_Right_l2 p0 (p0.length + 1) 0

/-- bastille/manifest.may -/
def m_manifest_may_j1 (p0 : S_api_Manifest) : Option Bool :=
Option.bind (m_role_Right p0.Members) fun x1 =>
bif x1 then (bif (decide (p0.Cut ≥ 0)) then (some (decide (p0.Cut ≤ p0.Seq))) else (some false)) else (some false)

def m_manifest_may_j3 (p0 : S_api_Manifest) (y7 : Bool) : Option Bool :=
bif y7 then (some false) else (bif (!(p0.Parent == [])) then (Option.bind (m_tree_Name p0.Parent) fun x10 =>
bif (!x10) then (some false) else (bif (p0.Parent == p0.Folder) then (some false) else (m_manifest_may_j1 p0))) else (bif (p0.Parent == p0.Folder) then (some false) else (m_manifest_may_j1 p0)))

def m_manifest_may_j2 (p0 : S_api_Manifest) (y5 : Bool) : Option Bool :=
bif y5 then (some false) else (bif (!((p0.Seq == 1) == ((p0.Prev.length : Int) == 0))) then (m_manifest_may_j3 p0 true) else (m_manifest_may_j3 p0 (decide ((p0.Prev.length : Int) > 64))))

def m_manifest_may (p0 : S_api_Manifest) : Option Bool :=
Option.bind (m_tree_Name p0.Folder) fun x16 =>
bif (!x16) then (m_manifest_may_j2 p0 true) else (Option.bind (m_tree_Name p0.By) fun x19 =>
bif (!x19) then (m_manifest_may_j2 p0 true) else (bif (decide (p0.Seq < 1)) then (m_manifest_may_j2 p0 true) else (m_manifest_may_j2 p0 (decide (p0.Seq > 1099511627776)))))

/-- bastille/manifest.word -/
def m_manifest_word (p0 : (List UInt8)) : Option V :=
Option.bind (strB p0) fun x1 =>
Option.bind (m_codec_Raw x1) fun x3 =>
some (V.mk x3.k x3.n x3.b [])

/-- bastille/manifest.bit -/
def m_manifest_bit (p0 : Bool) : Option Int :=
bif p0 then (some 1) else (some 0)

/-- bastille/manifest.Text -/
def m_manifest_Text_j1 (p0 : S_api_Manifest) (x4 : V) (y6 : (List V)) : Option ((List UInt8) × Int) :=
Option.bind (m_manifest_word [109, 97, 110, 105, 102, 101, 115, 116]) fun x7 =>
Option.bind (m_manifest_word p0.Folder) fun x9 =>
Option.bind (m_codec_Num p0.Seq) fun x11 =>
Option.bind (m_codec_Raw p0.Prev) fun x13 =>
Option.bind (m_manifest_word p0.Parent) fun x15 =>
Option.bind (m_codec_Num p0.Cut) fun x17 =>
Option.bind (m_manifest_bit p0.Gone) fun x19 =>
Option.bind (m_codec_Num x19) fun x21 =>
Option.bind (m_manifest_word p0.By) fun x23 =>
Option.bind (m_codec_Of [(V.mk x7.k x7.n x7.b []), (V.mk x9.k x9.n x9.b []), (V.mk x11.k x11.n [] []), (V.mk x13.k x13.n x13.b []), (V.mk x15.k x15.n x15.b []), (V.mk x4.k x4.n [] y6), (V.mk x17.k x17.n [] []), (V.mk x21.k x21.n [] []), (V.mk x23.k x23.n x23.b [])]) fun x25 =>
Option.bind (m_codec_Encode (V.mk x25.k x25.n [] x25.l)) fun x27 =>
some (x27.1, x27.2)

def m_manifest_Text_l2 (p0 : S_api_Manifest) (x4 : V) : Nat → (List V) → Int → Option ((List UInt8) × Int)
  | 0, _, _ => none
  | nl2 + 1, z29, z30 =>
    bif (decide (z30 < (p0.Members.length : Int))) then (Option.bind (idx p0.Members z30) fun x32 =>
    Option.bind (m_manifest_word x32.Name) fun x34 =>
    Option.bind (m_codec_Num x32.Role) fun x36 =>
    Option.bind (m_codec_Of [(V.mk x34.k x34.n x34.b []), (V.mk x36.k x36.n [] [])]) fun x38 =>
    Option.bind (appI 64 z29 [(V.mk x38.k x38.n [] x38.l)]) fun x40 =>
    (m_manifest_Text_l2 p0 x4 nl2) x40 (wi (z30 + 1))) else (m_manifest_Text_j1 p0 x4 z29)

def m_manifest_Text (p0 : S_api_Manifest) : Option ((List UInt8) × Int) :=
Option.bind (m_manifest_may p0) fun x1 =>
bif (!x1) then (some ([], 2)) else (Option.bind (m_codec_Of_n0) fun x4 =>
m_manifest_Text_l2 p0 x4 (p0.Members.length + 1) [] 0)

/-- bastille/manifest.Begins -/
def m_manifest_Begins (p0 : S_api_Manifest) : Option Int :=
Option.bind (m_manifest_may p0) fun x1 =>
bif (!x1) then (some 2) else (bif (p0.Seq != 1) then (some 11) else (bif ((p0.Members.length : Int) != 1) then (some 11) else (Option.bind (idx p0.Members 0) fun x6 =>
bif (!(x6.Name == p0.By)) then (some 11) else (bif (p0.Cut != 0) then (some 11) else (bif p0.Gone then (some 11) else (some 0))))))

/-- bastille/bastilleref28.Of -/
def m_R28_Of (p0 : (List V)) : Option V :=
some (V.mk 3 0 [] p0)

/-- bastille/bastilleref28.Raw -/
def m_R28_Raw (p0 : (List UInt8)) : Option V :=
some (V.mk 2 0 p0 [])

/-- bastille/bastilleref28.Num -/
def m_R28_Num (p0 : Int) : Option V :=
some (V.mk 1 p0 [] [])

/-- bastille/bastilleref28.Text -/
def m_R28_Text_j2 (p0 : S_api_Manifest) (y1 : (List V)) (y2 : Int) : Option (List UInt8) :=
Option.bind (m_R28_Raw [109, 97, 110, 105, 102, 101, 115, 116]) fun x3 =>
Option.bind (strB p0.Folder) fun x5 =>
Option.bind (m_R28_Raw x5) fun x7 =>
Option.bind (m_R28_Num p0.Seq) fun x9 =>
Option.bind (m_R28_Raw p0.Prev) fun x11 =>
Option.bind (strB p0.Parent) fun x13 =>
Option.bind (m_R28_Raw x13) fun x15 =>
Option.bind (m_R28_Of y1) fun x17 =>
Option.bind (m_R28_Num p0.Cut) fun x19 =>
Option.bind (m_R28_Num y2) fun x21 =>
Option.bind (strB p0.By) fun x23 =>
Option.bind (m_R28_Raw x23) fun x25 =>
Option.bind (m_R28_Of [(V.mk x3.k x3.n x3.b []), (V.mk x7.k x7.n x7.b []), (V.mk x9.k x9.n [] []), (V.mk x11.k x11.n x11.b []), (V.mk x15.k x15.n x15.b []), (V.mk x17.k x17.n [] x17.l), (V.mk x19.k x19.n [] []), (V.mk x21.k x21.n [] []), (V.mk x25.k x25.n x25.b [])]) fun x27 =>
Option.bind (m_R02_Bytes (V.ht (V.mk x27.k x27.n [] x27.l)) (V.mk x27.k x27.n [] x27.l)) fun x29 =>
some x29

def m_R28_Text_j1 (p0 : S_api_Manifest) (y1 : (List V)) : Option (List UInt8) :=
bif p0.Gone then (m_R28_Text_j2 p0 y1 1) else (m_R28_Text_j2 p0 y1 0)

def m_R28_Text_l3 (p0 : S_api_Manifest) : Nat → (List V) → Int → Option (List UInt8)
  | 0, _, _ => none
  | nl3 + 1, z32, z33 =>
    bif (decide (z33 < (p0.Members.length : Int))) then (Option.bind (idx p0.Members z33) fun x35 =>
    Option.bind (strB x35.Name) fun x37 =>
    Option.bind (m_R28_Raw x37) fun x39 =>
    Option.bind (idx p0.Members z33) fun x41 =>
    Option.bind (m_R28_Num x41.Role) fun x43 =>
    Option.bind (m_R28_Of [(V.mk x39.k x39.n x39.b []), (V.mk x43.k x43.n [] [])]) fun x45 =>
    Option.bind (appI 64 z32 [(V.mk x45.k x45.n [] x45.l)]) fun x47 =>
    (m_R28_Text_l3 p0 nl3) x47 (wi (z33 + 1))) else (m_R28_Text_j1 p0 z32)

def m_R28_Text (p0 : S_api_Manifest) : Option (List UInt8) :=
m_R28_Text_l3 p0 (p0.Members.length + 1) [] 0

/-- bastille/bastillelaw28.awake -/
def m_L28_awake : Option Bool :=
Option.bind (m_manifest_Text (S_api_Manifest.mk [102] 1 [] [] [(S_api_Member.mk [97] 4)] 0 false [97])) fun x1 =>
bif (x1.2 == 0) then (Option.bind (m_manifest_Begins (S_api_Manifest.mk [102] 1 [] [] [(S_api_Member.mk [97] 4)] 0 false [97])) fun x4 =>
bif (x4 == 0) then (Option.bind (m_R28_Text (S_api_Manifest.mk [102] 1 [] [] [(S_api_Member.mk [97] 4)] 0 false [97])) fun x7 =>
Option.bind (m_R01_Same x1.1 x7) fun x9 =>
some x9) else (some false)) else (some false)

/-- bastille/bastillelaw28.Few -/
def m_L28_Few_j1 (p0 : S_api_Manifest) : Option Bool :=
bif (decide ((p0.Folder.length : Int) ≤ 20)) then (bif (decide ((p0.By.length : Int) ≤ 20)) then (bif (decide ((p0.Parent.length : Int) ≤ 20)) then (bif (decide ((p0.Members.length : Int) ≤ 20)) then (some (decide ((p0.Prev.length : Int) ≤ 100))) else (some false)) else (some false)) else (some false)) else (some false)

def m_L28_Few_l2 (p0 : S_api_Manifest) : Nat → Int → Option Bool
  | 0, _ => none
  | nl2 + 1, z5 =>
    bif (decide (z5 < (p0.Members.length : Int))) then (Option.bind (idx p0.Members z5) fun x7 =>
    bif (decide ((x7.Name.length : Int) > 20)) then (some false) else ((m_L28_Few_l2 p0 nl2) (wi (z5 + 1)))) else (m_L28_Few_j1 p0)

def m_L28_Few (p0 : S_api_Manifest) : Option Bool :=
m_L28_Few_l2 p0 (p0.Members.length + 1) 0

/-- bastille/bastilleref25.Name -/
def m_R25_Name_j2 (kl1 : Int → Option Bool) (z3 : Int) : Option Bool :=
kl1 (wi (z3 + 1))

def m_R25_Name_j4 (kl1 : Int → Option Bool) (y5 : Bool) (z3 : Int) (y6 : Bool) : Option Bool :=
bif (!y5) then (bif (!y6) then (some false) else (m_R25_Name_j2 kl1 z3)) else (m_R25_Name_j2 kl1 z3)

def m_R25_Name_j3 (kl1 : Int → Option Bool) (p0 : (List UInt8)) (z3 : Int) (y5 : Bool) : Option Bool :=
Option.bind (idx p0 z3) fun x9 =>
bif (decide ((x9.toNat : Int) ≥ 48)) then (Option.bind (idx p0 z3) fun x12 =>
m_R25_Name_j4 kl1 y5 z3 (decide ((x12.toNat : Int) ≤ 57))) else (m_R25_Name_j4 kl1 y5 z3 false)

def m_R25_Name_l1 (p0 : (List UInt8)) : Nat → Int → Option Bool
  | 0, _ => none
  | nl1 + 1, z3 =>
    bif (decide (z3 < (p0.length : Int))) then (Option.bind (idx p0 z3) fun x14 =>
    bif (decide ((x14.toNat : Int) ≥ 97)) then (Option.bind (idx p0 z3) fun x17 =>
    m_R25_Name_j3 (m_R25_Name_l1 p0 nl1) p0 z3 (decide ((x17.toNat : Int) ≤ 122))) else (m_R25_Name_j3 (m_R25_Name_l1 p0 nl1) p0 z3 false)) else (some true)

def m_R25_Name (p0 : (List UInt8)) : Option Bool :=
bif (decide ((p0.length : Int) < 1)) then (some false) else (bif (decide ((p0.length : Int) > 12)) then (some false) else (m_R25_Name_l1 p0 (p0.length + 1) 0))

/-- bastille/bastilleref27.Owners -/
def m_R27_Owners_j2 (kl1 : Int → Int → Option Int) (z2 : Int) (y4 : Int) : Option Int :=
kl1 y4 (wi (z2 + 1))

def m_R27_Owners_l1 (p0 : (List S_api_Member)) : Nat → Int → Int → Option Int
  | 0, _, _ => none
  | nl1 + 1, z1, z2 =>
    bif (decide (z2 < (p0.length : Int))) then (Option.bind (idx p0 z2) fun x5 =>
    bif (x5.Role == 4) then (m_R27_Owners_j2 (m_R27_Owners_l1 p0 nl1) z2 (wi (z1 + 1))) else (m_R27_Owners_j2 (m_R27_Owners_l1 p0 nl1) z2 z1)) else (some z1)

def m_R27_Owners (p0 : (List S_api_Member)) : Option Int :=
m_R27_Owners_l1 p0 (p0.length + 1) 0 0

/-- bastille/bastilleref27.Right -/
def m_R27_Right_j2 (kl1 : Int → Option Bool) (z5 : Int) (y7 : (List UInt8)) (y8 : Int) (y9 : Int) (y10 : Int) (y11 : Bool) (y12 : (List UInt8)) (y13 : Int) (y14 : Int) (y15 : Int) (y16 : Bool) : Option Bool :=
kl1 (wi (z5 + 1))

def m_R27_Right_l3 (kl1 : Int → Option Bool) (z5 : Int) (p0 : (List S_api_Member)) (x22 : S_api_Member) (x25 : S_api_Member) : Nat → Int → Option Bool
  | 0, _ => none
  | nl3 + 1, z28 =>
    bif (decide (z28 < z5)) then (Option.bind (idx p0 z28) fun x30 =>
    Option.bind (idx p0 z5) fun x32 =>
    bif (!(sLt x30.Name x32.Name)) then (some false) else ((m_R27_Right_l3 kl1 z5 p0 x22 x25 nl3) (wi (z28 + 1)))) else (m_R27_Right_j2 kl1 z5 x22.Name x22.Role x22.Role x22.Role (decide (x22.Role < 1)) x25.Name x25.Role x25.Role x25.Role (decide (x25.Role > 4)))

def m_R27_Right_l1 (p0 : (List S_api_Member)) : Nat → Int → Option Bool
  | 0, _ => none
  | nl1 + 1, z5 =>
    bif (decide (z5 < (p0.length : Int))) then (Option.bind (idx p0 z5) fun x17 =>
    Option.bind (m_R25_Name x17.Name) fun x19 =>
    bif (!x19) then (some false) else (Option.bind (idx p0 z5) fun x22 =>
    bif (decide (x22.Role < 1)) then (some false) else (Option.bind (idx p0 z5) fun x25 =>
    bif (decide (x25.Role > 4)) then (some false) else (m_R27_Right_l3 (m_R27_Right_l1 p0 nl1) z5 p0 x22 x25 (Int.toNat z5 + 1) 0)))) else (some true)

def m_R27_Right (p0 : (List S_api_Member)) : Option Bool :=
bif (decide ((p0.length : Int) > 8)) then (some false) else (Option.bind (m_R27_Owners p0) fun x2 =>
bif (x2 == 0) then (some false) else (m_R27_Right_l1 p0 (p0.length + 1) 0))

/-- bastille/bastilleref28.May -/
def m_R28_May_j1 (p0 : S_api_Manifest) : Option Bool :=
bif (p0.Parent == []) then (some true) else (Option.bind (m_R25_Name p0.Parent) fun x15 =>
bif x15 then (some (!(p0.Parent == p0.Folder))) else (some false))

def m_R28_May (p0 : S_api_Manifest) : Option Bool :=
Option.bind (m_R25_Name p0.Folder) fun x1 =>
bif (!x1) then (some false) else (Option.bind (m_R25_Name p0.By) fun x4 =>
bif (!x4) then (some false) else (Option.bind (m_R27_Right p0.Members) fun x7 =>
bif (!x7) then (some false) else (bif (decide (p0.Seq < 1)) then (some false) else (bif (decide (p0.Seq > 1099511627776)) then (some false) else (bif (decide (p0.Cut < 0)) then (some false) else (bif (decide (p0.Cut > p0.Seq)) then (some false) else (bif (p0.Seq == 1) then (bif (decide ((p0.Prev.length : Int) > 0)) then (some false) else (bif (decide (p0.Seq > 1)) then (bif ((p0.Prev.length : Int) == 0) then (some false) else (bif (decide ((p0.Prev.length : Int) > 64)) then (some false) else (m_R28_May_j1 p0))) else (m_R28_May_j1 p0))) else (bif (decide (p0.Seq > 1)) then (bif ((p0.Prev.length : Int) == 0) then (some false) else (bif (decide ((p0.Prev.length : Int) > 64)) then (some false) else (m_R28_May_j1 p0))) else (m_R28_May_j1 p0)))))))))

/-- bastille/codec.Fields -/
def m_codec_Fields_j1 (p0 : V) : Option ((List V) × Bool) :=
some (p0.l, true)

def m_codec_Fields_j3 (kl2 : Int → Option ((List V) × Bool)) (p0 : V) (z3 : Int) (x5 : Int) : Option ((List V) × Bool) :=
Option.bind (idx p0.l z3) fun x7 =>
bif (x7.k != x5) then (some ([], false)) else (kl2 (wi (z3 + 1)))

def m_codec_Fields_l2 (p1 : (List Int)) (p0 : V) : Nat → Int → Option ((List V) × Bool)
  | 0, _ => none
  | nl2 + 1, z3 =>
    bif (decide (z3 < (p1.length : Int))) then (Option.bind (idx p1 z3) fun x5 =>
    bif (x5 == 1) then (m_codec_Fields_j3 (m_codec_Fields_l2 p1 p0 nl2) p0 z3 x5) else (bif (x5 == 2) then (m_codec_Fields_j3 (m_codec_Fields_l2 p1 p0 nl2) p0 z3 x5) else (m_codec_Fields_j3 (m_codec_Fields_l2 p1 p0 nl2) p0 z3 x5))) else (m_codec_Fields_j1 p0)

def m_codec_Fields (p0 : V) (p1 : (List Int)) : Option ((List V) × Bool) :=
bif (p0.k != 3) then (some ([], false)) else (bif ((p0.l.length : Int) != (p1.length : Int)) then (some ([], false)) else (m_codec_Fields_l2 p1 p0 (p1.length + 1) 0))

/-- bastille/manifest.Read -/
def m_manifest_Read_j1 (x10 : V) (x12 : V) (x14 : V) (x16 : V) (x18 : V) (x20 : V) (x22 : V) (x4 : ((List V) × Bool)) (y24 : (List S_api_Member)) : Option (S_api_Manifest × Int) :=
Option.bind (m_manifest_may (S_api_Manifest.mk x10.b x12.n x14.b x16.b y24 x18.n (x20.n == 1) x22.b)) fun x25 =>
bif (!x25) then (some ((S_api_Manifest.mk [] 0 [] [] [] 0 false []), 11)) else (Option.bind (idx x4.1 7) fun x28 =>
bif (decide (x28.n > 1)) then (some ((S_api_Manifest.mk [] 0 [] [] [] 0 false []), 11)) else (some ((S_api_Manifest.mk x10.b x12.n x14.b x16.b y24 x18.n (x20.n == 1) x22.b), 0)))

def m_manifest_Read_l2 (x31 : V) (x10 : V) (x12 : V) (x14 : V) (x16 : V) (x18 : V) (x20 : V) (x22 : V) (x4 : ((List V) × Bool)) : Nat → (List S_api_Member) → Int → Option (S_api_Manifest × Int)
  | 0, _, _ => none
  | nl2 + 1, z33, z34 =>
    bif (decide (z34 < (x31.l.length : Int))) then (Option.bind (idx x31.l z34) fun x36 =>
    Option.bind (m_codec_Fields x36 [2, 1]) fun x38 =>
    bif (!x38.2) then (some ((S_api_Manifest.mk [] 0 [] [] [] 0 false []), 11)) else (Option.bind (idx x38.1 0) fun x41 =>
    Option.bind (idx x38.1 1) fun x43 =>
    Option.bind (appI 24 z33 [(S_api_Member.mk x41.b x43.n)]) fun x45 =>
    (m_manifest_Read_l2 x31 x10 x12 x14 x16 x18 x20 x22 x4 nl2) x45 (wi (z34 + 1)))) else (m_manifest_Read_j1 x10 x12 x14 x16 x18 x20 x22 x4 z33)

def m_manifest_Read (p0 : (List UInt8)) : Option (S_api_Manifest × Int) :=
Option.bind (m_codec_Decode p0) fun x1 =>
bif (x1.2 != 0) then (some ((S_api_Manifest.mk [] 0 [] [] [] 0 false []), x1.2)) else (Option.bind (m_codec_Fields x1.1 [2, 2, 1, 2, 2, 3, 1, 1, 2]) fun x4 =>
bif (!x4.2) then (some ((S_api_Manifest.mk [] 0 [] [] [] 0 false []), 11)) else (Option.bind (idx x4.1 0) fun x7 =>
bif (!(x7.b == [109, 97, 110, 105, 102, 101, 115, 116])) then (some ((S_api_Manifest.mk [] 0 [] [] [] 0 false []), 11)) else (Option.bind (idx x4.1 1) fun x10 =>
Option.bind (idx x4.1 2) fun x12 =>
Option.bind (idx x4.1 3) fun x14 =>
Option.bind (idx x4.1 4) fun x16 =>
Option.bind (idx x4.1 6) fun x18 =>
Option.bind (idx x4.1 7) fun x20 =>
Option.bind (idx x4.1 8) fun x22 =>
Option.bind (idx x4.1 5) fun x31 =>
m_manifest_Read_l2 x31 x10 x12 x14 x16 x18 x20 x22 x4 (x31.l.length + 1) [] 0)))

/-- bastille/bastilleref27.Same -/
def m_R27_Same_l1 (p0 : (List S_api_Member)) (p1 : (List S_api_Member)) : Nat → Int → Option Bool
  | 0, _ => none
  | nl1 + 1, z2 =>
    bif (decide (z2 < (p0.length : Int))) then (Option.bind (idx p0 z2) fun x4 =>
    Option.bind (idx p1 z2) fun x6 =>
    bif (!((x4.Name == x6.Name) && ((x4.Role == x6.Role) && true))) then (some false) else ((m_R27_Same_l1 p0 p1 nl1) (wi (z2 + 1)))) else (some true)

def m_R27_Same (p0 : (List S_api_Member)) (p1 : (List S_api_Member)) : Option Bool :=
bif ((p0.length : Int) != (p1.length : Int)) then (some false) else (m_R27_Same_l1 p0 p1 (p0.length + 1) 0)

/-- bastille/bastilleref28.Same -/
def m_R28_Same (p0 : S_api_Manifest) (p1 : S_api_Manifest) : Option Bool :=
bif (p0.Folder == p1.Folder) then (bif (p0.Seq == p1.Seq) then (Option.bind (m_R01_Same p0.Prev p1.Prev) fun x3 =>
bif x3 then (bif (p0.Parent == p1.Parent) then (Option.bind (m_R27_Same p0.Members p1.Members) fun x7 =>
bif x7 then (bif (p0.Cut == p1.Cut) then (bif (p0.Gone == p1.Gone) then (some (p0.By == p1.By)) else (some false)) else (some false)) else (some false)) else (some false)) else (some false)) else (some false)) else (some false)

/-- bastille/bastillelaw28.ManifestText -/
def m_L28_ManifestText (p0 : S_api_Manifest) : Option Bool :=
Option.bind (m_L28_awake) fun x1 =>
bif (!x1) then (some false) else (Option.bind (m_L28_Few p0) fun x4 =>
bif (!x4) then (some true) else (Option.bind (m_manifest_Text p0) fun x7 =>
Option.bind (m_R28_May p0) fun x9 =>
bif (!x9) then (bif (x7.2 == 2) then (bif ((x7.1.length : Int) == 0) then (Option.bind (m_manifest_Begins p0) fun x14 =>
some (x14 == 2)) else (some false)) else (some false)) else (Option.bind (m_manifest_Read x7.1) fun x16 =>
bif (x7.2 == 0) then (Option.bind (m_R28_Text p0) fun x19 =>
Option.bind (m_R01_Same x7.1 x19) fun x21 =>
bif x21 then (bif (x16.2 == 0) then (Option.bind (m_R28_Same x16.1 p0) fun x25 =>
some x25) else (some false)) else (some false)) else (some false))))

/-- bastille/bastilleref28.Kinds -/
def m_R28_Kinds_l1 (p1 : (List Int)) (p0 : V) : Nat → Int → Option Bool
  | 0, _ => none
  | nl1 + 1, z3 =>
    bif (decide (z3 < (p1.length : Int))) then (Option.bind (idx p0.l z3) fun x5 =>
    Option.bind (idx p1 z3) fun x7 =>
    bif (x5.k != x7) then (some false) else ((m_R28_Kinds_l1 p1 p0 nl1) (wi (z3 + 1)))) else (some true)

def m_R28_Kinds (p0 : V) (p1 : (List Int)) : Option Bool :=
bif (p0.k != 3) then (some false) else (bif ((p0.l.length : Int) != (p1.length : Int)) then (some false) else (m_R28_Kinds_l1 p1 p0 (p1.length + 1) 0))

/-- bastille/bastilleref28.Read -/
def m_R28_Read_j1 (x7 : V) (x9 : V) (x11 : V) (x13 : V) (x15 : V) (x17 : V) (x19 : V) (p0 : (List UInt8)) (y21 : (List S_api_Member)) : Option (S_api_Manifest × Int) :=
Option.bind (m_R28_May (S_api_Manifest.mk x7.b x9.n x11.b x13.b y21 x15.n (x17.n == 1) x19.b)) fun x22 =>
bif (!x22) then (some ((S_api_Manifest.mk [] 0 [] [] [] 0 false []), 11)) else (Option.bind (m_R28_Text (S_api_Manifest.mk x7.b x9.n x11.b x13.b y21 x15.n (x17.n == 1) x19.b)) fun x25 =>
Option.bind (m_R01_Same x25 p0) fun x27 =>
bif (!x27) then (some ((S_api_Manifest.mk [] 0 [] [] [] 0 false []), 11)) else (some ((S_api_Manifest.mk x7.b x9.n x11.b x13.b y21 x15.n (x17.n == 1) x19.b), 0)))

def m_R28_Read_l2 (x1 : (V × Int)) (x7 : V) (x9 : V) (x11 : V) (x13 : V) (x15 : V) (x17 : V) (x19 : V) (p0 : (List UInt8)) : Nat → (List S_api_Member) → Int → Option (S_api_Manifest × Int)
  | 0, _, _ => none
  | nl2 + 1, z30, z31 =>
    Option.bind (idx x1.1.l 5) fun x32 =>
    bif (decide (z31 < (x32.l.length : Int))) then (Option.bind (idx x1.1.l 5) fun x35 =>
    Option.bind (idx x35.l z31) fun x37 =>
    Option.bind (m_R28_Kinds x37 [2, 1]) fun x39 =>
    bif (!x39) then (some ((S_api_Manifest.mk [] 0 [] [] [] 0 false []), 11)) else (Option.bind (idx x37.l 0) fun x42 =>
    Option.bind (idx x37.l 1) fun x44 =>
    Option.bind (appI 24 z30 [(S_api_Member.mk x42.b x44.n)]) fun x46 =>
    (m_R28_Read_l2 x1 x7 x9 x11 x13 x15 x17 x19 p0 nl2) x46 (wi (z31 + 1)))) else (m_R28_Read_j1 x7 x9 x11 x13 x15 x17 x19 p0 z30)

def m_R28_Read (p0 : (List UInt8)) : Option (S_api_Manifest × Int) :=
Option.bind (m_R02_Decode p0) fun x1 =>
bif (x1.2 != 0) then (some ((S_api_Manifest.mk [] 0 [] [] [] 0 false []), x1.2)) else (Option.bind (m_R28_Kinds x1.1 [2, 2, 1, 2, 2, 3, 1, 1, 2]) fun x4 =>
bif (!x4) then (some ((S_api_Manifest.mk [] 0 [] [] [] 0 false []), 11)) else (Option.bind (idx x1.1.l 1) fun x7 =>
Option.bind (idx x1.1.l 2) fun x9 =>
Option.bind (idx x1.1.l 3) fun x11 =>
Option.bind (idx x1.1.l 4) fun x13 =>
Option.bind (idx x1.1.l 6) fun x15 =>
Option.bind (idx x1.1.l 7) fun x17 =>
Option.bind (idx x1.1.l 8) fun x19 =>
m_R28_Read_l2 x1 x7 x9 x11 x13 x15 x17 x19 p0 (4098) [] 0))

/-- bastille/manifest.Split -/
def m_manifest_Split (p0 : (List UInt8)) : Option ((List UInt8) × (List UInt8) × Int) :=
Option.bind (m_codec_Decode p0) fun x1 =>
bif (x1.2 != 0) then (some ([], [], x1.2)) else (Option.bind (m_codec_Fields x1.1 [2, 2]) fun x4 =>
bif (!x4.2) then (some ([], [], 11)) else (Option.bind (idx x4.1 0) fun x7 =>
Option.bind (idx x4.1 1) fun x9 =>
some (x7.b, x9.b, 0)))

/-- bastille/bastilleref28.Split -/
def m_R28_Split (p0 : (List UInt8)) : Option ((List UInt8) × (List UInt8) × Int) :=
Option.bind (m_R02_Decode p0) fun x1 =>
bif (x1.2 != 0) then (some ([], [], x1.2)) else (Option.bind (m_R28_Kinds x1.1 [2, 2]) fun x4 =>
bif (!x4) then (some ([], [], 11)) else (Option.bind (idx x1.1.l 0) fun x7 =>
Option.bind (idx x1.1.l 1) fun x9 =>
some (x7.b, x9.b, 0)))

/-- bastille/bastillelaw28.ManifestReads -/
def m_L28_ManifestReads_j1 (p0 : (List UInt8)) : Option Bool :=
Option.bind (m_manifest_Split p0) fun x13 =>
Option.bind (m_R28_Split p0) fun x15 =>
bif (x13.2.2 == x15.2.2) then (Option.bind (m_R01_Same x13.1 x15.1) fun x18 =>
bif x18 then (Option.bind (m_R01_Same x13.2.1 x15.2.1) fun x21 =>
some x21) else (some false)) else (some false)

def m_L28_ManifestReads (p0 : (List UInt8)) : Option Bool :=
Option.bind (m_L28_awake) fun x1 =>
bif (!x1) then (some false) else (bif (decide ((p0.length : Int) > 1000)) then (some true) else (Option.bind (m_manifest_Read p0) fun x5 =>
Option.bind (m_R28_Read p0) fun x7 =>
bif (x5.2 != x7.2) then (some false) else (Option.bind (m_R28_Same x5.1 x7.1) fun x10 =>
bif (!x10) then (some false) else (bif (x5.2 == 0) then (Option.bind (m_manifest_Text x5.1) fun x24 =>
bif (x24.2 != 0) then (some false) else (Option.bind (m_R01_Same x24.1 p0) fun x27 =>
bif (!x27) then (some false) else (m_L28_ManifestReads_j1 p0))) else (m_L28_ManifestReads_j1 p0)))))
end Go.Proofs.Ytimdogdplphmoac
