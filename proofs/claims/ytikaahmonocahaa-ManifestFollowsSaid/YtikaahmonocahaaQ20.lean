/-
  Texts joined: see the remark at the head of each part.
-/
import Derived.Test.YtikaahmonocahaaQ18
import Derived.Test.YtikaahmonocahaaQ16
import Derived.Test.YtikaahmonocahaaQ12
import Derived.Test.YtikaahmonocahaaQ17
import Derived.Deep.RegionLaw
import Derived.Lib.SliceRun
import Derived.Lib.Walk
import Derived.Shelf.RegionOpenPlain
import Derived.Laws.IdiomCopy
/-
  Models of slices.Clone and slices.Delete, over elements of 24 bytes.
-/
namespace Go.Proofs.Ytikaahmonocahaa
open Go Go.RowKit
set_option linter.unusedVariables false
/-- slices.Clone: its elements, in a slice of its own. -/
def m_slices_Clone_Member {α : Type} (p0 : List α) : Option (List α) := appI 24 [] p0
/-- slices.Delete of one element: without element i. -/
def m_slices_Delete_Member {α : Type} (p0 : List α) (i j : Int) : Option (List α) :=
  if 0 ≤ i ∧ j = i + 1 ∧ j ≤ (p0.length : Int) then some (p0.take i.toNat ++ p0.drop (i.toNat + 1)) else none
end Go.Proofs.Ytikaahmonocahaa

/-
  Models of functions: printed by a program of this claim's own (gen.py) off the given translation.
-/
namespace Go.Proofs.Ytikaahmonocahaa
open Go Go.RowKit
set_option linter.unusedVariables false
/-- Behind addresses there is nothing. -/
structure Hp where
  u : Unit

def Hp.e : Hp := ⟨()⟩

def hpA (_ : Hp) : Nat → A := fun _ => .free

theorem pure_hpA (H : Hp) : pureH (hpA H) := fun c l h => nomatch h

theorem hpA_e (c : Nat) : san (hpA Hp.e c) = .free := rfl

structure S_api_Member where
  Name : (List UInt8)
  Role : Int

abbrev cS_api_Member (x : S_api_Member) : List D := [.lit (.string ⟨⟨x.Name⟩⟩), .lit (.int .i64 x.Role)]

structure S_api_Manifest where
  Folder : (List UInt8)
  Seq : Int
  Prev : (List UInt8)
  Parent : (List UInt8)
  Members : (List S_api_Member)
  Cut : Int
  Gone : Bool
  By : (List UInt8)

/-- bastille/role.is -/
def m_role_is (p0 : Int) : Option Bool :=
bif (decide (p0 ≥ 1)) then (some (decide (p0 ≤ 4))) else (some false)

/-- bastille/role.With -/
def m_role_With_l1 (p0 : (List S_api_Member)) (p1 : Int) : Nat → (List (List UInt8)) → Int → Option (List (List UInt8))
  | 0, _, _ => none
  | nl1 + 1, z1, z2 =>
    bif (decide (z2 < (p0.length : Int))) then (Option.bind (idx p0 z2) fun x4 =>
    bif (decide (x4.Role ≥ p1)) then (Option.bind (appI 16 z1 [x4.Name]) fun x7 =>
    (m_role_With_l1 p0 p1 nl1) x7 (wi (z2 + 1))) else ((m_role_With_l1 p0 p1 nl1) z1 (wi (z2 + 1)))) else (some z1)

def m_role_With (p0 : (List S_api_Member)) (p1 : Int) : Option (List (List UInt8)) :=
m_role_With_l1 p0 p1 (p0.length + 1) [] 0

/-- bastille/role.owners -/
def m_role_owners (p0 : (List S_api_Member)) : Option Int :=
Option.bind (m_role_With p0 4) fun x1 =>
some (x1.length : Int)

/-- bastille/role.Right -/
def m_role_Right_j1 (p0 : (List S_api_Member)) : Option Bool :=
bif (decide ((p0.length : Int) ≤ 8)) then (Option.bind (m_role_owners p0) fun x2 =>
some (decide (x2 > 0))) else (some false)

def m_role_Right_l2 (p0 : (List S_api_Member)) : Nat → Int → Option Bool
  | 0, _ => none
  | nl2 + 1, z4 =>
    bif (decide (z4 < (p0.length : Int))) then (Option.bind (idx p0 z4) fun x6 =>
    Option.bind (m_tree_Name x6.Name) fun x8 =>
    bif (!x8) then (some false) else (Option.bind (m_role_is x6.Role) fun x11 =>
    bif (!x11) then (some false) else (bif (decide (z4 > 0)) then (Option.bind (idx p0 (wi (z4 - 1))) fun x15 =>
    bif (!(sLt x15.Name x6.Name)) then (some false) else ((m_role_Right_l2 p0 nl2) (wi (z4 + 1)))) else ((m_role_Right_l2 p0 nl2) (wi (z4 + 1)))))) else (m_role_Right_j1 p0)

def m_role_Right (p0 : (List S_api_Member)) : Option Bool :=
m_role_Right_l2 p0 (p0.length + 1) 0

/-- bastille/manifest.may -/
def m_manifest_may_j1 (p0 : S_api_Manifest) : Option Bool :=
Option.bind (m_role_Right p0.Members) fun x1 =>
bif x1 then (bif (decide (p0.Cut ≥ 0)) then (some (decide (p0.Cut ≤ p0.Seq))) else (some false)) else (some false)

def m_manifest_may_j3 (p0 : S_api_Manifest) (y7 : Bool) : Option Bool :=
bif y7 then (some false) else (bif (!(p0.Parent == [])) then (Option.bind (m_tree_Name p0.Parent) fun x10 =>
bif (!x10) then (some false) else (bif (p0.Parent == p0.Folder) then (some false) else (m_manifest_may_j1 p0))) else (bif (p0.Parent == p0.Folder) then (some false) else (m_manifest_may_j1 p0)))

def m_manifest_may_j2 (p0 : S_api_Manifest) (y5 : Bool) : Option Bool :=
bif y5 then (some false) else (bif (!((p0.Seq == 1) == ((p0.Prev.length : Int) == 0))) then (m_manifest_may_j3 p0 true) else (m_manifest_may_j3 p0 (decide ((p0.Prev.length : Int) > 64))))

def m_manifest_may (p0 : S_api_Manifest) : Option Bool :=
Option.bind (m_tree_Name p0.Folder) fun x16 =>
bif (!x16) then (m_manifest_may_j2 p0 true) else (Option.bind (m_tree_Name p0.By) fun x19 =>
bif (!x19) then (m_manifest_may_j2 p0 true) else (bif (decide (p0.Seq < 1)) then (m_manifest_may_j2 p0 true) else (m_manifest_may_j2 p0 (decide (p0.Seq > 1099511627776)))))

/-- bastille/manifest.Begins -/
def m_manifest_Begins (p0 : S_api_Manifest) : Option Int :=
Option.bind (m_manifest_may p0) fun x1 =>
bif (!x1) then (some 2) else (bif (p0.Seq != 1) then (some 11) else (bif ((p0.Members.length : Int) != 1) then (some 11) else (Option.bind (idx p0.Members 0) fun x6 =>
bif (!(x6.Name == p0.By)) then (some 11) else (bif (p0.Cut != 0) then (some 11) else (bif p0.Gone then (some 11) else (some 0))))))

/-- bastille/manifest.word -/
def m_manifest_word (p0 : (List UInt8)) : Option V :=
Option.bind (strB p0) fun x1 =>
Option.bind (m_codec_Raw x1) fun x3 =>
some (V.mk x3.k x3.n x3.b [])

/-- bastille/manifest.bit -/
def m_manifest_bit (p0 : Bool) : Option Int :=
bif p0 then (some 1) else (some 0)

/-- bastille/codec.Of, of nil -/
def m_codec_Of_n0 : Option V :=
some (V.mk 3 0 [] [])

/-- bastille/manifest.Text -/
def m_manifest_Text_j1 (p0 : S_api_Manifest) (x4 : V) (y6 : (List V)) : Option ((List UInt8) × Int) :=
Option.bind (m_manifest_word [109, 97, 110, 105, 102, 101, 115, 116]) fun x7 =>
Option.bind (m_manifest_word p0.Folder) fun x9 =>
Option.bind (m_codec_Num p0.Seq) fun x11 =>
Option.bind (m_codec_Raw p0.Prev) fun x13 =>
Option.bind (m_manifest_word p0.Parent) fun x15 =>
Option.bind (m_codec_Num p0.Cut) fun x17 =>
Option.bind (m_manifest_bit p0.Gone) fun x19 =>
Option.bind (m_codec_Num x19) fun x21 =>
Option.bind (m_manifest_word p0.By) fun x23 =>
Option.bind (m_codec_Of [(V.mk x7.k x7.n x7.b []), (V.mk x9.k x9.n x9.b []), (V.mk x11.k x11.n [] []), (V.mk x13.k x13.n x13.b []), (V.mk x15.k x15.n x15.b []), (V.mk x4.k x4.n [] y6), (V.mk x17.k x17.n [] []), (V.mk x21.k x21.n [] []), (V.mk x23.k x23.n x23.b [])]) fun x25 =>
Option.bind (m_codec_Encode (V.mk x25.k x25.n [] x25.l)) fun x27 =>
some (x27.1, x27.2)

def m_manifest_Text_l2 (p0 : S_api_Manifest) (x4 : V) : Nat → (List V) → Int → Option ((List UInt8) × Int)
  | 0, _, _ => none
  | nl2 + 1, z29, z30 =>
    bif (decide (z30 < (p0.Members.length : Int))) then (Option.bind (idx p0.Members z30) fun x32 =>
    Option.bind (m_manifest_word x32.Name) fun x34 =>
    Option.bind (m_codec_Num x32.Role) fun x36 =>
    Option.bind (m_codec_Of [(V.mk x34.k x34.n x34.b []), (V.mk x36.k x36.n [] [])]) fun x38 =>
    Option.bind (appI 64 z29 [(V.mk x38.k x38.n [] x38.l)]) fun x40 =>
    (m_manifest_Text_l2 p0 x4 nl2) x40 (wi (z30 + 1))) else (m_manifest_Text_j1 p0 x4 z29)

def m_manifest_Text (p0 : S_api_Manifest) : Option ((List UInt8) × Int) :=
Option.bind (m_manifest_may p0) fun x1 =>
bif (!x1) then (some ([], 2)) else (Option.bind (m_codec_Of_n0) fun x4 =>
m_manifest_Text_l2 p0 x4 (p0.Members.length + 1) [] 0)

/-- bastille/bastilleref28.Of -/
def m_R28_Of (p0 : (List V)) : Option V :=
some (V.mk 3 0 [] p0)

/-- bastille/bastilleref28.Raw -/
def m_R28_Raw (p0 : (List UInt8)) : Option V :=
some (V.mk 2 0 p0 [])

/-- bastille/bastilleref28.Num -/
def m_R28_Num (p0 : Int) : Option V :=
some (V.mk 1 p0 [] [])

/-- bastille/bastilleref28.Text -/
def m_R28_Text_j2 (p0 : S_api_Manifest) (y1 : (List V)) (y2 : Int) : Option (List UInt8) :=
Option.bind (m_R28_Raw [109, 97, 110, 105, 102, 101, 115, 116]) fun x3 =>
Option.bind (strB p0.Folder) fun x5 =>
Option.bind (m_R28_Raw x5) fun x7 =>
Option.bind (m_R28_Num p0.Seq) fun x9 =>
Option.bind (m_R28_Raw p0.Prev) fun x11 =>
Option.bind (strB p0.Parent) fun x13 =>
Option.bind (m_R28_Raw x13) fun x15 =>
Option.bind (m_R28_Of y1) fun x17 =>
Option.bind (m_R28_Num p0.Cut) fun x19 =>
Option.bind (m_R28_Num y2) fun x21 =>
Option.bind (strB p0.By) fun x23 =>
Option.bind (m_R28_Raw x23) fun x25 =>
Option.bind (m_R28_Of [(V.mk x3.k x3.n x3.b []), (V.mk x7.k x7.n x7.b []), (V.mk x9.k x9.n [] []), (V.mk x11.k x11.n x11.b []), (V.mk x15.k x15.n x15.b []), (V.mk x17.k x17.n [] x17.l), (V.mk x19.k x19.n [] []), (V.mk x21.k x21.n [] []), (V.mk x25.k x25.n x25.b [])]) fun x27 =>
Option.bind (m_R02_Bytes (V.ht (V.mk x27.k x27.n [] x27.l)) (V.mk x27.k x27.n [] x27.l)) fun x29 =>
some x29

def m_R28_Text_j1 (p0 : S_api_Manifest) (y1 : (List V)) : Option (List UInt8) :=
bif p0.Gone then (m_R28_Text_j2 p0 y1 1) else (m_R28_Text_j2 p0 y1 0)

def m_R28_Text_l3 (p0 : S_api_Manifest) : Nat → (List V) → Int → Option (List UInt8)
  | 0, _, _ => none
  | nl3 + 1, z32, z33 =>
    bif (decide (z33 < (p0.Members.length : Int))) then (Option.bind (idx p0.Members z33) fun x35 =>
    Option.bind (strB x35.Name) fun x37 =>
    Option.bind (m_R28_Raw x37) fun x39 =>
    Option.bind (idx p0.Members z33) fun x41 =>
    Option.bind (m_R28_Num x41.Role) fun x43 =>
    Option.bind (m_R28_Of [(V.mk x39.k x39.n x39.b []), (V.mk x43.k x43.n [] [])]) fun x45 =>
    Option.bind (appI 64 z32 [(V.mk x45.k x45.n [] x45.l)]) fun x47 =>
    (m_R28_Text_l3 p0 nl3) x47 (wi (z33 + 1))) else (m_R28_Text_j1 p0 z32)

def m_R28_Text (p0 : S_api_Manifest) : Option (List UInt8) :=
m_R28_Text_l3 p0 (p0.Members.length + 1) [] 0

/-- bastille/bastillelaw28.awake -/
def m_L28_awake : Option Bool :=
Option.bind (m_manifest_Text (S_api_Manifest.mk [102] 1 [] [] [(S_api_Member.mk [97] 4)] 0 false [97])) fun x1 =>
bif (x1.2 == 0) then (Option.bind (m_manifest_Begins (S_api_Manifest.mk [102] 1 [] [] [(S_api_Member.mk [97] 4)] 0 false [97])) fun x4 =>
bif (x4 == 0) then (Option.bind (m_R28_Text (S_api_Manifest.mk [102] 1 [] [] [(S_api_Member.mk [97] 4)] 0 false [97])) fun x7 =>
Option.bind (m_R01_Same x1.1 x7) fun x9 =>
some x9) else (some false)) else (some false)

/-- bastille/bastillelaw28.Few -/
def m_L28_Few_j1 (p0 : S_api_Manifest) : Option Bool :=
bif (decide ((p0.Folder.length : Int) ≤ 20)) then (bif (decide ((p0.By.length : Int) ≤ 20)) then (bif (decide ((p0.Parent.length : Int) ≤ 20)) then (bif (decide ((p0.Members.length : Int) ≤ 20)) then (some (decide ((p0.Prev.length : Int) ≤ 100))) else (some false)) else (some false)) else (some false)) else (some false)

def m_L28_Few_l2 (p0 : S_api_Manifest) : Nat → Int → Option Bool
  | 0, _ => none
  | nl2 + 1, z5 =>
    bif (decide (z5 < (p0.Members.length : Int))) then (Option.bind (idx p0.Members z5) fun x7 =>
    bif (decide ((x7.Name.length : Int) > 20)) then (some false) else ((m_L28_Few_l2 p0 nl2) (wi (z5 + 1)))) else (m_L28_Few_j1 p0)

def m_L28_Few (p0 : S_api_Manifest) : Option Bool :=
m_L28_Few_l2 p0 (p0.Members.length + 1) 0

/-- slices.Equal[[]bastille/api.Member,bastille/api.Member] -/
def m_slices_Equal_Member_l1 (p0 : (List S_api_Member)) (p1 : (List S_api_Member)) : Nat → Int → Option Bool
  | 0, _ => none
  | nl1 + 1, z2 =>
    bif (decide (z2 < (p0.length : Int))) then (Option.bind (idx p0 z2) fun x4 =>
    Option.bind (idx p1 z2) fun x6 =>
    bif (!((x4.Name == x6.Name) && ((x4.Role == x6.Role) && true))) then (some false) else ((m_slices_Equal_Member_l1 p0 p1 nl1) (wi (z2 + 1)))) else (some true)

def m_slices_Equal_Member (p0 : (List S_api_Member)) (p1 : (List S_api_Member)) : Option Bool :=
bif ((p0.length : Int) != (p1.length : Int)) then (some false) else (m_slices_Equal_Member_l1 p0 p1 (p0.length + 1) 0)

/-- bytes.Equal -/
def m_bytes_Equal (p0 : (List UInt8)) (p1 : (List UInt8)) : Option Bool :=
some (p0 == p1)

/-- slices.IndexFunc[[]bastille/api.Member,bastille/api.Member] -/
def m_slices_IndexFunc_Member_l1 (p0 : (List S_api_Member)) (p1 : (S_api_Member → Option Bool)) : Nat → Int → Option Int
  | 0, _ => none
  | nl1 + 1, z1 =>
    bif (decide (z1 < (p0.length : Int))) then (Option.bind (idx p0 z1) fun x3 =>
    Option.bind (p1 x3) fun x5 =>
    bif x5 then (some z1) else ((m_slices_IndexFunc_Member_l1 p0 p1 nl1) (wi (z1 + 1)))) else (some (-1))

def m_slices_IndexFunc_Member (p0 : (List S_api_Member)) (p1 : (S_api_Member → Option Bool)) : Option Int :=
m_slices_IndexFunc_Member_l1 p0 p1 (p0.length + 1) 0

/-- bastille/role.at$1 -/
def m_role_at_c1 (p0 : S_api_Member) (c1 : (List UInt8)) : Option Bool :=
some (p0.Name == c1)

/-- bastille/role.at -/
def m_role_at (p0 : (List S_api_Member)) (p1 : (List UInt8)) : Option Int :=
Option.bind (m_slices_IndexFunc_Member p0 (fun a0 => m_role_at_c1 a0 p1)) fun x1 =>
some x1

/-- bastille/role.Of -/
def m_role_Of (p0 : (List S_api_Member)) (p1 : (List UInt8)) : Option Int :=
Option.bind (m_role_at p0 p1) fun x1 =>
bif (decide (x1 ≥ 0)) then (Option.bind (idx p0 x1) fun x4 =>
some x4.Role) else (some 0)

/-- bastille/manifest.owner -/
def m_manifest_owner (p0 : S_api_Manifest) (p1 : (List UInt8)) : Option Int :=
Option.bind (m_role_Of p0.Members p1) fun x1 =>
bif (decide (x1 < 4)) then (some 40) else (some 0)

/-- bastille/role.differ -/
def m_role_differ_l2 (p1 : (List S_api_Member)) (p0 : (List S_api_Member)) : Nat → (List (List UInt8)) → Int → Option (List (List UInt8))
  | 0, _, _ => none
  | nl2 + 1, z2, z3 =>
    bif (decide (z3 < (p1.length : Int))) then (Option.bind (idx p1 z3) fun x5 =>
    Option.bind (m_role_Of p0 x5.Name) fun x7 =>
    bif (x7 == 0) then (Option.bind (appI 16 z2 [x5.Name]) fun x10 =>
    (m_role_differ_l2 p1 p0 nl2) x10 (wi (z3 + 1))) else ((m_role_differ_l2 p1 p0 nl2) z2 (wi (z3 + 1)))) else (some z2)

def m_role_differ_j1 (p1 : (List S_api_Member)) (p0 : (List S_api_Member)) (y1 : (List (List UInt8))) : Option (List (List UInt8)) :=
m_role_differ_l2 p1 p0 (p1.length + 1) y1 0

def m_role_differ_l3 (p0 : (List S_api_Member)) (p1 : (List S_api_Member)) : Nat → (List (List UInt8)) → Int → Option (List (List UInt8))
  | 0, _, _ => none
  | nl3 + 1, z12, z13 =>
    bif (decide (z13 < (p0.length : Int))) then (Option.bind (idx p0 z13) fun x15 =>
    Option.bind (m_role_Of p1 x15.Name) fun x17 =>
    bif (x17 != x15.Role) then (Option.bind (appI 16 z12 [x15.Name]) fun x20 =>
    (m_role_differ_l3 p0 p1 nl3) x20 (wi (z13 + 1))) else ((m_role_differ_l3 p0 p1 nl3) z12 (wi (z13 + 1)))) else (m_role_differ_j1 p1 p0 z12)

def m_role_differ (p0 : (List S_api_Member)) (p1 : (List S_api_Member)) : Option (List (List UInt8)) :=
m_role_differ_l3 p0 p1 (p0.length + 1) [] 0

/-- slices.Max[[]int,int] -/
def m_slices_Max_int_l1 (p0 : (List Int)) : Nat → Int → Int → Option Int
  | 0, _, _ => none
  | nl1 + 1, z4, z5 =>
    bif (decide (z5 < (p0.length : Int))) then (Option.bind (idx p0 z5) fun x7 =>
    (m_slices_Max_int_l1 p0 nl1) (if x7 > z4 then x7 else z4) (wi (z5 + 1))) else (some z4)

def m_slices_Max_int (p0 : (List Int)) : Option Int :=
bif (decide ((p0.length : Int) < 1)) then (none) else (Option.bind (idx p0 0) fun x2 =>
m_slices_Max_int_l1 p0 (p0.length + 1) x2 1)

/-- bastille/role.high -/
def m_role_high (p0 : (List S_api_Member)) (p1 : (List UInt8)) (p2 : (List Int)) : Option Bool :=
Option.bind (m_slices_Max_int p2) fun x1 =>
bif (decide (x1 ≥ 3)) then (Option.bind (m_role_Of p0 p1) fun x4 =>
some (decide (x4 < 4))) else (some false)

/-- bastille/role.Revoke -/
def m_role_Revoke_j1 (p0 : (List S_api_Member)) (x1 : Int) : Option ((List S_api_Member) × Int) :=
Option.bind (m_slices_Clone_Member p0) fun x3 =>
bif x3.isEmpty then none else (Option.bind (m_slices_Delete_Member x3 x1 (wi (x1 + 1))) fun x6 =>
some (x6, 0))

def m_role_Revoke_j4 (p0 : (List S_api_Member)) (x1 : Int) (y13 : Bool) : Option ((List S_api_Member) × Int) :=
bif y13 then (some ([], 40)) else (Option.bind (idx p0 x1) fun x15 =>
bif (x15.Role == 4) then (Option.bind (m_role_owners p0) fun x18 =>
bif (x18 == 1) then (some ([], 46)) else (m_role_Revoke_j1 p0 x1)) else (m_role_Revoke_j1 p0 x1))

def m_role_Revoke_j3 (x1 : Int) (p1 : (List UInt8)) (p2 : (List UInt8)) (p0 : (List S_api_Member)) (y10 : Bool) : Option ((List S_api_Member) × Int) :=
bif y10 then (some ([], 40)) else (bif (decide (x1 < 0)) then (some ([], 35)) else (bif (!(p1 == p2)) then (Option.bind (idx p0 x1) fun x22 =>
Option.bind (m_role_high p0 p1 [x22.Role]) fun x24 =>
m_role_Revoke_j4 p0 x1 x24) else (m_role_Revoke_j4 p0 x1 false)))

def m_role_Revoke_j2 (p1 : (List UInt8)) (p2 : (List UInt8)) (p0 : (List S_api_Member)) (x1 : Int) (y8 : Bool) : Option ((List S_api_Member) × Int) :=
bif y8 then (some ([], 2)) else (bif (!(p1 == p2)) then (Option.bind (m_role_Of p0 p1) fun x27 =>
m_role_Revoke_j3 x1 p1 p2 p0 (decide (x27 < 3))) else (m_role_Revoke_j3 x1 p1 p2 p0 false))

def m_role_Revoke (p0 : (List S_api_Member)) (p1 : (List UInt8)) (p2 : (List UInt8)) : Option ((List S_api_Member) × Int) :=
Option.bind (m_role_at p0 p2) fun x1 =>
Option.bind (m_role_Right p0) fun x29 =>
bif (!x29) then (m_role_Revoke_j2 p1 p2 p0 x1 true) else (Option.bind (m_tree_Name p2) fun x32 =>
m_role_Revoke_j2 p1 p2 p0 x1 (!x32))

/-- math/bits.Len64 -/
def m_math_bits_Len64_j3 (y5 : Int) (y6 : Int) : Option Int :=
Option.bind (idx ([0, 1, 2, 2, 3, 3, 3, 3, 4, 4, 4, 4, 4, 4, 4, 4, 5, 5, 5, 5, 5, 5, 5, 5, 5, 5, 5, 5, 5, 5, 5, 5, 6, 6, 6, 6, 6, 6, 6, 6, 6, 6, 6, 6, 6, 6, 6, 6, 6, 6, 6, 6, 6, 6, 6, 6, 6, 6, 6, 6, 6, 6, 6, 6, 7, 7, 7, 7, 7, 7, 7, 7, 7, 7, 7, 7, 7, 7, 7, 7, 7, 7, 7, 7, 7, 7, 7, 7, 7, 7, 7, 7, 7, 7, 7, 7, 7, 7, 7, 7, 7, 7, 7, 7, 7, 7, 7, 7, 7, 7, 7, 7, 7, 7, 7, 7, 7, 7, 7, 7, 7, 7, 7, 7, 7, 7, 7, 7, 8, 8, 8, 8, 8, 8, 8, 8, 8, 8, 8, 8, 8, 8, 8, 8, 8, 8, 8, 8, 8, 8, 8, 8, 8, 8, 8, 8, 8, 8, 8, 8, 8, 8, 8, 8, 8, 8, 8, 8, 8, 8, 8, 8, 8, 8, 8, 8, 8, 8, 8, 8, 8, 8, 8, 8, 8, 8, 8, 8, 8, 8, 8, 8, 8, 8, 8, 8, 8, 8, 8, 8, 8, 8, 8, 8, 8, 8, 8, 8, 8, 8, 8, 8, 8, 8, 8, 8, 8, 8, 8, 8, 8, 8, 8, 8, 8, 8, 8, 8, 8, 8, 8, 8, 8, 8, 8, 8, 8, 8, 8, 8, 8, 8, 8, 8, 8, 8, 8, 8, 8, 8, 8, 8, 8, 8, 8, 8] : List UInt8) ((U8 y5).toNat : Int)) fun x7 =>
some (wi (y6 + (x7.toNat : Int)))

def m_math_bits_Len64_j2 (y3 : Int) (y4 : Int) : Option Int :=
bif (decide (y3 ≥ 256)) then (m_math_bits_Len64_j3 (Int.fdiv y3 (2 ^ 8)) (wi (y4 + 8))) else (m_math_bits_Len64_j3 y3 y4)

def m_math_bits_Len64_j1 (y1 : Int) (y2 : Int) : Option Int :=
bif (decide (y1 ≥ 65536)) then (m_math_bits_Len64_j2 (Int.fdiv y1 (2 ^ 16)) (wi (y2 + 16))) else (m_math_bits_Len64_j2 y1 y2)

def m_math_bits_Len64 (p0 : Int) : Option Int :=
bif (decide (p0 ≥ 4294967296)) then (m_math_bits_Len64_j1 (Int.fdiv p0 (2 ^ 32)) 32) else (m_math_bits_Len64_j1 p0 0)

/-- math/bits.Len -/
def m_math_bits_Len (p0 : Int) : Option Int :=
Option.bind (m_math_bits_Len64 p0) fun x1 =>
some x1

/-- cmp.isNaN[string] -/
def m_cmp_isNaN_string (p0 : (List UInt8)) : Option Bool :=
some (!(p0 == p0))

/-- cmp.Compare[string] -/
def m_cmp_Compare_string (p0 : (List UInt8)) (p1 : (List UInt8)) : Option Int :=
Option.bind (m_cmp_isNaN_string p0) fun x1 =>
Option.bind (m_cmp_isNaN_string p1) fun x3 =>
bif x1 then (bif x3 then (some 0) else (some (-1))) else (bif x3 then (some 1) else (bif (sLt p0 p1) then (some (-1)) else (bif (!(sLt p0 p1 || p0 == p1)) then (some 1) else (some 0))))

/-- bastille/role.Share$1 -/
def m_role_Share_c1 (p0 : S_api_Member) (p1 : S_api_Member) : Option Int :=
Option.bind (m_cmp_Compare_string p0.Name p1.Name) fun x1 =>
some x1

/-- slices.insertionSortCmpFunc[bastille/api.Member] -/
def m_slices_insertionSortCmpFunc_Member_v0_j2 (kl1 : Int → (List S_api_Member) → Option (List S_api_Member)) (z1 : Int) (y4 : (List S_api_Member)) : Option (List S_api_Member) :=
kl1 (wi (z1 + 1)) y4

def m_slices_insertionSortCmpFunc_Member_v0_l3 (kl1 : Int → (List S_api_Member) → Option (List S_api_Member)) (p1 : Int) (p3 : (S_api_Member → S_api_Member → Option Int)) (z1 : Int) : Nat → Int → (List S_api_Member) → Option (List S_api_Member)
  | 0, _, _ => none
  | nl3 + 1, z5, z6 =>
    bif (decide (z5 > p1)) then (Option.bind (idx z6 z5) fun x8 =>
    Option.bind (idx z6 (wi (z5 - 1))) fun x10 =>
    Option.bind (p3 x8 x10) fun x12 =>
    bif (decide (x12 < 0)) then (Option.bind (idx z6 (wi (z5 - 1))) fun x15 =>
    Option.bind (idx z6 z5) fun x17 =>
    Option.bind (idx z6 z5) fun x19 =>
    Option.bind (idx (z6.set (Int.toNat z5) x15) (wi (z5 - 1))) fun x21 =>
    (m_slices_insertionSortCmpFunc_Member_v0_l3 kl1 p1 p3 z1 nl3) (wi (z5 - 1)) ((z6.set (Int.toNat z5) x15).set (Int.toNat (wi (z5 - 1))) x17)) else (m_slices_insertionSortCmpFunc_Member_v0_j2 kl1 z1 z6)) else (m_slices_insertionSortCmpFunc_Member_v0_j2 kl1 z1 z6)

def m_slices_insertionSortCmpFunc_Member_v0_l1 (p2 : Int) (p1 : Int) (p3 : (S_api_Member → S_api_Member → Option Int)) : Nat → Int → (List S_api_Member) → Option (List S_api_Member)
  | 0, _, _ => none
  | nl1 + 1, z1, z2 =>
    bif (decide (z1 < p2)) then (m_slices_insertionSortCmpFunc_Member_v0_l3 (m_slices_insertionSortCmpFunc_Member_v0_l1 p2 p1 p3 nl1) p1 p3 z1 (Int.toNat z1 + 1) z1 z2) else (some z2)

def m_slices_insertionSortCmpFunc_Member_v0 (p0 : (List S_api_Member)) (p1 : Int) (p2 : Int) (p3 : (S_api_Member → S_api_Member → Option Int)) : Option (List S_api_Member) :=
m_slices_insertionSortCmpFunc_Member_v0_l1 p2 p1 p3 (Int.toNat p2 + 1) (wi (p1 + 1)) p0

/-- slices.pdqsortCmpFunc[bastille/api.Member] -/
def m_slices_pdqsortCmpFunc_Member_v0_l1 (p0 : (List S_api_Member)) (p4 : (S_api_Member → S_api_Member → Option Int)) : Nat → Int → Int → Int → Bool → Bool → Option (List S_api_Member)
  | 0, _, _, _, _, _ => none
  | nl1 + 1, z1, z2, z3, z4, z5 =>
    bif (decide ((wi (z2 - z1)) ≤ 12)) then (Option.bind (m_slices_insertionSortCmpFunc_Member_v0 p0 z1 z2 p4) fun x7 =>
    Option.bind (lenI x7.length p0.length) fun x9 =>
    some x7) else (bif (z3 == 0) then (none) else (bif (!z4) then (none) else (none)))

def m_slices_pdqsortCmpFunc_Member_v0 (p0 : (List S_api_Member)) (p1 : Int) (p2 : Int) (p3 : Int) (p4 : (S_api_Member → S_api_Member → Option Int)) : Option (List S_api_Member) :=
m_slices_pdqsortCmpFunc_Member_v0_l1 p0 p4 (2) p1 p2 p3 true true

/-- slices.SortFunc[[]bastille/api.Member,bastille/api.Member] -/
def m_slices_SortFunc_Member_v0 (p0 : (List S_api_Member)) (p1 : (S_api_Member → S_api_Member → Option Int)) : Option (List S_api_Member) :=
Option.bind (m_math_bits_Len (IntKind.u64.wrap (p0.length : Int))) fun x1 =>
Option.bind (m_slices_pdqsortCmpFunc_Member_v0 p0 0 (p0.length : Int) x1 p1) fun x3 =>
Option.bind (lenI x3.length p0.length) fun x5 =>
some x3

/-- bastille/role.Share -/
def m_role_Share_j1 (p0 : (List S_api_Member)) (p1 : (List UInt8)) (p2 : (List UInt8)) (p3 : Int) (y1 : Bool) : Option ((List S_api_Member) × Int) :=
bif y1 then (some ([], 2)) else (Option.bind (m_role_Of p0 p1) fun x3 =>
bif (decide (x3 < 3)) then (some ([], 40)) else (Option.bind (m_role_at p0 p2) fun x6 =>
bif (decide (x6 ≥ 0)) then (some ([], 42)) else (Option.bind (m_role_high p0 p1 [p3]) fun x9 =>
bif x9 then (some ([], 40)) else (bif (decide ((p0.length : Int) ≥ 8)) then (some ([], 3)) else (Option.bind (m_slices_Clone_Member p0) fun x13 =>
bif x13.isEmpty then none else (Option.bind (appI 24 x13 [(S_api_Member.mk p2 p3)]) fun x16 =>
bif x16.isEmpty then none else (Option.bind (m_slices_SortFunc_Member_v0 x16 m_role_Share_c1) fun x19 =>
Option.bind (lenI x19.length x16.length) fun x21 =>
some (x19, 0))))))))

def m_role_Share (p0 : (List S_api_Member)) (p1 : (List UInt8)) (p2 : (List UInt8)) (p3 : Int) : Option ((List S_api_Member) × Int) :=
Option.bind (m_role_Right p0) fun x23 =>
bif (!x23) then (m_role_Share_j1 p0 p1 p2 p3 true) else (Option.bind (m_tree_Name p2) fun x26 =>
bif (!x26) then (m_role_Share_j1 p0 p1 p2 p3 true) else (Option.bind (m_role_is p3) fun x29 =>
m_role_Share_j1 p0 p1 p2 p3 (!x29)))

/-- bastille/role.Change -/
def m_role_Change_j1 (p0 : (List S_api_Member)) (x1 : Int) (p3 : Int) : Option ((List S_api_Member) × Int) :=
Option.bind (m_slices_Clone_Member p0) fun x3 =>
bif x3.isEmpty then none else (Option.bind (idx x3 x1) fun x6 =>
some ((x3.set (Int.toNat x1) (S_api_Member.mk x6.Name p3)), 0))

def m_role_Change_j2 (p0 : (List S_api_Member)) (p1 : (List UInt8)) (x1 : Int) (p3 : Int) (y8 : Bool) : Option ((List S_api_Member) × Int) :=
bif y8 then (some ([], 2)) else (Option.bind (m_role_Of p0 p1) fun x10 =>
bif (decide (x10 < 3)) then (some ([], 40)) else (bif (decide (x1 < 0)) then (some ([], 35)) else (Option.bind (idx p0 x1) fun x14 =>
Option.bind (m_role_high p0 p1 [p3, x14.Role]) fun x16 =>
bif x16 then (some ([], 40)) else (Option.bind (idx p0 x1) fun x19 =>
bif (x19.Role == 4) then (bif (decide (p3 < 4)) then (Option.bind (m_role_owners p0) fun x23 =>
bif (x23 == 1) then (some ([], 46)) else (m_role_Change_j1 p0 x1 p3)) else (m_role_Change_j1 p0 x1 p3)) else (m_role_Change_j1 p0 x1 p3)))))

def m_role_Change (p0 : (List S_api_Member)) (p1 : (List UInt8)) (p2 : (List UInt8)) (p3 : Int) : Option ((List S_api_Member) × Int) :=
Option.bind (m_role_at p0 p2) fun x1 =>
Option.bind (m_role_Right p0) fun x26 =>
bif (!x26) then (m_role_Change_j2 p0 p1 x1 p3 true) else (Option.bind (m_tree_Name p2) fun x29 =>
bif (!x29) then (m_role_Change_j2 p0 p1 x1 p3 true) else (Option.bind (m_role_is p3) fun x32 =>
m_role_Change_j2 p0 p1 x1 p3 (!x32)))

/-- bastille/role.Step -/
def m_role_Step_j1 (x12 : Int) (y14 : Int) : Option (Bool × Int) :=
bif (x12 == 0) then (some ((y14 == 0), y14)) else (some (false, y14))

def m_role_Step_j2 (p0 : (List S_api_Member)) (x10 : (List UInt8)) (p2 : (List UInt8)) (x12 : Int) : Option (Bool × Int) :=
Option.bind (m_role_at p0 x10) fun x16 =>
bif (decide (x16 < 0)) then (Option.bind (m_role_Share p0 p2 x10 x12) fun x19 =>
m_role_Step_j1 x12 x19.2) else (Option.bind (m_role_Change p0 p2 x10 x12) fun x21 =>
m_role_Step_j1 x12 x21.2)

def m_role_Step_j3 (p0 : (List S_api_Member)) (p2 : (List UInt8)) (x10 : (List UInt8)) (x12 : Int) : Option (Bool × Int) :=
Option.bind (m_role_Revoke p0 p2 x10) fun x23 =>
m_role_Step_j1 x12 x23.2

def m_role_Step (p0 : (List S_api_Member)) (p1 : (List S_api_Member)) (p2 : (List UInt8)) : Option (Bool × Int) :=
Option.bind (m_role_Right p0) fun x1 =>
bif (!x1) then (some (false, 2)) else (Option.bind (m_role_Right p1) fun x4 =>
bif (!x4) then (some (false, 2)) else (Option.bind (m_role_differ p0 p1) fun x7 =>
bif ((x7.length : Int) != 1) then (some (false, 11)) else (Option.bind (idx x7 0) fun x10 =>
Option.bind (m_role_Of p1 x10) fun x12 =>
bif (x12 == 0) then (m_role_Step_j3 p0 p2 x10 x12) else (bif (x12 == 1) then (m_role_Step_j2 p0 x10 p2 x12) else (bif (x12 == 2) then (m_role_Step_j2 p0 x10 p2 x12) else (m_role_Step_j2 p0 x10 p2 x12))))))

/-- bastille/manifest.Follows -/
def m_manifest_Follows_j2 (p2 : S_api_Manifest) (x1 : Bool) (p0 : S_api_Manifest) (y5 : Bool) : Option Int :=
bif y5 then (some 11) else (bif p2.Gone then (bif (!x1) then (some 11) else (bif (!(p2.Parent == p0.Parent)) then (some 11) else (bif (p2.Cut != p0.Cut) then (some 11) else (Option.bind (m_manifest_owner p0 p2.By) fun x11 =>
some x11)))) else (bif (!(p2.Parent == p0.Parent)) then (bif (!x1) then (some 11) else (bif (p2.Cut != p2.Seq) then (some 11) else (Option.bind (m_manifest_owner p0 p2.By) fun x16 =>
some x16))) else (Option.bind (m_role_Step p0.Members p2.Members p2.By) fun x18 =>
bif (x18.2 != 0) then (some x18.2) else (bif x18.1 then (bif (p2.Cut != p2.Seq) then (some 11) else (bif (!x18.1) then (bif (p2.Cut != p0.Cut) then (some 11) else (some 0)) else (some 0))) else (bif (!x18.1) then (bif (p2.Cut != p0.Cut) then (some 11) else (some 0)) else (some 0))))))

def m_manifest_Follows_j1 (p0 : S_api_Manifest) (p2 : S_api_Manifest) (x1 : Bool) (p1 : (List UInt8)) (y3 : Bool) : Option Int :=
bif y3 then (some 2) else (bif p0.Gone then (m_manifest_Follows_j2 p2 x1 p0 true) else (bif (!(p2.Folder == p0.Folder)) then (m_manifest_Follows_j2 p2 x1 p0 true) else (bif (p2.Seq != (wi (p0.Seq + 1))) then (m_manifest_Follows_j2 p2 x1 p0 true) else (Option.bind (m_bytes_Equal p2.Prev p1) fun x30 =>
m_manifest_Follows_j2 p2 x1 p0 (!x30)))))

def m_manifest_Follows (p0 : S_api_Manifest) (p1 : (List UInt8)) (p2 : S_api_Manifest) : Option Int :=
Option.bind (m_slices_Equal_Member p0.Members p2.Members) fun x1 =>
Option.bind (m_manifest_may p0) fun x32 =>
bif (!x32) then (m_manifest_Follows_j1 p0 p2 x1 p1 true) else (Option.bind (m_manifest_may p2) fun x35 =>
m_manifest_Follows_j1 p0 p2 x1 p1 (!x35))

/-- bastille/bastilleref27.Owners -/
def m_R27_Owners_j2 (kl1 : Int → Int → Option Int) (z2 : Int) (y4 : Int) : Option Int :=
kl1 y4 (wi (z2 + 1))

def m_R27_Owners_l1 (p0 : (List S_api_Member)) : Nat → Int → Int → Option Int
  | 0, _, _ => none
  | nl1 + 1, z1, z2 =>
    bif (decide (z2 < (p0.length : Int))) then (Option.bind (idx p0 z2) fun x5 =>
    bif (x5.Role == 4) then (m_R27_Owners_j2 (m_R27_Owners_l1 p0 nl1) z2 (wi (z1 + 1))) else (m_R27_Owners_j2 (m_R27_Owners_l1 p0 nl1) z2 z1)) else (some z1)

def m_R27_Owners (p0 : (List S_api_Member)) : Option Int :=
m_R27_Owners_l1 p0 (p0.length + 1) 0 0

/-- bastille/bastilleref27.Right -/
def m_R27_Right_j2 (kl1 : Int → Option Bool) (z5 : Int) (y7 : (List UInt8)) (y8 : Int) (y9 : Int) (y10 : Int) (y11 : Bool) (y12 : (List UInt8)) (y13 : Int) (y14 : Int) (y15 : Int) (y16 : Bool) : Option Bool :=
kl1 (wi (z5 + 1))

def m_R27_Right_l3 (kl1 : Int → Option Bool) (z5 : Int) (p0 : (List S_api_Member)) (x22 : S_api_Member) (x25 : S_api_Member) : Nat → Int → Option Bool
  | 0, _ => none
  | nl3 + 1, z28 =>
    bif (decide (z28 < z5)) then (Option.bind (idx p0 z28) fun x30 =>
    Option.bind (idx p0 z5) fun x32 =>
    bif (!(sLt x30.Name x32.Name)) then (some false) else ((m_R27_Right_l3 kl1 z5 p0 x22 x25 nl3) (wi (z28 + 1)))) else (m_R27_Right_j2 kl1 z5 x22.Name x22.Role x22.Role x22.Role (decide (x22.Role < 1)) x25.Name x25.Role x25.Role x25.Role (decide (x25.Role > 4)))

def m_R27_Right_l1 (p0 : (List S_api_Member)) : Nat → Int → Option Bool
  | 0, _ => none
  | nl1 + 1, z5 =>
    bif (decide (z5 < (p0.length : Int))) then (Option.bind (idx p0 z5) fun x17 =>
    Option.bind (m_R25_Name x17.Name) fun x19 =>
    bif (!x19) then (some false) else (Option.bind (idx p0 z5) fun x22 =>
    bif (decide (x22.Role < 1)) then (some false) else (Option.bind (idx p0 z5) fun x25 =>
    bif (decide (x25.Role > 4)) then (some false) else (m_R27_Right_l3 (m_R27_Right_l1 p0 nl1) z5 p0 x22 x25 (Int.toNat z5 + 1) 0)))) else (some true)

def m_R27_Right (p0 : (List S_api_Member)) : Option Bool :=
bif (decide ((p0.length : Int) > 8)) then (some false) else (Option.bind (m_R27_Owners p0) fun x2 =>
bif (x2 == 0) then (some false) else (m_R27_Right_l1 p0 (p0.length + 1) 0))

/-- bastille/bastilleref28.May -/
def m_R28_May_j1 (p0 : S_api_Manifest) : Option Bool :=
bif (p0.Parent == []) then (some true) else (Option.bind (m_R25_Name p0.Parent) fun x15 =>
bif x15 then (some (!(p0.Parent == p0.Folder))) else (some false))

def m_R28_May (p0 : S_api_Manifest) : Option Bool :=
Option.bind (m_R25_Name p0.Folder) fun x1 =>
bif (!x1) then (some false) else (Option.bind (m_R25_Name p0.By) fun x4 =>
bif (!x4) then (some false) else (Option.bind (m_R27_Right p0.Members) fun x7 =>
bif (!x7) then (some false) else (bif (decide (p0.Seq < 1)) then (some false) else (bif (decide (p0.Seq > 1099511627776)) then (some false) else (bif (decide (p0.Cut < 0)) then (some false) else (bif (decide (p0.Cut > p0.Seq)) then (some false) else (bif (p0.Seq == 1) then (bif (decide ((p0.Prev.length : Int) > 0)) then (some false) else (bif (decide (p0.Seq > 1)) then (bif ((p0.Prev.length : Int) == 0) then (some false) else (bif (decide ((p0.Prev.length : Int) > 64)) then (some false) else (m_R28_May_j1 p0))) else (m_R28_May_j1 p0))) else (bif (decide (p0.Seq > 1)) then (bif ((p0.Prev.length : Int) == 0) then (some false) else (bif (decide ((p0.Prev.length : Int) > 64)) then (some false) else (m_R28_May_j1 p0))) else (m_R28_May_j1 p0)))))))))

/-- bastille/bastilleref27.Same -/
def m_R27_Same_l1 (p0 : (List S_api_Member)) (p1 : (List S_api_Member)) : Nat → Int → Option Bool
  | 0, _ => none
  | nl1 + 1, z2 =>
    bif (decide (z2 < (p0.length : Int))) then (Option.bind (idx p0 z2) fun x4 =>
    Option.bind (idx p1 z2) fun x6 =>
    bif (!((x4.Name == x6.Name) && ((x4.Role == x6.Role) && true))) then (some false) else ((m_R27_Same_l1 p0 p1 nl1) (wi (z2 + 1)))) else (some true)

def m_R27_Same (p0 : (List S_api_Member)) (p1 : (List S_api_Member)) : Option Bool :=
bif ((p0.length : Int) != (p1.length : Int)) then (some false) else (m_R27_Same_l1 p0 p1 (p0.length + 1) 0)

/-- bastille/bastilleref27.Of -/
def m_R27_Of_l1 (p0 : (List S_api_Member)) (p1 : (List UInt8)) : Nat → Int → Option Int
  | 0, _ => none
  | nl1 + 1, z1 =>
    bif (decide (z1 < (p0.length : Int))) then (Option.bind (idx p0 z1) fun x3 =>
    bif (x3.Name == p1) then (Option.bind (idx p0 z1) fun x6 =>
    some x6.Role) else ((m_R27_Of_l1 p0 p1 nl1) (wi (z1 + 1)))) else (some 0)

def m_R27_Of (p0 : (List S_api_Member)) (p1 : (List UInt8)) : Option Int :=
m_R27_Of_l1 p0 p1 (p0.length + 1) 0

/-- bastille/bastilleref27.Revoke -/
def m_R27_Revoke_j2 (x3 : Int) (p0 : (List S_api_Member)) : Option Int :=
bif (x3 == 4) then (Option.bind (m_R27_Owners p0) fun x7 =>
bif (x7 == 1) then (some 46) else (some 0)) else (some 0)

def m_R27_Revoke_j1 (x3 : Int) (p1 : (List UInt8)) (p2 : (List UInt8)) (x1 : Int) (p0 : (List S_api_Member)) : Option Int :=
bif (x3 == 0) then (some 35) else (bif (!(p1 == p2)) then (bif (decide (x3 > 2)) then (bif (decide (x1 < 4)) then (some 40) else (m_R27_Revoke_j2 x3 p0)) else (m_R27_Revoke_j2 x3 p0)) else (m_R27_Revoke_j2 x3 p0))

def m_R27_Revoke (p0 : (List S_api_Member)) (p1 : (List UInt8)) (p2 : (List UInt8)) : Option Int :=
Option.bind (m_R27_Of p0 p1) fun x1 =>
Option.bind (m_R27_Of p0 p2) fun x3 =>
bif (!(p1 == p2)) then (bif (decide (x1 < 3)) then (some 40) else (m_R27_Revoke_j1 x3 p1 p2 x1 p0)) else (m_R27_Revoke_j1 x3 p1 p2 x1 p0)

/-- bastille/bastilleref27.Share -/
def m_R27_Share_j1 (p0 : (List S_api_Member)) : Option Int :=
bif ((p0.length : Int) == 8) then (some 3) else (some 0)

def m_R27_Share (p0 : (List S_api_Member)) (p1 : (List UInt8)) (p2 : (List UInt8)) (p3 : Int) : Option Int :=
Option.bind (m_R27_Of p0 p1) fun x1 =>
bif (decide (x1 < 3)) then (some 40) else (Option.bind (m_R27_Of p0 p2) fun x4 =>
bif (decide (x4 > 0)) then (some 42) else (bif (decide (p3 > 2)) then (bif (decide (x1 < 4)) then (some 40) else (m_R27_Share_j1 p0)) else (m_R27_Share_j1 p0)))

/-- bastille/bastilleref27.Change -/
def m_R27_Change_j1 (x3 : Int) (p3 : Int) (p0 : (List S_api_Member)) : Option Int :=
bif (x3 == 4) then (bif (decide (p3 < 4)) then (Option.bind (m_R27_Owners p0) fun x9 =>
bif (x9 == 1) then (some 46) else (some 0)) else (some 0)) else (some 0)

def m_R27_Change (p0 : (List S_api_Member)) (p1 : (List UInt8)) (p2 : (List UInt8)) (p3 : Int) : Option Int :=
Option.bind (m_R27_Of p0 p1) fun x1 =>
Option.bind (m_R27_Of p0 p2) fun x3 =>
bif (decide (x1 < 3)) then (some 40) else (bif (x3 == 0) then (some 35) else (bif (decide (x1 < 4)) then (bif (decide (p3 > 2)) then (some 40) else (bif (decide (x3 > 2)) then (some 40) else (m_R27_Change_j1 x3 p3 p0))) else (m_R27_Change_j1 x3 p3 p0)))

/-- bastille/bastilleref27.Step -/
def m_R27_Step_j2 (p1 : (List S_api_Member)) (p0 : (List S_api_Member)) (p2 : (List UInt8)) (y9 : (List UInt8)) (y10 : Int) : Option (Bool × Int) :=
bif (y10 != 1) then (some (false, 11)) else (Option.bind (m_R27_Of p1 y9) fun x12 =>
bif (x12 == 0) then (Option.bind (m_R27_Revoke p0 p2 y9) fun x15 =>
some ((x15 == 0), x15)) else (Option.bind (m_R27_Of p0 y9) fun x17 =>
bif (x17 == 0) then (Option.bind (m_R27_Share p0 p2 y9 x12) fun x20 =>
some (false, x20)) else (Option.bind (m_R27_Change p0 p2 y9 x12) fun x22 =>
some (false, x22))))

def m_R27_Step_j4 (kl3 : (List UInt8) → Int → Int → Option (Bool × Int)) (z26 : Int) (y28 : (List UInt8)) (y29 : Int) : Option (Bool × Int) :=
kl3 y28 y29 (wi (z26 + 1))

def m_R27_Step_l3 (p1 : (List S_api_Member)) (p0 : (List S_api_Member)) (p2 : (List UInt8)) : Nat → (List UInt8) → Int → Int → Option (Bool × Int)
  | 0, _, _, _ => none
  | nl3 + 1, z24, z25, z26 =>
    bif (decide (z26 < (p1.length : Int))) then (Option.bind (idx p1 z26) fun x30 =>
    Option.bind (m_R27_Of p0 x30.Name) fun x32 =>
    bif (x32 == 0) then (Option.bind (idx p1 z26) fun x35 =>
    m_R27_Step_j4 (m_R27_Step_l3 p1 p0 p2 nl3) z26 x35.Name (wi (z25 + 1))) else (m_R27_Step_j4 (m_R27_Step_l3 p1 p0 p2 nl3) z26 z24 z25)) else (m_R27_Step_j2 p1 p0 p2 z24 z25)

def m_R27_Step_j1 (p1 : (List S_api_Member)) (p0 : (List S_api_Member)) (p2 : (List UInt8)) (y7 : (List UInt8)) (y8 : Int) : Option (Bool × Int) :=
m_R27_Step_l3 p1 p0 p2 (p1.length + 1) y7 y8 0

def m_R27_Step_j6 (kl5 : (List UInt8) → Int → Int → Option (Bool × Int)) (z39 : Int) (y41 : (List UInt8)) (y42 : Int) : Option (Bool × Int) :=
kl5 y41 y42 (wi (z39 + 1))

def m_R27_Step_l5 (p0 : (List S_api_Member)) (p1 : (List S_api_Member)) (p2 : (List UInt8)) : Nat → (List UInt8) → Int → Int → Option (Bool × Int)
  | 0, _, _, _ => none
  | nl5 + 1, z37, z38, z39 =>
    bif (decide (z39 < (p0.length : Int))) then (Option.bind (idx p0 z39) fun x43 =>
    Option.bind (m_R27_Of p1 x43.Name) fun x45 =>
    Option.bind (idx p0 z39) fun x47 =>
    bif (x45 != x47.Role) then (Option.bind (idx p0 z39) fun x50 =>
    m_R27_Step_j6 (m_R27_Step_l5 p0 p1 p2 nl5) z39 x50.Name (wi (z38 + 1))) else (m_R27_Step_j6 (m_R27_Step_l5 p0 p1 p2 nl5) z39 z37 z38)) else (m_R27_Step_j1 p1 p0 p2 z37 z38)

def m_R27_Step (p0 : (List S_api_Member)) (p1 : (List S_api_Member)) (p2 : (List UInt8)) : Option (Bool × Int) :=
Option.bind (m_R27_Right p0) fun x1 =>
bif (!x1) then (some (false, 2)) else (Option.bind (m_R27_Right p1) fun x4 =>
bif (!x4) then (some (false, 2)) else (m_R27_Step_l5 p0 p1 p2 (p0.length + 1) [] 0 0))

/-- bastille/bastilleref28.Follows -/
def m_R28_Follows_j3 (p0 : S_api_Manifest) (p2 : S_api_Manifest) : Option Int :=
Option.bind (m_R27_Of p0.Members p2.By) fun x16 =>
bif (x16 != 4) then (some 40) else (some 0)

def m_R28_Follows_j2 (p0 : S_api_Manifest) (p2 : S_api_Manifest) (y15 : Int) : Option Int :=
Option.bind (m_R27_Same p0.Members p2.Members) fun x19 =>
bif (!x19) then (some 11) else (bif (p2.Cut != y15) then (some 11) else (bif p2.Gone then (bif (!(p2.Parent == p0.Parent)) then (some 11) else (m_R28_Follows_j3 p0 p2)) else (m_R28_Follows_j3 p0 p2)))

def m_R28_Follows_j1 (p2 : S_api_Manifest) (p0 : S_api_Manifest) (y13 : Bool) : Option Int :=
bif y13 then (bif p2.Gone then (m_R28_Follows_j2 p0 p2 p0.Cut) else (m_R28_Follows_j2 p0 p2 p2.Seq)) else (Option.bind (m_R27_Step p0.Members p2.Members p2.By) fun x26 =>
bif (x26.2 != 0) then (some x26.2) else (bif x26.1 then (bif (p2.Cut == p2.Seq) then (some 0) else (bif (!x26.1) then (bif (p2.Cut == p0.Cut) then (some 0) else (some 11)) else (some 11))) else (bif (!x26.1) then (bif (p2.Cut == p0.Cut) then (some 0) else (some 11)) else (some 11))))

def m_R28_Follows (p0 : S_api_Manifest) (p1 : (List UInt8)) (p2 : S_api_Manifest) : Option Int :=
Option.bind (m_R28_May p0) fun x1 =>
bif (!x1) then (some 2) else (Option.bind (m_R28_May p2) fun x4 =>
bif (!x4) then (some 2) else (bif p0.Gone then (some 11) else (bif (!(p2.Folder == p0.Folder)) then (some 11) else (bif ((wi (p2.Seq - 1)) != p0.Seq) then (some 11) else (Option.bind (m_R01_Same p2.Prev p1) fun x10 =>
bif (!x10) then (some 11) else (bif p2.Gone then (m_R28_Follows_j1 p2 p0 true) else (m_R28_Follows_j1 p2 p0 (!(p2.Parent == p0.Parent)))))))))

/-- bastille/bastilleref28.Begins -/
def m_R28_Begins (p0 : S_api_Manifest) : Option Int :=
Option.bind (m_R28_May p0) fun x1 =>
bif (!x1) then (some 2) else (bif (p0.Seq == 1) then (Option.bind (m_R27_Same p0.Members [(S_api_Member.mk p0.By 4)]) fun x5 =>
bif x5 then (bif (p0.Cut == 0) then (bif (!p0.Gone) then (some 0) else (some 11)) else (some 11)) else (some 11)) else (some 11))

/-- bastille/bastillelaw28.ManifestFollows -/
def m_L28_ManifestFollows (p0 : S_api_Manifest) (p1 : (List UInt8)) (p2 : S_api_Manifest) : Option Bool :=
Option.bind (m_L28_awake) fun x1 =>
bif (!x1) then (some false) else (Option.bind (m_L28_Few p0) fun x4 =>
bif (!x4) then (some true) else (Option.bind (m_L28_Few p2) fun x7 =>
bif (!x7) then (some true) else (bif (decide ((p1.length : Int) > 100)) then (some true) else (Option.bind (m_manifest_Follows p0 p1 p2) fun x11 =>
Option.bind (m_R28_Follows p0 p1 p2) fun x13 =>
bif (x11 == x13) then (Option.bind (m_manifest_Begins p2) fun x16 =>
Option.bind (m_R28_Begins p2) fun x18 =>
some (x16 == x18)) else (some false)))))
end Go.Proofs.Ytikaahmonocahaa

/-
  slices.Clone of members, with a result of its own.
-/
namespace Go.Proofs.Ytikaahmonocahaa
open Go Go.RowKit
set_option linter.unusedVariables false
set_option maxHeartbeats 4000000
set_option maxRecDepth 20000
theorem c_fk {P : Program} {pins : List Nat} {N : Nat} {Q : Exit → SL → Prop} {L : SL} {x y : Code} (hy : CodeOK P pins N y Q L) : CodeOK P pins N (.cond (.const (.bool false)) x y) Q L := fun w0 m0 o0 G a w hS => wp_cond_split (show a.eval (.const (.bool false)) = .bool false from rfl) (fun h => by cases h) (fun _ => hy w0 m0 o0 G a w hS)
theorem c_tk {P : Program} {pins : List Nat} {N : Nat} {Q : Exit → SL → Prop} {L : SL} {x y : Code} (hx : CodeOK P pins N x Q L) : CodeOK P pins N (.cond (.const (.bool true)) x y) Q L := fun w0 m0 o0 G a w hS => wp_cond_split (show a.eval (.const (.bool true)) = .bool true from rfl) (fun _ => hx w0 m0 o0 G a w hS) (fun h => by cases h)
theorem c_frzN {P : Program} {pins : List Nat} {N : Nat} {Q : Exit → SL → Prop} {L : SL} {α : Type} {cc : α → List D} {c : Code} {L' : SL} {y : List α} (d j : Nat) {E k n : Nat} (hd : gt L d = .t (.view j 0 E k n)) (hn : n = y.length) (hb : gt L (OB + j) = gbA cc y) (hck : ∀ a, (cc a).length = k)
    (hc : (Nat.blt d OB && Nat.blt (j + 1) OB && !pins.contains (OB + j) && !pins.contains d && Nat.blt 0 k && noBoxM j d L) = true) (hh : heapP L) (hL : (d, .t (.d (.seq k (y.map cc)))) :: (OB + j, .free) :: dropM j d L = L') (h : CodeOK P pins N c Q L') : CodeOK P pins N c Q L := by
  subst hn
  exact c_frzG d j hd hb hck hc hh hL h
theorem flr_at {α : Type} {c : α → List D} {l : List α} {z : Int} {y : α} {k : Nat} (h : idx l z = some y) (hc : ∀ a, (c a).length = k) : ((fl (dT c) l).drop (0 + z.toNat * k)).take k = dT c y := by
  rw [Nat.zero_add]
  exact fl_row (dT_len hc) (idx_lt h).2.2
theorem isE_ne {α : Type} {l : List α} (h : l.isEmpty = false) : l ≠ [] := fun e => by rw [e] at h; cases h
theorem fc_slices_Clone_Member (p0 : List S_api_Member) (r : List S_api_Member) (h : m_slices_Clone_Member p0 = some r) : FC Try.prog 52 [.t (.d (.seq 2 (List.map cS_api_Member p0)))] [] (.t (.own 35 2 (List.map cS_api_Member r))) := by
  refine fc_mk (rs := [.tmp 2]) (n := 8) Try.func52 rfl rfl (Nat.le_of_ble_eq_true rfl) rfl (pins := []) rfl (L := [(0, .t (.d (.seq 2 (List.map cS_api_Member p0))))]) rfl ?_
  have hr : r = p0 := by
    have := (appI_iff h).2
    simpa using this
  refine c_seq ?_
  refine c_region ?_
  refine o_s (.t (.d (.lit (.slice none 0 0)))) (g0 rfl) rfl rfl rfl ?_
  refine o_nil ?_
  refine then_normal ?_
  refine c_seq ?_
  refine c_seq ?_
  refine c_nil (l1 := [_]) (k := 2) (l := List.map cS_api_Member p0) rfl rfl rfl rfl ?_
  refine o_s (.t (.d (.seq 2 (List.map cS_api_Member p0)))) (g0 rfl) rfl rfl rfl ?_
  refine o_nil ⟨rfl, rfl, fun b hb => ?_⟩
  refine then_normal ?_
  refine c_cond rfl (fun hc => ?_) (fun hc => ?_)
  · have hb := hb hc
    have hp : p0 = [] := by simpa using hb
    refine c_seq ?_
    refine c_region ?_
    refine o_s (.t (.d (.lit (.slice none 0 0)))) (g0 rfl) rfl rfl rfl ?_
    refine o_nil ?_
    refine then_normal ?_
    refine c_ret ?_
    repeat (refine then_ret ?_)
    subst hr hp
    exact end0 rfl (.t (.nilOwn _ _))
  · refine c_skip ?_
    refine then_normal ?_
    refine c_seq ?_
    refine c_region ?_
    refine o_b0 (.t (.own 35 2 (List.map cS_api_Member []))) (g0 rfl) rfl rfl rfl rfl rfl ?_
    refine o_s (.t (.d (.seq 2 (List.map cS_api_Member p0)))) (g0 rfl) rfl rfl rfl ?_
    refine o_2c (g0 rfl) rfl rfl rfl (appE (c := cS_api_Member) h) (appC (c := cS_api_Member) h) ?_
    refine o_2 (.t (.d (.seq 2 (List.map cS_api_Member r)))) (.t (.own 35 2 (List.map cS_api_Member r))) (g0 rfl) rfl rfl rfl ?_
    refine o_nil ?_
    refine then_normal ?_
    refine c_ret ?_
    exact end0 rfl (.refl _)
end Go.Proofs.Ytikaahmonocahaa

/-
  slices.Delete of one member, in memory.
-/
namespace Go.Proofs.Ytikaahmonocahaa
open Go Go.RowKit
open Go.Lib
set_option linter.unusedVariables false
variable {P : Program}
/-- 'clear' of one element of two cells. -/
theorem run_clear_two (w : World) (t e ty : TypeId) (z z1 z2 : Value) (ht : P.underlying t = some (.slice e)) (hv : ∀ w, (zeroValue e).run P w = .ok z w) (hz : z.cells = #[z1, z2]) (h1 : z1.oneCell' = true) (h2 : z2.oneCell' = true) (b o c : Nat)
    (hc : ∀ j, j < 2 → (w.cell? ⟨b, o + j, none⟩).isSome = true) (hf : ∀ j, j < 2 → w.frozen? ⟨b, o + j, none⟩ = false) :
    (Builtin.clear_ #[t] ty #[.slice (some ⟨b, o, none⟩) 1 c]).run P w = .ok (.tuple #[]) (w.setCells b o [z1, z2]) := by
  have hzc : (Builtin.zeroCells z.cells 1).toList = [z1, z2] := by
    rw [hz]
    simp [Builtin.zeroCells, List.range, List.range.loop]
  have hst := run_storeCells_cells (P := P) b o [z1, z2] 0 w (by simpa using hc) (by simpa using hf) (by intro v hv'; simp at hv'; rcases hv' with rfl | rfl <;> assumption)
  simp only [Nat.add_zero] at hst
  simp [Builtin.clear_, run_underlying ht, hv, hzc, hst]
set_option maxHeartbeats 4000000 in
set_option maxRecDepth 1000000 in
theorem del_calls (w : World) (g cap n i j : Nat) (hji : j = i + 1) (news : List Value) (hn : news.length = (n - j) * 2) (hcap : n ≤ cap) (hm : cap ≤ 9223372036854775807) (hj : j ≤ n)
    (hread : ∀ t u, news[t]? = some u → w.cell? ⟨g, j * 2 + t, none⟩ = some u) (hone : ∀ u ∈ news, u.oneCell' = true)
    (hsome : ∀ p, p < n * 2 → (w.cell? ⟨g, p, none⟩).isSome = true) (hfro : ∀ p, p < n * 2 → w.frozen? ⟨g, p, none⟩ = false) :
    Calls Try.prog 51 #[.slice (some ⟨g, 0, none⟩) n cap, .int .i64 i, .int .i64 j] w fun e w' => e = .returned (.slice (some ⟨g, 0, none⟩) (n - 1) cap) ∧ ∃ q, w' = ((w.drewN q).setCells g (i * 2) news).setCells g ((n - 1) * 2) [.string "".toByteArray, .int .i64 0] := by
  obtain ⟨A, hA, hsrc⟩ : ∃ A : Addr, (if cap = j then some (⟨g, 0, none⟩ : Addr) else some ⟨g, j * 2, none⟩) = some A ∧ Hid (∀ t u, news[t]? = some u → w.drew.cell? (A.add t) = some u) := by
    by_cases h : cap = j
    · refine ⟨⟨g, 0, none⟩, by simp [h], fun t u hu => ?_⟩
      have h0 : news.length = 0 := by rw [hn, show n - j = 0 by omega]
      rw [List.length_eq_zero_iff.1 h0] at hu
      simp at hu
    · exact ⟨⟨g, j * 2, none⟩, by simp [h], fun t u hu => by rw [Addr.add_lit]; exact hread t u hu⟩
  have s1 := Lib.hid hn
  have s2 := Lib.hid hone
  have s3 : Hid (∀ t, t < news.length → (w.drew.cell? ⟨g, 0 + i * 2 + t, none⟩).isSome = true ∧ w.drew.frozen? ⟨g, 0 + i * 2 + t, none⟩ = false) := by
    intro t ht
    rw [hn] at ht
    rw [Nat.zero_add]
    exact ⟨hsome _ (by omega), hfro _ (by omega)⟩
  obtain ⟨i0, hi0, hz1⟩ : ∃ i0, Try.prog.info? 35 = some i0 ∧ i0.size = 2 := Option.map_eq_some_iff.1 (show (Try.prog.info? 35).map (·.size) = some 2 by kernel_rfl)
  obtain ⟨W1, hW1⟩ : ∃ W1, W1 = w.drew.setCells g (0 + i * 2) news := ⟨_, rfl⟩
  have hlen : n - (i + (n - j)) = 1 := by omega
  have hoff : i + (n - j) = n - 1 := by omega
  have hcl0 : ∀ o c ty, o = (n - 1) * 2 → (Builtin.clear_ #[23] ty #[.slice (some ⟨g, o, none⟩) 1 c]).run Try.prog W1 = .ok (.tuple #[]) (W1.setCells g o [.string "".toByteArray, .int .i64 0]) := fun o c ty ho => by
    refine run_clear_two W1 _ _ ty _ _ _ Try.underlying23 Try.zeroValue35 rfl rfl rfl g _ _ (fun j hj => ?_) (fun j hj => ?_)
    · rw [hW1, World.cell?_setCells_out _ _ _ _ _ (fun _ _ => .inr (by simp only; rw [hn]; omega))]
      exact hsome _ (by omega)
    · rw [hW1, World.frozen?_setCells]
      exact hfro _ (by omega)
  have hcl : ∀ ty, (Builtin.clear_ #[23] ty #[.slice (some ⟨g, (i + (n - j)) * 2, none⟩) (n - (i + (n - j))) (cap - (i + (n - j)))]).run Try.prog W1 = .ok (.tuple #[]) (W1.setCells g ((i + (n - j)) * 2) [.string "".toByteArray, .int .i64 0]) := fun ty => by
    rw [hlen]
    exact hcl0 _ _ ty (by omega)
  have hW : Hid (W1 = w.drew.setCells g (0 + i * 2) news) := hW1
  have X : Aside (W1 = w.drew.setCells g (0 + i * 2) news) := hW1
  have mixedx : Try.prog.follows .mixedOrders = true := mixed
  have hic : i ≤ cap := by omega
  have hjc : j ≤ cap := by omega
  have hij : i < j := by omega
  have Y := Lib.hid hji
  have Z := Lib.hid hoff
  clear hread hone hn hW1 hji hcl0 hlen hoff hsome hfro
  go_enter Try.func51, Try.ntmps51
  go_wp2_with fail
  go_region_law_o (refine step_append_room rfl (.tmp 22) (.tmp 25) 23 rfl 35 i0 2 Try.underlying23 hi0 hz1 g 0 i cap (by simp [Act.eval, Act.put]) A (n - j) (cap - j) news (by simp [Act.eval, Act.put]) s1.out hsrc.out s2.out (by omega) s3.out ?_; rw [← hW.out])
  go_wp2
  go_ret
  refine ⟨by rw [Z.out]; rfl, 1, ?_⟩
  rw [X.out, Z.out, Nat.zero_add]
  rfl
end Go.Proofs.Ytikaahmonocahaa
