/-
  Models of functions: printed by a program of this claim's own (gen.py) off the given translation.
-/
import Derived.Test.YteopjhakjeknaaaCbM
namespace Go.Proofs.Yteopjhakjeknaaa
open Go Go.RowKit
set_option linter.unusedVariables false
structure S_api_Member where
  Name : (List UInt8)
  Role : Int

abbrev cS_api_Member (x : S_api_Member) : List D := [.lit (.string ⟨⟨x.Name⟩⟩), .lit (.int .i64 x.Role)]

structure S_api_Past where
  Number : Int
  Epoch : Int
  Gone : Bool
  By : (List UInt8)

abbrev cS_api_Past (x : S_api_Past) : List D := [.lit (.int .i64 x.Number), .lit (.int .i64 x.Epoch), .lit (.bool x.Gone), .lit (.string ⟨⟨x.By⟩⟩)]

structure S_api_Answer where
  Err : Int
  Number : Int
  By : (List UInt8)
  Data : (List UInt8)
  Names : (List (List UInt8))
  Members : (List S_api_Member)
  History : (List S_api_Past)

/-- bastille/answer.word -/
def m_answer_word (p0 : (List UInt8)) : Option V :=
Option.bind (strB p0) fun x1 =>
Option.bind (m_codec_Raw x1) fun x3 =>
some (V.mk x3.k x3.n x3.b [])

/-- bastille/answer.list[string] -/
def m_answer_list_string_l1 (p0 : (List (List UInt8))) (p1 : ((List UInt8) → Option V)) (x1 : V) : Nat → (List V) → Int → Option V
  | 0, _, _ => none
  | nl1 + 1, z3, z4 =>
    bif (decide (z4 < (p0.length : Int))) then (Option.bind (idx p0 z4) fun x6 =>
    Option.bind (p1 x6) fun x8 =>
    Option.bind (appI 64 z3 [x8]) fun x10 =>
    (m_answer_list_string_l1 p0 p1 x1 nl1) x10 (wi (z4 + 1))) else (some (V.mk x1.k x1.n [] z3))

def m_answer_list_string (p0 : (List (List UInt8))) (p1 : ((List UInt8) → Option V)) : Option V :=
Option.bind (m_codec_Of_n0) fun x1 =>
m_answer_list_string_l1 p0 p1 x1 (p0.length + 1) [] 0

/-- bastille/answer.list[bastille/api.Member] -/
def m_answer_list_Member_l1 (p0 : (List S_api_Member)) (p1 : (S_api_Member → Option V)) (x1 : V) : Nat → (List V) → Int → Option V
  | 0, _, _ => none
  | nl1 + 1, z3, z4 =>
    bif (decide (z4 < (p0.length : Int))) then (Option.bind (idx p0 z4) fun x6 =>
    Option.bind (p1 x6) fun x8 =>
    Option.bind (appI 64 z3 [x8]) fun x10 =>
    (m_answer_list_Member_l1 p0 p1 x1 nl1) x10 (wi (z4 + 1))) else (some (V.mk x1.k x1.n [] z3))

def m_answer_list_Member (p0 : (List S_api_Member)) (p1 : (S_api_Member → Option V)) : Option V :=
Option.bind (m_codec_Of_n0) fun x1 =>
m_answer_list_Member_l1 p0 p1 x1 (p0.length + 1) [] 0

/-- bastille/answer.value$1 -/
def m_answer_value_c1 (p0 : S_api_Member) : Option V :=
Option.bind (m_answer_word p0.Name) fun x1 =>
Option.bind (m_codec_Num p0.Role) fun x3 =>
Option.bind (m_codec_Of [x1, (V.mk x3.k x3.n [] [])]) fun x5 =>
some (V.mk x5.k x5.n [] x5.l)

/-- bastille/answer.list[bastille/api.Past] -/
def m_answer_list_Past_l1 (p0 : (List S_api_Past)) (p1 : (S_api_Past → Option V)) (x1 : V) : Nat → (List V) → Int → Option V
  | 0, _, _ => none
  | nl1 + 1, z3, z4 =>
    bif (decide (z4 < (p0.length : Int))) then (Option.bind (idx p0 z4) fun x6 =>
    Option.bind (p1 x6) fun x8 =>
    Option.bind (appI 64 z3 [x8]) fun x10 =>
    (m_answer_list_Past_l1 p0 p1 x1 nl1) x10 (wi (z4 + 1))) else (some (V.mk x1.k x1.n [] z3))

def m_answer_list_Past (p0 : (List S_api_Past)) (p1 : (S_api_Past → Option V)) : Option V :=
Option.bind (m_codec_Of_n0) fun x1 =>
m_answer_list_Past_l1 p0 p1 x1 (p0.length + 1) [] 0

/-- bastille/answer.value$2 -/
def m_answer_value_c2_j1 (p0 : S_api_Past) (y1 : Int) : Option V :=
Option.bind (m_codec_Num p0.Number) fun x2 =>
Option.bind (m_codec_Num p0.Epoch) fun x4 =>
Option.bind (m_codec_Num y1) fun x6 =>
Option.bind (m_answer_word p0.By) fun x8 =>
Option.bind (m_codec_Of [(V.mk x2.k x2.n [] []), (V.mk x4.k x4.n [] []), (V.mk x6.k x6.n [] []), x8]) fun x10 =>
some (V.mk x10.k x10.n [] x10.l)

def m_answer_value_c2 (p0 : S_api_Past) : Option V :=
bif p0.Gone then (m_answer_value_c2_j1 p0 1) else (m_answer_value_c2_j1 p0 0)

/-- bastille/answer.value -/
def m_answer_value (p0 : S_api_Answer) : Option V :=
Option.bind (m_codec_Num p0.Err) fun x1 =>
Option.bind (m_codec_Num p0.Number) fun x3 =>
Option.bind (m_answer_word p0.By) fun x5 =>
Option.bind (m_codec_Raw p0.Data) fun x7 =>
Option.bind (m_answer_list_string p0.Names m_answer_word) fun x9 =>
Option.bind (m_answer_list_Member p0.Members m_answer_value_c1) fun x11 =>
Option.bind (m_answer_list_Past p0.History m_answer_value_c2) fun x13 =>
Option.bind (m_codec_Of [(V.mk x1.k x1.n [] []), (V.mk x3.k x3.n [] []), x5, (V.mk x7.k x7.n x7.b []), (V.mk x9.k x9.n [] x9.l), (V.mk x11.k x11.n [] x11.l), (V.mk x13.k x13.n [] x13.l)]) fun x15 =>
some (V.mk x15.k x15.n [] x15.l)

/-- bastille/answer.bare -/
def m_answer_bare (p0 : S_api_Answer) : Option Bool :=
bif (p0.Number == 0) then (bif (p0.By == []) then (some ((wi ((wi ((wi ((p0.Data.length : Int) + (p0.Names.length : Int))) + (p0.Members.length : Int))) + (p0.History.length : Int))) == 0)) else (some false)) else (some false)

/-- slices.IndexFunc[[]string,string] -/
def m_slices_IndexFunc_string_l1 (p0 : (List (List UInt8))) (p1 : ((List UInt8) → Option Bool)) : Nat → Int → Option Int
  | 0, _ => none
  | nl1 + 1, z1 =>
    bif (decide (z1 < (p0.length : Int))) then (Option.bind (idx p0 z1) fun x3 =>
    Option.bind (p1 x3) fun x5 =>
    bif x5 then (some z1) else ((m_slices_IndexFunc_string_l1 p0 p1 nl1) (wi (z1 + 1)))) else (some (-1))

def m_slices_IndexFunc_string (p0 : (List (List UInt8))) (p1 : ((List UInt8) → Option Bool)) : Option Int :=
m_slices_IndexFunc_string_l1 p0 p1 (p0.length + 1) 0

/-- slices.ContainsFunc[[]string,string] -/
def m_slices_ContainsFunc_string (p0 : (List (List UInt8))) (p1 : ((List UInt8) → Option Bool)) : Option Bool :=
Option.bind (m_slices_IndexFunc_string p0 p1) fun x1 =>
some (decide (x1 ≥ 0))

/-- bastille/answer.all[string]$1 -/
def m_answer_all_string_c1 (p0 : (List UInt8)) (c1 : ((List UInt8) → Option Bool)) : Option Bool :=
Option.bind (c1 p0) fun x1 =>
some (!x1)

/-- bastille/answer.all[string] -/
def m_answer_all_string (p0 : (List (List UInt8))) (p1 : ((List UInt8) → Option Bool)) : Option Bool :=
bif (decide ((p0.length : Int) ≤ 4096)) then (Option.bind (m_slices_ContainsFunc_string p0 (fun a0 => m_answer_all_string_c1 a0 p1)) fun x2 =>
some (!x2)) else (some false)

/-- slices.IndexFunc[[]bastille/api.Member,bastille/api.Member] -/
def m_slices_IndexFunc_Member_l1 (p0 : (List S_api_Member)) (p1 : (S_api_Member → Option Bool)) : Nat → Int → Option Int
  | 0, _ => none
  | nl1 + 1, z1 =>
    bif (decide (z1 < (p0.length : Int))) then (Option.bind (idx p0 z1) fun x3 =>
    Option.bind (p1 x3) fun x5 =>
    bif x5 then (some z1) else ((m_slices_IndexFunc_Member_l1 p0 p1 nl1) (wi (z1 + 1)))) else (some (-1))

def m_slices_IndexFunc_Member (p0 : (List S_api_Member)) (p1 : (S_api_Member → Option Bool)) : Option Int :=
m_slices_IndexFunc_Member_l1 p0 p1 (p0.length + 1) 0

/-- slices.ContainsFunc[[]bastille/api.Member,bastille/api.Member] -/
def m_slices_ContainsFunc_Member (p0 : (List S_api_Member)) (p1 : (S_api_Member → Option Bool)) : Option Bool :=
Option.bind (m_slices_IndexFunc_Member p0 p1) fun x1 =>
some (decide (x1 ≥ 0))

/-- bastille/answer.all[bastille/api.Member]$1 -/
def m_answer_all_Member_c1 (p0 : S_api_Member) (c1 : (S_api_Member → Option Bool)) : Option Bool :=
Option.bind (c1 p0) fun x1 =>
some (!x1)

/-- bastille/answer.all[bastille/api.Member] -/
def m_answer_all_Member (p0 : (List S_api_Member)) (p1 : (S_api_Member → Option Bool)) : Option Bool :=
bif (decide ((p0.length : Int) ≤ 4096)) then (Option.bind (m_slices_ContainsFunc_Member p0 (fun a0 => m_answer_all_Member_c1 a0 p1)) fun x2 =>
some (!x2)) else (some false)

/-- bastille/answer.member -/
def m_answer_member (p0 : S_api_Member) : Option Bool :=
Option.bind (m_tree_Name p0.Name) fun x1 =>
bif x1 then (bif (decide (p0.Role ≥ 1)) then (some (decide (p0.Role ≤ 4))) else (some false)) else (some false)

/-- slices.IndexFunc[[]bastille/api.Past,bastille/api.Past] -/
def m_slices_IndexFunc_Past_l1 (p0 : (List S_api_Past)) (p1 : (S_api_Past → Option Bool)) : Nat → Int → Option Int
  | 0, _ => none
  | nl1 + 1, z1 =>
    bif (decide (z1 < (p0.length : Int))) then (Option.bind (idx p0 z1) fun x3 =>
    Option.bind (p1 x3) fun x5 =>
    bif x5 then (some z1) else ((m_slices_IndexFunc_Past_l1 p0 p1 nl1) (wi (z1 + 1)))) else (some (-1))

def m_slices_IndexFunc_Past (p0 : (List S_api_Past)) (p1 : (S_api_Past → Option Bool)) : Option Int :=
m_slices_IndexFunc_Past_l1 p0 p1 (p0.length + 1) 0

/-- slices.ContainsFunc[[]bastille/api.Past,bastille/api.Past] -/
def m_slices_ContainsFunc_Past (p0 : (List S_api_Past)) (p1 : (S_api_Past → Option Bool)) : Option Bool :=
Option.bind (m_slices_IndexFunc_Past p0 p1) fun x1 =>
some (decide (x1 ≥ 0))

/-- bastille/answer.all[bastille/api.Past]$1 -/
def m_answer_all_Past_c1 (p0 : S_api_Past) (c1 : (S_api_Past → Option Bool)) : Option Bool :=
Option.bind (c1 p0) fun x1 =>
some (!x1)

/-- bastille/answer.all[bastille/api.Past] -/
def m_answer_all_Past (p0 : (List S_api_Past)) (p1 : (S_api_Past → Option Bool)) : Option Bool :=
bif (decide ((p0.length : Int) ≤ 4096)) then (Option.bind (m_slices_ContainsFunc_Past p0 (fun a0 => m_answer_all_Past_c1 a0 p1)) fun x2 =>
some (!x2)) else (some false)

/-- bastille/answer.past -/
def m_answer_past (p0 : S_api_Past) : Option Bool :=
bif (decide (p0.Number ≥ 1)) then (bif (decide (p0.Number ≤ 1099511627776)) then (bif (decide (p0.Epoch ≥ 1)) then (bif (decide (p0.Epoch ≤ 1099511627776)) then (Option.bind (m_tree_Name p0.By) fun x5 =>
some x5) else (some false)) else (some false)) else (some false)) else (some false)

/-- bastille/answer.May -/
def m_answer_May_j2 (p0 : S_api_Answer) (y3 : Bool) : Option Bool :=
bif y3 then (some false) else (Option.bind (m_answer_all_string p0.Names m_tree_Name) fun x5 =>
bif (!x5) then (some false) else (Option.bind (m_answer_all_Member p0.Members m_answer_member) fun x8 =>
bif (!x8) then (some false) else (Option.bind (m_answer_all_Past p0.History m_answer_past) fun x11 =>
bif (!x11) then (some false) else (Option.bind (m_answer_value p0) fun x14 =>
Option.bind (m_codec_Size (V.mk x14.k x14.n [] x14.l)) fun x16 =>
some x16.2))))

def m_answer_May_j1 (p0 : S_api_Answer) (y1 : Bool) : Option Bool :=
bif y1 then (some false) else (bif (decide (p0.Number < 0)) then (m_answer_May_j2 p0 true) else (bif (decide (p0.Number > 1099511627776)) then (m_answer_May_j2 p0 true) else (bif (!(p0.By == [])) then (Option.bind (m_tree_Name p0.By) fun x21 =>
m_answer_May_j2 p0 (!x21)) else (m_answer_May_j2 p0 false))))

def m_answer_May (p0 : S_api_Answer) : Option Bool :=
bif (decide (p0.Err < 0)) then (m_answer_May_j1 p0 true) else (bif (decide (p0.Err > 255)) then (m_answer_May_j1 p0 true) else (bif (p0.Err != 0) then (Option.bind (m_answer_bare p0) fun x26 =>
m_answer_May_j1 p0 (!x26)) else (m_answer_May_j1 p0 false)))

/-- bastille/answer.Write -/
def m_answer_Write (p0 : S_api_Answer) : Option ((List UInt8) × Int) :=
Option.bind (m_answer_May p0) fun x1 =>
bif (!x1) then (some ([], 2)) else (Option.bind (m_answer_value p0) fun x4 =>
Option.bind (m_codec_Encode (V.mk x4.k x4.n [] x4.l)) fun x6 =>
some (x6.1, x6.2))

/-- bastille/bastillelaw31.awake -/
def m_L31_awake : Option Bool :=
Option.bind (m_answer_Write (S_api_Answer.mk 0 0 [] [] [] [] [])) fun x1 =>
bif (x1.2 == 0) then (Option.bind (m_R01_Same x1.1 [3, 0, 7, 1, 0, 1, 0, 2, 0, 0, 0, 2, 0, 0, 0, 3, 0, 0, 3, 0, 0, 3, 0, 0]) fun x4 =>
some x4) else (some false)

/-- bastille/answer.things[string] -/
def m_answer_things_string_j1 (y1 : (List (List UInt8))) : Option ((List (List UInt8)) × Bool) :=
some (y1, true)

def m_answer_things_string_l2 (p0 : V) (p1 : (V → Option ((List UInt8) × Bool))) : Nat → (List (List UInt8)) → Int → Option ((List (List UInt8)) × Bool)
  | 0, _, _ => none
  | nl2 + 1, z2, z3 =>
    bif (decide (z3 < (p0.l.length : Int))) then (Option.bind (idx p0.l z3) fun x5 =>
    Option.bind (p1 x5) fun x7 =>
    bif (!x7.2) then (some ([], false)) else (Option.bind (appI 16 z2 [x7.1]) fun x10 =>
    (m_answer_things_string_l2 p0 p1 nl2) x10 (wi (z3 + 1)))) else (m_answer_things_string_j1 z2)

def m_answer_things_string (p0 : V) (p1 : (V → Option ((List UInt8) × Bool))) : Option ((List (List UInt8)) × Bool) :=
m_answer_things_string_l2 p0 p1 (p0.l.length + 1) [] 0

/-- bastille/answer.name -/
def m_answer_name (p0 : V) : Option ((List UInt8) × Bool) :=
some (p0.b, (p0.k == 2))

/-- bastille/answer.things[bastille/api.Member] -/
def m_answer_things_Member_j1 (y1 : (List S_api_Member)) : Option ((List S_api_Member) × Bool) :=
some (y1, true)

def m_answer_things_Member_l2 (p0 : V) (p1 : (V → Option (S_api_Member × Bool))) : Nat → (List S_api_Member) → Int → Option ((List S_api_Member) × Bool)
  | 0, _, _ => none
  | nl2 + 1, z2, z3 =>
    bif (decide (z3 < (p0.l.length : Int))) then (Option.bind (idx p0.l z3) fun x5 =>
    Option.bind (p1 x5) fun x7 =>
    bif (!x7.2) then (some ([], false)) else (Option.bind (appI 24 z2 [x7.1]) fun x10 =>
    (m_answer_things_Member_l2 p0 p1 nl2) x10 (wi (z3 + 1)))) else (m_answer_things_Member_j1 z2)

def m_answer_things_Member (p0 : V) (p1 : (V → Option (S_api_Member × Bool))) : Option ((List S_api_Member) × Bool) :=
m_answer_things_Member_l2 p0 p1 (p0.l.length + 1) [] 0

/-- bastille/answer.Read$1 -/
def m_answer_Read_c1 (p0 : V) : Option (S_api_Member × Bool) :=
Option.bind (m_codec_Fields p0 [2, 1]) fun x1 =>
bif (!x1.2) then (some ((S_api_Member.mk [] 0), false)) else (Option.bind (idx x1.1 0) fun x4 =>
Option.bind (idx x1.1 1) fun x6 =>
some ((S_api_Member.mk x4.b x6.n), true))

/-- bastille/answer.things[bastille/api.Past] -/
def m_answer_things_Past_j1 (y1 : (List S_api_Past)) : Option ((List S_api_Past) × Bool) :=
some (y1, true)

def m_answer_things_Past_l2 (p0 : V) (p1 : (V → Option (S_api_Past × Bool))) : Nat → (List S_api_Past) → Int → Option ((List S_api_Past) × Bool)
  | 0, _, _ => none
  | nl2 + 1, z2, z3 =>
    bif (decide (z3 < (p0.l.length : Int))) then (Option.bind (idx p0.l z3) fun x5 =>
    Option.bind (p1 x5) fun x7 =>
    bif (!x7.2) then (some ([], false)) else (Option.bind (appI 40 z2 [x7.1]) fun x10 =>
    (m_answer_things_Past_l2 p0 p1 nl2) x10 (wi (z3 + 1)))) else (m_answer_things_Past_j1 z2)

def m_answer_things_Past (p0 : V) (p1 : (V → Option (S_api_Past × Bool))) : Option ((List S_api_Past) × Bool) :=
m_answer_things_Past_l2 p0 p1 (p0.l.length + 1) [] 0

/-- bastille/answer.Read$2 -/
def m_answer_Read_c2 (p0 : V) : Option (S_api_Past × Bool) :=
Option.bind (m_codec_Fields p0 [1, 1, 1, 2]) fun x1 =>
bif (!x1.2) then (some ((S_api_Past.mk 0 0 false []), false)) else (Option.bind (idx x1.1 2) fun x4 =>
bif (decide (x4.n > 1)) then (some ((S_api_Past.mk 0 0 false []), false)) else (Option.bind (idx x1.1 0) fun x7 =>
Option.bind (idx x1.1 1) fun x9 =>
Option.bind (idx x1.1 2) fun x11 =>
Option.bind (idx x1.1 3) fun x13 =>
some ((S_api_Past.mk x7.n x9.n (x11.n == 1) x13.b), true)))

/-- bastille/answer.Read -/
def m_answer_Read (p0 : (List UInt8)) : Option (S_api_Answer × Int) :=
Option.bind (m_codec_Decode p0) fun x1 =>
bif (x1.2 != 0) then (some ((S_api_Answer.mk 0 0 [] [] [] [] []), x1.2)) else (Option.bind (m_codec_Fields x1.1 [1, 1, 2, 2, 3, 3, 3]) fun x4 =>
bif (!x4.2) then (some ((S_api_Answer.mk 0 0 [] [] [] [] []), 11)) else (Option.bind (idx x4.1 0) fun x7 =>
bif (decide (x7.n > 255)) then (some ((S_api_Answer.mk 0 0 [] [] [] [] []), 11)) else (Option.bind (idx x4.1 0) fun x10 =>
Option.bind (idx x4.1 1) fun x12 =>
Option.bind (idx x4.1 2) fun x14 =>
Option.bind (idx x4.1 3) fun x16 =>
Option.bind (idx x4.1 4) fun x18 =>
Option.bind (m_answer_things_string x18 m_answer_name) fun x20 =>
Option.bind (idx x4.1 5) fun x22 =>
Option.bind (m_answer_things_Member x22 m_answer_Read_c1) fun x24 =>
Option.bind (idx x4.1 6) fun x26 =>
Option.bind (m_answer_things_Past x26 m_answer_Read_c2) fun x28 =>
bif (!x20.2) then (some ((S_api_Answer.mk 0 0 [] [] [] [] []), 11)) else (bif (!x24.2) then (some ((S_api_Answer.mk 0 0 [] [] [] [] []), 11)) else (bif (!x28.2) then (some ((S_api_Answer.mk 0 0 [] [] [] [] []), 11)) else (Option.bind (m_answer_May (S_api_Answer.mk x10.n x12.n x14.b x16.b x20.1 x24.1 x28.1)) fun x33 =>
bif (!x33) then (some ((S_api_Answer.mk 0 0 [] [] [] [] []), 11)) else (some ((S_api_Answer.mk x10.n x12.n x14.b x16.b x20.1 x24.1 x28.1), 0))))))))

/-- bastille/bastilleref28.Raw -/
def m_R28_Raw (p0 : (List UInt8)) : Option V :=
some (V.mk 2 0 p0 [])

/-- bastille/bastilleref28.Of -/
def m_R28_Of (p0 : (List V)) : Option V :=
some (V.mk 3 0 [] p0)

/-- bastille/bastilleref28.Num -/
def m_R28_Num (p0 : Int) : Option V :=
some (V.mk 1 p0 [] [])

/-- bastille/bastilleref31.Bytes -/
def m_R31_Bytes_j3 (p0 : S_api_Answer) (y1 : (List V)) (y2 : (List V)) (y3 : (List V)) : Option (List UInt8) :=
Option.bind (m_R28_Num p0.Err) fun x4 =>
Option.bind (m_R28_Num p0.Number) fun x6 =>
Option.bind (strB p0.By) fun x8 =>
Option.bind (m_R28_Raw x8) fun x10 =>
Option.bind (m_R28_Raw p0.Data) fun x12 =>
Option.bind (m_R28_Of y1) fun x14 =>
Option.bind (m_R28_Of y2) fun x16 =>
Option.bind (m_R28_Of y3) fun x18 =>
Option.bind (m_R28_Of [(V.mk x4.k x4.n [] []), (V.mk x6.k x6.n [] []), (V.mk x10.k x10.n x10.b []), (V.mk x12.k x12.n x12.b []), (V.mk x14.k x14.n [] x14.l), (V.mk x16.k x16.n [] x16.l), (V.mk x18.k x18.n [] x18.l)]) fun x20 =>
Option.bind (m_R02_Bytes (V.ht (V.mk x20.k x20.n [] x20.l)) (V.mk x20.k x20.n [] x20.l)) fun x22 =>
some x22

def m_R31_Bytes_j5 (kl4 : (List V) → Int → Option (List UInt8)) (x27 : S_api_Past) (z24 : (List V)) (z25 : Int) (y29 : Int) : Option (List UInt8) :=
Option.bind (m_R28_Num x27.Number) fun x30 =>
Option.bind (m_R28_Num x27.Epoch) fun x32 =>
Option.bind (m_R28_Num y29) fun x34 =>
Option.bind (strB x27.By) fun x36 =>
Option.bind (m_R28_Raw x36) fun x38 =>
Option.bind (m_R28_Of [(V.mk x30.k x30.n [] []), (V.mk x32.k x32.n [] []), (V.mk x34.k x34.n [] []), (V.mk x38.k x38.n x38.b [])]) fun x40 =>
Option.bind (appI 64 z24 [(V.mk x40.k x40.n [] x40.l)]) fun x42 =>
kl4 x42 (wi (z25 + 1))

def m_R31_Bytes_l4 (p0 : S_api_Answer) (y1 : (List V)) (y2 : (List V)) : Nat → (List V) → Int → Option (List UInt8)
  | 0, _, _ => none
  | nl4 + 1, z24, z25 =>
    bif (decide (z25 < (p0.History.length : Int))) then (Option.bind (idx p0.History z25) fun x27 =>
    bif x27.Gone then (m_R31_Bytes_j5 (m_R31_Bytes_l4 p0 y1 y2 nl4) x27 z24 z25 1) else (m_R31_Bytes_j5 (m_R31_Bytes_l4 p0 y1 y2 nl4) x27 z24 z25 0)) else (m_R31_Bytes_j3 p0 y1 y2 z24)

def m_R31_Bytes_j2 (p0 : S_api_Answer) (y1 : (List V)) (y2 : (List V)) : Option (List UInt8) :=
m_R31_Bytes_l4 p0 y1 y2 (p0.History.length + 1) [] 0

def m_R31_Bytes_l6 (p0 : S_api_Answer) (y1 : (List V)) : Nat → (List V) → Int → Option (List UInt8)
  | 0, _, _ => none
  | nl6 + 1, z45, z46 =>
    bif (decide (z46 < (p0.Members.length : Int))) then (Option.bind (idx p0.Members z46) fun x48 =>
    Option.bind (strB x48.Name) fun x50 =>
    Option.bind (m_R28_Raw x50) fun x52 =>
    Option.bind (idx p0.Members z46) fun x54 =>
    Option.bind (m_R28_Num x54.Role) fun x56 =>
    Option.bind (m_R28_Of [(V.mk x52.k x52.n x52.b []), (V.mk x56.k x56.n [] [])]) fun x58 =>
    Option.bind (appI 64 z45 [(V.mk x58.k x58.n [] x58.l)]) fun x60 =>
    (m_R31_Bytes_l6 p0 y1 nl6) x60 (wi (z46 + 1))) else (m_R31_Bytes_j2 p0 y1 z45)

def m_R31_Bytes_j1 (p0 : S_api_Answer) (y1 : (List V)) : Option (List UInt8) :=
m_R31_Bytes_l6 p0 y1 (p0.Members.length + 1) [] 0

def m_R31_Bytes_l7 (p0 : S_api_Answer) : Nat → (List V) → Int → Option (List UInt8)
  | 0, _, _ => none
  | nl7 + 1, z62, z63 =>
    bif (decide (z63 < (p0.Names.length : Int))) then (Option.bind (idx p0.Names z63) fun x65 =>
    Option.bind (strB x65) fun x67 =>
    Option.bind (m_R28_Raw x67) fun x69 =>
    Option.bind (appI 64 z62 [(V.mk x69.k x69.n x69.b [])]) fun x71 =>
    (m_R31_Bytes_l7 p0 nl7) x71 (wi (z63 + 1))) else (m_R31_Bytes_j1 p0 z62)

def m_R31_Bytes (p0 : S_api_Answer) : Option (List UInt8) :=
m_R31_Bytes_l7 p0 (p0.Names.length + 1) [] 0

/-- bastille/bastilleref31.May -/
def m_R31_May_j4 (p0 : S_api_Answer) : Option Bool :=
Option.bind (m_R31_Bytes p0) fun x9 =>
some (decide ((x9.length : Int) ≤ 1048576))

def m_R31_May_l5 (p0 : S_api_Answer) : Nat → Int → Option Bool
  | 0, _ => none
  | nl5 + 1, z11 =>
    bif (decide (z11 < (p0.History.length : Int))) then (Option.bind (idx p0.History z11) fun x13 =>
    bif (decide (x13.Number < 1)) then (some false) else (bif (decide (x13.Number > 1099511627776)) then (some false) else (bif (decide (x13.Epoch < 1)) then (some false) else (bif (decide (x13.Epoch > 1099511627776)) then (some false) else (Option.bind (m_R25_Name x13.By) fun x19 =>
    bif (!x19) then (some false) else ((m_R31_May_l5 p0 nl5) (wi (z11 + 1)))))))) else (m_R31_May_j4 p0)

def m_R31_May_j3 (p0 : S_api_Answer) : Option Bool :=
m_R31_May_l5 p0 (p0.History.length + 1) 0

def m_R31_May_l6 (p0 : S_api_Answer) : Nat → Int → Option Bool
  | 0, _ => none
  | nl6 + 1, z22 =>
    bif (decide (z22 < (p0.Members.length : Int))) then (Option.bind (idx p0.Members z22) fun x24 =>
    Option.bind (m_R25_Name x24.Name) fun x26 =>
    bif (!x26) then (some false) else (Option.bind (idx p0.Members z22) fun x29 =>
    bif (decide (x29.Role < 1)) then (some false) else (Option.bind (idx p0.Members z22) fun x32 =>
    bif (decide (x32.Role > 4)) then (some false) else ((m_R31_May_l6 p0 nl6) (wi (z22 + 1)))))) else (m_R31_May_j3 p0)

def m_R31_May_j2 (p0 : S_api_Answer) : Option Bool :=
m_R31_May_l6 p0 (p0.Members.length + 1) 0

def m_R31_May_l7 (p0 : S_api_Answer) : Nat → Int → Option Bool
  | 0, _ => none
  | nl7 + 1, z35 =>
    bif (decide (z35 < (p0.Names.length : Int))) then (Option.bind (idx p0.Names z35) fun x37 =>
    Option.bind (m_R25_Name x37) fun x39 =>
    bif (!x39) then (some false) else ((m_R31_May_l7 p0 nl7) (wi (z35 + 1)))) else (m_R31_May_j2 p0)

def m_R31_May_j1 (p0 : S_api_Answer) : Option Bool :=
bif (p0.Err != 0) then (bif (p0.Number == 0) then (bif (p0.By == []) then (bif ((p0.Data.length : Int) == 0) then (some ((wi ((wi ((p0.Names.length : Int) + (p0.Members.length : Int))) + (p0.History.length : Int))) == 0)) else (some false)) else (some false)) else (some false)) else (bif (decide ((p0.Names.length : Int) > 4096)) then (some false) else (bif (decide ((p0.Members.length : Int) > 4096)) then (some false) else (bif (decide ((p0.History.length : Int) > 4096)) then (some false) else (bif (decide ((p0.Data.length : Int) > 1048576)) then (some false) else (m_R31_May_l7 p0 (p0.Names.length + 1) 0)))))

def m_R31_May (p0 : S_api_Answer) : Option Bool :=
bif (decide (p0.Err < 0)) then (some false) else (bif (decide (p0.Err > 255)) then (some false) else (bif (decide (p0.Number < 0)) then (some false) else (bif (decide (p0.Number > 1099511627776)) then (some false) else (bif (!(p0.By == [])) then (Option.bind (m_R25_Name p0.By) fun x47 =>
bif (!x47) then (some false) else (m_R31_May_j1 p0)) else (m_R31_May_j1 p0)))))

/-- bastille/bastilleref31.Read -/
def m_R31_Read_j3 (x10 : V) (x12 : V) (x14 : V) (x16 : V) (y18 : (List (List UInt8))) (y19 : (List S_api_Member)) (p0 : (List UInt8)) (y20 : (List S_api_Past)) : Option (S_api_Answer × Int) :=
Option.bind (m_R31_May (S_api_Answer.mk x10.n x12.n x14.b x16.b y18 y19 y20)) fun x21 =>
bif (!x21) then (some ((S_api_Answer.mk 0 0 [] [] [] [] []), 11)) else (Option.bind (m_R31_Bytes (S_api_Answer.mk x10.n x12.n x14.b x16.b y18 y19 y20)) fun x24 =>
Option.bind (m_R01_Same x24 p0) fun x26 =>
bif (!x26) then (some ((S_api_Answer.mk 0 0 [] [] [] [] []), 11)) else (some ((S_api_Answer.mk x10.n x12.n x14.b x16.b y18 y19 y20), 0)))

def m_R31_Read_l4 (x1 : (V × Int)) (x10 : V) (x12 : V) (x14 : V) (x16 : V) (y18 : (List (List UInt8))) (y19 : (List S_api_Member)) (p0 : (List UInt8)) : Nat → (List S_api_Past) → Int → Option (S_api_Answer × Int)
  | 0, _, _ => none
  | nl4 + 1, z29, z30 =>
    Option.bind (idx x1.1.l 6) fun x31 =>
    bif (decide (z30 < (x31.l.length : Int))) then (Option.bind (idx x1.1.l 6) fun x34 =>
    Option.bind (idx x34.l z30) fun x36 =>
    Option.bind (m_R28_Kinds x36 [1, 1, 1, 2]) fun x38 =>
    bif (!x38) then (some ((S_api_Answer.mk 0 0 [] [] [] [] []), 11)) else (Option.bind (idx x36.l 0) fun x41 =>
    Option.bind (idx x36.l 1) fun x43 =>
    Option.bind (idx x36.l 2) fun x45 =>
    Option.bind (idx x36.l 3) fun x47 =>
    Option.bind (appI 40 z29 [(S_api_Past.mk x41.n x43.n (x45.n == 1) x47.b)]) fun x49 =>
    (m_R31_Read_l4 x1 x10 x12 x14 x16 y18 y19 p0 nl4) x49 (wi (z30 + 1)))) else (m_R31_Read_j3 x10 x12 x14 x16 y18 y19 p0 z29)

def m_R31_Read_j2 (x1 : (V × Int)) (x10 : V) (x12 : V) (x14 : V) (x16 : V) (y18 : (List (List UInt8))) (p0 : (List UInt8)) (y19 : (List S_api_Member)) : Option (S_api_Answer × Int) :=
m_R31_Read_l4 x1 x10 x12 x14 x16 y18 y19 p0 (4098) [] 0

def m_R31_Read_l5 (x1 : (V × Int)) (x10 : V) (x12 : V) (x14 : V) (x16 : V) (y18 : (List (List UInt8))) (p0 : (List UInt8)) : Nat → (List S_api_Member) → Int → Option (S_api_Answer × Int)
  | 0, _, _ => none
  | nl5 + 1, z51, z52 =>
    Option.bind (idx x1.1.l 5) fun x53 =>
    bif (decide (z52 < (x53.l.length : Int))) then (Option.bind (idx x1.1.l 5) fun x56 =>
    Option.bind (idx x56.l z52) fun x58 =>
    Option.bind (m_R28_Kinds x58 [2, 1]) fun x60 =>
    bif (!x60) then (some ((S_api_Answer.mk 0 0 [] [] [] [] []), 11)) else (Option.bind (idx x58.l 0) fun x63 =>
    Option.bind (idx x58.l 1) fun x65 =>
    Option.bind (appI 24 z51 [(S_api_Member.mk x63.b x65.n)]) fun x67 =>
    (m_R31_Read_l5 x1 x10 x12 x14 x16 y18 p0 nl5) x67 (wi (z52 + 1)))) else (m_R31_Read_j2 x1 x10 x12 x14 x16 y18 p0 z51)

def m_R31_Read_j1 (x1 : (V × Int)) (x10 : V) (x12 : V) (x14 : V) (x16 : V) (p0 : (List UInt8)) (y18 : (List (List UInt8))) : Option (S_api_Answer × Int) :=
m_R31_Read_l5 x1 x10 x12 x14 x16 y18 p0 (4098) [] 0

def m_R31_Read_l6 (x1 : (V × Int)) (x10 : V) (x12 : V) (x14 : V) (x16 : V) (p0 : (List UInt8)) : Nat → (List (List UInt8)) → Int → Option (S_api_Answer × Int)
  | 0, _, _ => none
  | nl6 + 1, z69, z70 =>
    Option.bind (idx x1.1.l 4) fun x71 =>
    bif (decide (z70 < (x71.l.length : Int))) then (Option.bind (idx x1.1.l 4) fun x74 =>
    Option.bind (idx x74.l z70) fun x76 =>
    Option.bind (appI 16 z69 [x76.b]) fun x78 =>
    (m_R31_Read_l6 x1 x10 x12 x14 x16 p0 nl6) x78 (wi (z70 + 1))) else (m_R31_Read_j1 x1 x10 x12 x14 x16 p0 z69)

def m_R31_Read (p0 : (List UInt8)) : Option (S_api_Answer × Int) :=
Option.bind (m_R02_Decode p0) fun x1 =>
bif (x1.2 != 0) then (some ((S_api_Answer.mk 0 0 [] [] [] [] []), x1.2)) else (Option.bind (m_R28_Kinds x1.1 [1, 1, 2, 2, 3, 3, 3]) fun x4 =>
bif (!x4) then (some ((S_api_Answer.mk 0 0 [] [] [] [] []), 11)) else (Option.bind (idx x1.1.l 0) fun x7 =>
bif (decide (x7.n > 255)) then (some ((S_api_Answer.mk 0 0 [] [] [] [] []), 11)) else (Option.bind (idx x1.1.l 0) fun x10 =>
Option.bind (idx x1.1.l 1) fun x12 =>
Option.bind (idx x1.1.l 2) fun x14 =>
Option.bind (idx x1.1.l 3) fun x16 =>
m_R31_Read_l6 x1 x10 x12 x14 x16 p0 (4098) [] 0)))

/-- bastille/bastilleref27.Same -/
def m_R27_Same_l1 (p0 : (List S_api_Member)) (p1 : (List S_api_Member)) : Nat → Int → Option Bool
  | 0, _ => none
  | nl1 + 1, z2 =>
    bif (decide (z2 < (p0.length : Int))) then (Option.bind (idx p0 z2) fun x4 =>
    Option.bind (idx p1 z2) fun x6 =>
    bif (!((x4.Name == x6.Name) && ((x4.Role == x6.Role) && true))) then (some false) else ((m_R27_Same_l1 p0 p1 nl1) (wi (z2 + 1)))) else (some true)

def m_R27_Same (p0 : (List S_api_Member)) (p1 : (List S_api_Member)) : Option Bool :=
bif ((p0.length : Int) != (p1.length : Int)) then (some false) else (m_R27_Same_l1 p0 p1 (p0.length + 1) 0)

/-- bastille/bastilleref31.Same -/
def m_R31_Same_l2 (p0 : S_api_Answer) (p1 : S_api_Answer) : Nat → Int → Option Bool
  | 0, _ => none
  | nl2 + 1, z12 =>
    bif (decide (z12 < (p0.History.length : Int))) then (Option.bind (idx p0.History z12) fun x14 =>
    Option.bind (idx p1.History z12) fun x16 =>
    bif (!((x14.Number == x16.Number) && ((x14.Epoch == x16.Epoch) && ((x14.Gone == x16.Gone) && ((x14.By == x16.By) && true))))) then (some false) else ((m_R31_Same_l2 p0 p1 nl2) (wi (z12 + 1)))) else (some true)

def m_R31_Same_j1 (p0 : S_api_Answer) (p1 : S_api_Answer) : Option Bool :=
m_R31_Same_l2 p0 p1 (p0.History.length + 1) 0

def m_R31_Same_l3 (p0 : S_api_Answer) (p1 : S_api_Answer) : Nat → Int → Option Bool
  | 0, _ => none
  | nl3 + 1, z19 =>
    bif (decide (z19 < (p0.Names.length : Int))) then (Option.bind (idx p0.Names z19) fun x21 =>
    Option.bind (idx p1.Names z19) fun x23 =>
    bif (!(x21 == x23)) then (some false) else ((m_R31_Same_l3 p0 p1 nl3) (wi (z19 + 1)))) else (m_R31_Same_j1 p0 p1)

def m_R31_Same (p0 : S_api_Answer) (p1 : S_api_Answer) : Option Bool :=
bif (p0.Err != p1.Err) then (some false) else (bif (p0.Number != p1.Number) then (some false) else (bif (!(p0.By == p1.By)) then (some false) else (Option.bind (m_R01_Same p0.Data p1.Data) fun x4 =>
bif (!x4) then (some false) else (bif ((p0.Names.length : Int) != (p1.Names.length : Int)) then (some false) else (Option.bind (m_R27_Same p0.Members p1.Members) fun x8 =>
bif (!x8) then (some false) else (bif ((p0.History.length : Int) != (p1.History.length : Int)) then (some false) else (m_R31_Same_l3 p0 p1 (p0.Names.length + 1) 0)))))))

/-- bastille/bastillelaw31.AnswerReads -/
def m_L31_AnswerReads (p0 : (List UInt8)) : Option Bool :=
Option.bind (m_L31_awake) fun x1 =>
bif (!x1) then (some false) else (bif (decide ((p0.length : Int) > 2000)) then (some true) else (Option.bind (m_answer_Read p0) fun x5 =>
Option.bind (m_R31_Read p0) fun x7 =>
bif (x5.2 != x7.2) then (some false) else (Option.bind (m_R31_Same x5.1 x7.1) fun x10 =>
bif (!x10) then (some false) else (Option.bind (m_answer_Write x5.1) fun x13 =>
bif (x5.2 != 0) then (some true) else (bif (x13.2 == 0) then (Option.bind (m_R01_Same x13.1 p0) fun x17 =>
some x17) else (some false))))))
end Go.Proofs.Yteopjhakjeknaaa
