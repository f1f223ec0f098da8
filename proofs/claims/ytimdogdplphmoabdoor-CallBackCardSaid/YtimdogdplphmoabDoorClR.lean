/-
  Calls and their bytes: the models, plain; the laws CallBack and CallReads.
-/
import Derived.Test.YtimdogdplphmoabDoorClN
import Derived.Test.YtimdogdplphmoabDoorNam
import Derived.Test.YtimdogdplphmoabDoorVv
namespace Go.Proofs.YtimdogdplphmoabDoor
open Go Go.RowKit
set_option linter.unusedVariables false
set_option linter.unusedSimpArgs false
set_option maxRecDepth 20000

theorem name_both (s : List UInt8) (h : s.length ≤ 9223372036854775807) : ∃ r, m_tree_Name s = some r ∧ m_R25_Name s = some r ∧ (r = true ↔ NameP s) := by
  obtain ⟨b, hb, hbi⟩ := n_tree_Name s h
  exact ⟨b, hb, ((n_R25_Name s h).iff hbi.symm).bool, hbi⟩
structure CFit (c : S_api_Call) : Prop where
  user : c.User.length ≤ 9223372036854775807
  folder : c.Folder.length ≤ 9223372036854775807
  name : c.Name.length ≤ 9223372036854775807
  other : c.Other.length ≤ 9223372036854775807
  data : c.Data.length ≤ 9223372036854775807
theorem some_cond {α : Type} (c : Bool) (a b : α) : cond c (some a) (some b) = some (cond c a b) := by cases c <;> rfl
theorem n_text {s : List UInt8} {a : Bool} (ha : m_tree_Name s = some a) (has : Bool) : m_call_text s has = some (bif has then a else (s == [])) := by
  unfold m_call_text
  rw [ha]
  cases has <;> rfl
theorem n_numberB (p lo hi : Int) (has : Bool) : m_call_number p lo hi has = some (bif has then (bif decide (p ≥ lo) then decide (p ≤ hi) else false) else (p == 0)) := by
  unfold m_call_number
  cases has
  · rfl
  · cases decide (p ≥ lo) <;> rfl
def fl (x m : Int) : Bool := (wi ((((BitVec.ofInt IntKind.i64.bits x) &&& (BitVec.ofInt IntKind.i64.bits m)).toNat : Nat) : Int)) != 0
theorem fl_ne (x m : Int) : ((wi ((((BitVec.ofInt IntKind.i64.bits x) &&& (BitVec.ofInt IntKind.i64.bits m)).toNat : Nat) : Int)) != 0) = fl x m := rfl
theorem fl_eq (x m : Int) : ((wi ((((BitVec.ofInt IntKind.i64.bits x) &&& (BitVec.ofInt IntKind.i64.bits m)).toNat : Nat) : Int)) == 0) = !fl x m := by
  unfold fl bne
  rw [Bool.not_not]
/-- What the code asks of a call, its table's row told by bits. -/
def codeB (k : Int) (f1 f2 f4 f8 f16 f32 f64 a f n o ef en eo ou of r0 r1 r4 v0 v1 v2 d0 d1 : Bool) : Bool :=
  a && ((bif f1 then f else ef) && ((bif f2 then n else en) && ((bif f4 then o else bif f8 then (bif eo then true else o) else eo) && ((!((!f1 && ou) || ((k == 2) && of))) && ((bif f16 then r1 && r4 else r0) && ((bif f32 then v1 && v2 else v0) && (bif f64 then d1 else d0)))))))
section
variable {c : S_api_Call} {a f n o : Bool}
theorem code_may (hd : c.Data.length ≤ 9223372036854775807) (ha : m_tree_Name c.User = some a) (hf : m_tree_Name c.Folder = some f) (hn : m_tree_Name c.Name = some n) (ho : m_tree_Name c.Other = some o) (h1 : 1 ≤ c.Kind) (h16 : c.Kind ≤ 16) {x : Int} (hx : idx tbl_call_fields c.Kind = some x) :
    m_call_May c = some (codeB c.Kind (fl x 1) (fl x 2) (fl x 4) (fl x 8) (fl x 16) (fl x 32) (fl x 64) a f n o (c.Folder == []) (c.Name == []) (c.Other == []) (c.Other == c.User) (c.Other == c.Folder) (c.Role == 0) (decide (c.Role ≥ 1)) (decide (c.Role ≤ 4)) (c.Version == 0) (decide (c.Version ≥ 0)) (decide (c.Version ≤ 1099511627776)) (decide (c.Data.length = 0)) (decide (c.Data.length ≤ 512))) := by
  unfold m_call_May m_call_May_j1 m_call_May_j2 m_call_May_j3
  have e1 : ((c.Data.length : Int) == 0) = decide (c.Data.length = 0) := by rw [Bool.eq_iff_iff]; simp
  have e2 : decide ((c.Data.length : Int) ≤ 512) = decide (c.Data.length ≤ 512) := by rw [Bool.eq_iff_iff]; simp; omega
  have e3 : decide ((c.Data.length : Int) ≥ 0) = true := decide_eq_true (by omega)
  rw [bif_neg (dec_f (by omega)), bif_neg (dec_f (by omega)), ha, Option.bind_some, hx]
  simp only [fl_ne, fl_eq, n_text hf, n_text hn, n_text ho, n_numberB, Option.bind_some, some_cond, e1, e2, e3]
  congr 1
  unfold codeB
  generalize fl x 1 = f1
  generalize fl x 2 = f2
  generalize fl x 4 = f4
  generalize fl x 8 = f8
  generalize fl x 16 = f16
  generalize fl x 32 = f32
  generalize fl x 64 = f64
  generalize (c.Folder == []) = ef
  generalize (c.Name == []) = en
  generalize (c.Other == []) = eo
  generalize (c.Other == c.User) = ou
  generalize (c.Other == c.Folder) = of
  generalize (c.Role == 0) = r0
  generalize decide (c.Role ≥ 1) = r1
  generalize decide (c.Role ≤ 4) = r4
  generalize (c.Version == 0) = v0
  generalize decide (c.Version ≥ 0) = v1
  generalize decide (c.Version ≤ 1099511627776) = v2
  generalize decide (c.Data.length = 0) = d0
  generalize decide (c.Data.length ≤ 512) = d1
  generalize (c.Kind == 2) = k2

  grind (splits := 60)
theorem lt_ge (a b : Int) : decide (a < b) = !decide (a ≥ b) := by rw [Bool.eq_iff_iff]; simp
theorem gt_le (a b : Int) : decide (a > b) = !decide (a ≤ b) := by rw [Bool.eq_iff_iff]; simp
theorem ne_eq0 (a b : Int) : (a != b) = !(a == b) := rfl
def B7 (c : S_api_Call) : Bool := decide (c.Data.length = 0) || ((c.Kind == 8) && decide (c.Data.length ≤ 512))
theorem ref7 : m_R30_May_j7 c = some (B7 c) := by
  unfold m_R30_May_j7 B7
  have e1 : ((c.Data.length : Int) == 0) = decide (c.Data.length = 0) := by rw [Bool.eq_iff_iff]; simp
  have e2 : decide ((c.Data.length : Int) ≤ 512) = decide (c.Data.length ≤ 512) := by rw [Bool.eq_iff_iff]; simp; omega
  rw [e1, e2]
  cases decide (c.Data.length = 0) <;> cases (c.Kind == 8) <;> rfl
def B6 (c : S_api_Call) : Bool := (bif (c.Kind == 9) then decide (c.Version ≥ 0) && decide (c.Version ≤ 1099511627776) else (c.Version == 0)) && B7 c
theorem ref6 : m_R30_May_j6 c = some (B6 c) := by
  unfold m_R30_May_j6 B6
  rw [ref7, lt_ge, gt_le, ne_eq0]
  cases (c.Kind == 9) <;> cases (c.Version == 0) <;> cases decide (c.Version ≥ 0) <;> cases decide (c.Version ≤ 1099511627776) <;> rfl
def B5 (c : S_api_Call) : Bool := (bif (c.Kind == 5) || (c.Kind == 6) then decide (c.Role ≥ 1) && decide (c.Role ≤ 4) else (c.Role == 0)) && B6 c
theorem ref5 : m_R30_May_j5 c = some (B5 c) := by
  unfold m_R30_May_j5 m_R30_May_j8 B5
  rw [ref6, lt_ge, gt_le, ne_eq0]
  cases (c.Kind == 5) <;> cases (c.Kind == 6) <;> cases (c.Role == 0) <;> cases decide (c.Role ≥ 1) <;> cases decide (c.Role ≤ 4) <;> rfl
def B3 (c : S_api_Call) (n : Bool) : Bool := (bif (c.Kind == 8) || ((c.Kind == 9) || ((c.Kind == 11) || (c.Kind == 12))) then n else (c.Name == [])) && B5 c
theorem ref3 (hn : m_R25_Name c.Name = some n) : m_R30_May_j3 c = some (B3 c n) := by
  unfold m_R30_May_j3 m_R30_May_j4 B3
  rw [ref5, hn]
  cases (c.Kind == 8) <;> cases (c.Kind == 9) <;> cases (c.Kind == 11) <;> cases (c.Kind == 12) <;> cases n <;> cases (c.Name == []) <;> rfl
def B2 (c : S_api_Call) (n o : Bool) : Bool := (bif (c.Kind == 2) || (c.Kind == 3) then ((c.Other == []) || o) && !((c.Kind == 2) && (c.Other == c.Folder)) else bif decide (c.Kind ≥ 5) && decide (c.Kind ≤ 7) then o else bif decide (c.Kind < 14) then (c.Other == []) else true) && B3 c n
theorem ref2 (hn : m_R25_Name c.Name = some n) (ho : m_R25_Name c.Other = some o) : m_R30_May_j2 c = some (B2 c n o) := by
  unfold m_R30_May_j2 m_R30_May_j9 m_R30_May_j10 B2
  rw [ref3 hn, ho]
  cases (c.Kind == 2) <;> cases (c.Kind == 3) <;> cases (c.Other == []) <;> cases o <;> cases (c.Other == c.Folder) <;> cases decide (c.Kind ≥ 5) <;> cases decide (c.Kind ≤ 7) <;> cases decide (c.Kind < 14) <;> rfl
def B1 (c : S_api_Call) (f n o : Bool) : Bool := (bif (c.Kind == 1) || decide (c.Kind ≥ 14) then (c.Folder == []) && (bif (c.Kind == 1) || (c.Kind == 15) then (c.Other == []) else true) else f) && B2 c n o
theorem ref1 (hf : m_R25_Name c.Folder = some f) (hn : m_R25_Name c.Name = some n) (ho : m_R25_Name c.Other = some o) : m_R30_May_j1 c = some (B1 c f n o) := by
  unfold m_R30_May_j1 m_R30_May_j11 B1
  rw [ref2 hn ho, hf]
  cases (c.Kind == 1) <;> cases decide (c.Kind ≥ 14) <;> cases (c.Kind == 15) <;> cases (c.Other == []) <;> cases (c.Folder == []) <;> cases f <;> rfl
def B0 (c : S_api_Call) (a f n o : Bool) : Bool := a && ((bif (c.Kind == 14) || (c.Kind == 16) then o && !(c.Other == c.User) else true) && B1 c f n o)
theorem ref_may (ha : m_R25_Name c.User = some a) (hf : m_R25_Name c.Folder = some f) (hn : m_R25_Name c.Name = some n) (ho : m_R25_Name c.Other = some o) (h1 : 1 ≤ c.Kind) (h16 : c.Kind ≤ 16) : m_R30_May c = some (B0 c a f n o) := by
  unfold m_R30_May B0
  rw [ha, Option.bind_some, bif_neg (dec_f (by omega)), bif_neg (dec_f (by omega)), ref1 hf hn ho, ho]
  cases a <;> cases (c.Kind == 14) <;> cases (c.Kind == 16) <;> cases o <;> cases (c.Other == c.User) <;> rfl
theorem kind_case {x : Int} (hd : c.Data.length ≤ 9223372036854775807) (ha : m_tree_Name c.User = some a) (hf : m_tree_Name c.Folder = some f) (hn : m_tree_Name c.Name = some n) (ho : m_tree_Name c.Other = some o) (ha2 : m_R25_Name c.User = some a) (hf2 : m_R25_Name c.Folder = some f) (hn2 : m_R25_Name c.Name = some n) (ho2 : m_R25_Name c.Other = some o) (h1 : 1 ≤ c.Kind) (h16 : c.Kind ≤ 16) (hx : idx tbl_call_fields c.Kind = some x)
    (h : codeB c.Kind (fl x 1) (fl x 2) (fl x 4) (fl x 8) (fl x 16) (fl x 32) (fl x 64) a f n o (c.Folder == []) (c.Name == []) (c.Other == []) (c.Other == c.User) (c.Other == c.Folder) (c.Role == 0) (decide (c.Role ≥ 1)) (decide (c.Role ≤ 4)) (c.Version == 0) (decide (c.Version ≥ 0)) (decide (c.Version ≤ 1099511627776)) (decide (c.Data.length = 0)) (decide (c.Data.length ≤ 512)) = B0 c a f n o) :
    m_call_May c = some (B0 c a f n o) ∧ m_R30_May c = some (B0 c a f n o) := ⟨by rw [code_may hd ha hf hn ho h1 h16 hx, h], ref_may ha2 hf2 hn2 ho2 h1 h16⟩
end
structure MayC (c : S_api_Call) : Prop where
  k1 : 1 ≤ c.Kind
  k16 : c.Kind ≤ 16
  user : c.User.length ≤ 12
  folder : c.Folder.length ≤ 12
  name : c.Name.length ≤ 12
  other : c.Other.length ≤ 12
  r0 : 0 ≤ c.Role
  r4 : c.Role ≤ 4
  v0 : 0 ≤ c.Version
  v1 : c.Version ≤ 1099511627776
  data : c.Data.length ≤ 512
theorem may_both (c : S_api_Call) (h : CFit c) : ∃ r, m_call_May c = some r ∧ m_R30_May c = some r ∧ (r = true → MayC c) := by
  obtain ⟨a, ha, ha2, hA⟩ := name_both c.User h.user
  obtain ⟨f, hf, hf2, hF⟩ := name_both c.Folder h.folder
  obtain ⟨n, hn, hn2, hN⟩ := name_both c.Name h.name
  obtain ⟨o, ho, ho2, hO⟩ := name_both c.Other h.other
  by_cases h1 : 1 ≤ c.Kind
  case neg =>
    refine ⟨false, ?_, ?_, fun h => Bool.noConfusion h⟩
    · unfold m_call_May
      rw [bif_pos (dec_t (by omega))]
    · unfold m_R30_May
      rw [ha2, Option.bind_some, bif_pos (c := decide (c.Kind < 1)) (dec_t (by omega))]
      cases a <;> rfl
  by_cases h16 : c.Kind ≤ 16
  case neg =>
    refine ⟨false, ?_, ?_, fun h => Bool.noConfusion h⟩
    · unfold m_call_May
      rw [bif_neg (dec_f (by omega)), bif_pos (dec_t (by omega))]
    · unfold m_R30_May
      rw [ha2, Option.bind_some, bif_neg (c := decide (c.Kind < 1)) (dec_f (by omega)), bif_pos (c := decide (c.Kind > 16)) (dec_t (by omega))]
      cases a <;> rfl
  have key : m_call_May c = some (B0 c a f n o) ∧ m_R30_May c = some (B0 c a f n o) := by
    have K := fun x hx => kind_case (x := x) h.data ha hf hn ho ha2 hf2 hn2 ho2 h1 h16 hx
    have hk : c.Kind = 1 ∨ c.Kind = 2 ∨ c.Kind = 3 ∨ c.Kind = 4 ∨ c.Kind = 5 ∨ c.Kind = 6 ∨ c.Kind = 7 ∨ c.Kind = 8 ∨ c.Kind = 9 ∨ c.Kind = 10 ∨ c.Kind = 11 ∨ c.Kind = 12 ∨ c.Kind = 13 ∨ c.Kind = 14 ∨ c.Kind = 15 ∨ c.Kind = 16 := by omega
    unfold codeB B0 B1 B2 B3 B5 B6 B7 at K
    unfold B0 B1 B2 B3 B5 B6 B7
    have hou : (c.Other == c.User) = true → (c.Other == []) = true → a = false := fun h1 h2 => by
      cases e : a with
      | false => rfl
      | true =>
        have h3 := (hA.1 e).2.1
        rw [← beq_iff_eq.1 h1, beq_iff_eq.1 h2] at h3
        simp at h3
    generalize (c.Folder == []) = ef at K ⊢
    generalize (c.Name == []) = en at K ⊢
    generalize (c.Other == []) = eo at K hou ⊢
    generalize (c.Other == c.User) = ou at K hou ⊢
    generalize (c.Other == c.Folder) = of at K ⊢
    generalize (c.Role == 0) = r0 at K ⊢
    generalize decide (c.Role ≥ 1) = r1 at K ⊢
    generalize decide (c.Role ≤ 4) = r4 at K ⊢
    generalize (c.Version == 0) = v0 at K ⊢
    generalize decide (c.Version ≥ 0) = v1 at K ⊢
    generalize decide (c.Version ≤ 1099511627776) = v2 at K ⊢
    have hdd : decide (c.Data.length = 0) = true → decide (c.Data.length ≤ 512) = true := fun h => decide_eq_true (by have := of_decide_eq_true h; omega)
    generalize decide (c.Data.length ≤ 512) = d1 at K hdd ⊢
    generalize hd0 : decide (c.Data.length = 0) = d0 at K hdd ⊢
    rcases hk with hk | hk | hk | hk | hk | hk | hk | hk | hk | hk | hk | hk | hk | hk | hk | hk <;> rw [hk] at K ⊢
    · exact K 0 rfl (by simp only [show fl 0 1 = false from rfl, show fl 0 2 = false from rfl, show fl 0 4 = false from rfl, show fl 0 8 = false from rfl, show fl 0 16 = false from rfl, show fl 0 32 = false from rfl, show fl 0 64 = false from rfl, Int.reduceBEq, Int.reduceLT, Int.reduceLE, Int.reduceGE, Int.reduceGT, decide_true, decide_false]; clear K hA hF hN hO; grind (splits := 40))
    · exact K 9 rfl (by simp only [show fl 9 1 = true from rfl, show fl 9 2 = false from rfl, show fl 9 4 = false from rfl, show fl 9 8 = true from rfl, show fl 9 16 = false from rfl, show fl 9 32 = false from rfl, show fl 9 64 = false from rfl, Int.reduceBEq, Int.reduceLT, Int.reduceLE, Int.reduceGE, Int.reduceGT, decide_true, decide_false]; clear K hA hF hN hO; grind (splits := 40))
    · exact K 9 rfl (by simp only [show fl 9 1 = true from rfl, show fl 9 2 = false from rfl, show fl 9 4 = false from rfl, show fl 9 8 = true from rfl, show fl 9 16 = false from rfl, show fl 9 32 = false from rfl, show fl 9 64 = false from rfl, Int.reduceBEq, Int.reduceLT, Int.reduceLE, Int.reduceGE, Int.reduceGT, decide_true, decide_false]; clear K hA hF hN hO; grind (splits := 40))
    · exact K 1 rfl (by simp only [show fl 1 1 = true from rfl, show fl 1 2 = false from rfl, show fl 1 4 = false from rfl, show fl 1 8 = false from rfl, show fl 1 16 = false from rfl, show fl 1 32 = false from rfl, show fl 1 64 = false from rfl, Int.reduceBEq, Int.reduceLT, Int.reduceLE, Int.reduceGE, Int.reduceGT, decide_true, decide_false]; clear K hA hF hN hO; grind (splits := 40))
    · exact K 21 rfl (by simp only [show fl 21 1 = true from rfl, show fl 21 2 = false from rfl, show fl 21 4 = true from rfl, show fl 21 8 = false from rfl, show fl 21 16 = true from rfl, show fl 21 32 = false from rfl, show fl 21 64 = false from rfl, Int.reduceBEq, Int.reduceLT, Int.reduceLE, Int.reduceGE, Int.reduceGT, decide_true, decide_false]; clear K hA hF hN hO; grind (splits := 40))
    · exact K 21 rfl (by simp only [show fl 21 1 = true from rfl, show fl 21 2 = false from rfl, show fl 21 4 = true from rfl, show fl 21 8 = false from rfl, show fl 21 16 = true from rfl, show fl 21 32 = false from rfl, show fl 21 64 = false from rfl, Int.reduceBEq, Int.reduceLT, Int.reduceLE, Int.reduceGE, Int.reduceGT, decide_true, decide_false]; clear K hA hF hN hO; grind (splits := 40))
    · exact K 5 rfl (by simp only [show fl 5 1 = true from rfl, show fl 5 2 = false from rfl, show fl 5 4 = true from rfl, show fl 5 8 = false from rfl, show fl 5 16 = false from rfl, show fl 5 32 = false from rfl, show fl 5 64 = false from rfl, Int.reduceBEq, Int.reduceLT, Int.reduceLE, Int.reduceGE, Int.reduceGT, decide_true, decide_false]; clear K hA hF hN hO; grind (splits := 40))
    · exact K 67 rfl (by simp only [show fl 67 1 = true from rfl, show fl 67 2 = true from rfl, show fl 67 4 = false from rfl, show fl 67 8 = false from rfl, show fl 67 16 = false from rfl, show fl 67 32 = false from rfl, show fl 67 64 = true from rfl, Int.reduceBEq, Int.reduceLT, Int.reduceLE, Int.reduceGE, Int.reduceGT, decide_true, decide_false]; clear K hA hF hN hO; grind (splits := 40))
    · exact K 35 rfl (by simp only [show fl 35 1 = true from rfl, show fl 35 2 = true from rfl, show fl 35 4 = false from rfl, show fl 35 8 = false from rfl, show fl 35 16 = false from rfl, show fl 35 32 = true from rfl, show fl 35 64 = false from rfl, Int.reduceBEq, Int.reduceLT, Int.reduceLE, Int.reduceGE, Int.reduceGT, decide_true, decide_false]; clear K hA hF hN hO; grind (splits := 40))
    · exact K 1 rfl (by simp only [show fl 1 1 = true from rfl, show fl 1 2 = false from rfl, show fl 1 4 = false from rfl, show fl 1 8 = false from rfl, show fl 1 16 = false from rfl, show fl 1 32 = false from rfl, show fl 1 64 = false from rfl, Int.reduceBEq, Int.reduceLT, Int.reduceLE, Int.reduceGE, Int.reduceGT, decide_true, decide_false]; clear K hA hF hN hO; grind (splits := 40))
    · exact K 3 rfl (by simp only [show fl 3 1 = true from rfl, show fl 3 2 = true from rfl, show fl 3 4 = false from rfl, show fl 3 8 = false from rfl, show fl 3 16 = false from rfl, show fl 3 32 = false from rfl, show fl 3 64 = false from rfl, Int.reduceBEq, Int.reduceLT, Int.reduceLE, Int.reduceGE, Int.reduceGT, decide_true, decide_false]; clear K hA hF hN hO; grind (splits := 40))
    · exact K 3 rfl (by simp only [show fl 3 1 = true from rfl, show fl 3 2 = true from rfl, show fl 3 4 = false from rfl, show fl 3 8 = false from rfl, show fl 3 16 = false from rfl, show fl 3 32 = false from rfl, show fl 3 64 = false from rfl, Int.reduceBEq, Int.reduceLT, Int.reduceLE, Int.reduceGE, Int.reduceGT, decide_true, decide_false]; clear K hA hF hN hO; grind (splits := 40))
    · exact K 1 rfl (by simp only [show fl 1 1 = true from rfl, show fl 1 2 = false from rfl, show fl 1 4 = false from rfl, show fl 1 8 = false from rfl, show fl 1 16 = false from rfl, show fl 1 32 = false from rfl, show fl 1 64 = false from rfl, Int.reduceBEq, Int.reduceLT, Int.reduceLE, Int.reduceGE, Int.reduceGT, decide_true, decide_false]; clear K hA hF hN hO; grind (splits := 40))
    · exact K 4 rfl (by simp only [show fl 4 1 = false from rfl, show fl 4 2 = false from rfl, show fl 4 4 = true from rfl, show fl 4 8 = false from rfl, show fl 4 16 = false from rfl, show fl 4 32 = false from rfl, show fl 4 64 = false from rfl, Int.reduceBEq, Int.reduceLT, Int.reduceLE, Int.reduceGE, Int.reduceGT, decide_true, decide_false]; clear K hA hF hN hO; grind (splits := 40))
    · exact K 0 rfl (by simp only [show fl 0 1 = false from rfl, show fl 0 2 = false from rfl, show fl 0 4 = false from rfl, show fl 0 8 = false from rfl, show fl 0 16 = false from rfl, show fl 0 32 = false from rfl, show fl 0 64 = false from rfl, Int.reduceBEq, Int.reduceLT, Int.reduceLE, Int.reduceGE, Int.reduceGT, decide_true, decide_false]; clear K hA hF hN hO; grind (splits := 40))
    · exact K 4 rfl (by simp only [show fl 4 1 = false from rfl, show fl 4 2 = false from rfl, show fl 4 4 = true from rfl, show fl 4 8 = false from rfl, show fl 4 16 = false from rfl, show fl 4 32 = false from rfl, show fl 4 64 = false from rfl, Int.reduceBEq, Int.reduceLT, Int.reduceLE, Int.reduceGE, Int.reduceGT, decide_true, decide_false]; clear K hA hF hN hO; grind (splits := 40))
  refine ⟨B0 c a f n o, key.1, key.2, fun hb => ?_⟩
  have hb' := hb
  unfold B0 B1 B2 B3 B5 B6 B7 at hb
  have nm : ∀ (x : Bool) (s : List UInt8), (x = true ↔ NameP s) → (x = true ∨ s = []) → s.length ≤ 12 := fun x s h1 h2 => by
    rcases h2 with h2 | h2
    · exact (h1.1 h2).2.2
    · rw [h2]; simp
  simp only [Bool.and_eq_true] at hb
  obtain ⟨b0, b1, b2, b3, b4, b5, b6, b7⟩ := hb
  have oF : f = true ∨ c.Folder = [] := by clear b1 b3 b4 b5 b6 b7 hb' key hA hF hN hO; grind
  have oN : n = true ∨ c.Name = [] := by clear b1 b2 b3 b5 b6 b7 hb' key hA hF hN hO; grind
  have oO : o = true ∨ c.Other = [] := by
    clear b4 b5 b6 b7 hb' key hA hF hN hO
    have hk : c.Kind = 1 ∨ c.Kind = 2 ∨ c.Kind = 3 ∨ c.Kind = 4 ∨ c.Kind = 5 ∨ c.Kind = 6 ∨ c.Kind = 7 ∨ c.Kind = 8 ∨ c.Kind = 9 ∨ c.Kind = 10 ∨ c.Kind = 11 ∨ c.Kind = 12 ∨ c.Kind = 13 ∨ c.Kind = 14 ∨ c.Kind = 15 ∨ c.Kind = 16 := by omega
    rcases hk with hk | hk | hk | hk | hk | hk | hk | hk | hk | hk | hk | hk | hk | hk | hk | hk <;> rw [hk] at b1 b2 b3 <;> simp at b1 b2 b3 <;> grind
  have oR : 0 ≤ c.Role ∧ c.Role ≤ 4 := by clear b1 b2 b3 b4 b6 b7 hb' key hA hF hN hO; grind
  have oV : 0 ≤ c.Version ∧ c.Version ≤ 1099511627776 := by clear b1 b2 b3 b4 b5 b7 hb' key hA hF hN hO; grind
  have oD : c.Data.length ≤ 512 := by clear b1 b2 b3 b4 b5 b6 hb' key hA hF hN hO; grind
  exact ⟨h1, h16, nm a _ hA (.inl b0), nm f _ hF oF, nm n _ hN oN, nm o _ hO oO, oR.1, oR.2, oV.1, oV.2, oD⟩

/-! ### A call as a value -/
def CV (c : S_api_Call) : V := listV [numV c.Kind, wordV c.User, wordV c.Folder, wordV c.Name, wordV c.Other, numV c.Role, numV c.Version, wordV c.Data]
theorem CV_right {c : S_api_Call} (h : MayC c) : (CV c).rpure = true ∧ (CV c).deep ≤ 16 ∧ (CV c).sz ≤ 1048576 := by
  obtain ⟨h1, h2, h3, h4, h5, h6, h7, h8, h9, h10, h11⟩ := h
  refine ⟨rpure_listV (by simp) ?_, Nat.le_trans (deep_list (d := 0) ?_) (by omega), ?_⟩
  · intro y hy
    simp at hy
    rcases hy with rfl | rfl | rfl | rfl | rfl | rfl | rfl | rfl
    · exact rpure_numV (by omega) (by omega)
    · exact rpure_word _
    · exact rpure_word _
    · exact rpure_word _
    · exact rpure_word _
    · exact rpure_numV (by omega) (by omega)
    · exact rpure_numV (by omega) (by omega)
    · exact rpure_word _
  · intro y hy
    simp at hy
    rcases hy with rfl | rfl | rfl | rfl | rfl | rfl | rfl | rfl
    · rw [deep_num]; omega
    · rw [deep_word]; omega
    · rw [deep_word]; omega
    · rw [deep_word]; omega
    · rw [deep_word]; omega
    · rw [deep_num]; omega
    · rw [deep_num]; omega
    · rw [deep_word]; omega
  · have e1 := sz_num (n := c.Kind) (by omega) (by omega)
    have e2 := sz_num (n := c.Role) (by omega) (by omega)
    have e3 := sz_num (n := c.Version) (by omega) (by omega)
    unfold CV
    rw [sz_list]
    simp only [V.sz.szs, sz_word]
    omega
theorem right_cv {v : V} (h : v.rpure = true ∧ v.deep ≤ 16 ∧ v.sz ≤ 1048576) : v.right = true := by
  obtain ⟨r1, r2, r3⟩ := h
  unfold V.right
  simp [r1, r2, r3]
theorem n_cword {s : List UInt8} (h : s.length ≤ 100) : m_call_word s = some (wordV s) := by
  unfold m_call_word
  rw [strB_ok h]
  rfl
theorem n_call_Write {c : S_api_Call} (h : MayC c) (hm : m_call_May c = some true) : m_call_Write c = some ((CV c).enc, 0) := by
  have hr := CV_right h
  obtain ⟨h1, h2, h3, h4, h5, h6, h7, h8, h9, h10, h11⟩ := h
  unfold m_call_Write
  rw [hm, Option.bind_some, bif_neg (c := !true) rfl, n_cword (by omega : c.User.length ≤ 100), n_cword (by omega : c.Folder.length ≤ 100), n_cword (by omega : c.Name.length ≤ 100), n_cword (by omega : c.Other.length ≤ 100)]
  show Option.bind (m_codec_Encode (CV c)) _ = _
  rw [n_Encode, if_pos (right_cv hr)]
  rfl
theorem n_R30_Bytes {c : S_api_Call} (h : MayC c) : m_R30_Bytes c = some (CV c).enc := by
  have hr := CV_right h
  obtain ⟨h1, h2, h3, h4, h5, h6, h7, h8, h9, h10, h11⟩ := h
  unfold m_R30_Bytes
  rw [strB_ok (by omega : c.User.length ≤ 100), strB_ok (by omega : c.Folder.length ≤ 100), strB_ok (by omega : c.Name.length ≤ 100), strB_ok (by omega : c.Other.length ≤ 100)]
  show Option.bind (m_R02_Bytes (V.ht (CV c)) (CV c)) _ = _
  rw [n_R02_Bytes _ _ (Nat.le_refl _) hr.1 hr.2.2]
  rfl
def zC : S_api_Call := S_api_Call.mk 0 [] [] [] [] 0 0 []
def cOf (v : V) : S_api_Call := match v.l with
  | [a0, a1, a2, a3, a4, a5, a6, a7] => S_api_Call.mk a0.n a1.b a2.b a3.b a4.b a5.n a6.n a7.b
  | _ => zC
theorem kinds8 {v : V} (h : kindsB v [1, 2, 2, 2, 2, 1, 1, 2] = true) : ∃ a0 a1 a2 a3 a4 a5 a6 a7, v.k = 3 ∧ v.l = [a0, a1, a2, a3, a4, a5, a6, a7] ∧ a0.k = 1 ∧ a1.k = 2 ∧ a2.k = 2 ∧ a3.k = 2 ∧ a4.k = 2 ∧ a5.k = 1 ∧ a6.k = 1 ∧ a7.k = 2 := by
  unfold kindsB at h
  rw [Bool.and_eq_true, decide_eq_true_eq, beq_iff_eq] at h
  obtain ⟨h3, h⟩ := h
  rcases hl : v.l with _ | ⟨a0, _ | ⟨a1, _ | ⟨a2, _ | ⟨a3, _ | ⟨a4, _ | ⟨a5, _ | ⟨a6, _ | ⟨a7, _ | ⟨a8, r⟩⟩⟩⟩⟩⟩⟩⟩⟩ <;> rw [hl] at h <;> simp at h
  exact ⟨a0, a1, a2, a3, a4, a5, a6, a7, h3, rfl, h⟩
/-- What bytes are read as, by both. -/
theorem call_reads (b : List UInt8) : (∃ c, MayC c ∧ m_call_May c = some true ∧ b = (CV c).enc ∧ m_call_Read b = some (c, 0) ∧ m_R30_Read b = some (c, 0)) ∨ (m_call_Read b = some (zC, 13) ∧ m_R30_Read b = some (zC, 13)) := by
  cases hd : decS b with
  | error e =>
    have he : e ≠ 0 := by have := decS_err hd; omega
    refine .inr ⟨?_, ?_⟩
    · unfold m_call_Read
      rw [n_Decode]
      unfold decA
      rw [hd]
      show (bif e != 0 then some (zC, (13 : Int)) else _) = _
      rw [bif_pos (ine_t he)]
    · unfold m_R30_Read
      rw [n_R02_Decode]
      unfold decA
      rw [hd]
      show (bif e != 0 then some (zC, (13 : Int)) else _) = _
      rw [bif_pos (ine_t he)]
  | ok v =>
    obtain ⟨hb, hp, hde, hs⟩ := decS_ok hd
    have e1 : m_call_Read b = Option.bind (m_codec_Fields v [1, 2, 2, 2, 2, 1, 1, 2]) fun x4 => bif (!x4.2) then (some (zC, 13)) else (Option.bind (idx x4.1 0) fun x7 =>
Option.bind (idx x4.1 1) fun x9 =>
Option.bind (idx x4.1 2) fun x11 =>
Option.bind (idx x4.1 3) fun x13 =>
Option.bind (idx x4.1 4) fun x15 =>
Option.bind (idx x4.1 5) fun x17 =>
Option.bind (idx x4.1 6) fun x19 =>
Option.bind (idx x4.1 7) fun x21 =>
Option.bind (m_call_May (S_api_Call.mk x7.n x9.b x11.b x13.b x15.b x17.n x19.n x21.b)) fun x23 =>
bif (!x23) then (some (zC, 13)) else (some ((S_api_Call.mk x7.n x9.b x11.b x13.b x15.b x17.n x19.n x21.b), 0))) := by
      unfold m_call_Read
      rw [n_Decode]
      unfold decA
      rw [hd]
      rfl
    have e2 : m_R30_Read b = Option.bind (m_R28_Kinds v [1, 2, 2, 2, 2, 1, 1, 2]) fun x4 => bif (!x4) then (some (zC, 13)) else (Option.bind (idx v.l 0) fun x7 =>
Option.bind (idx v.l 1) fun x9 =>
Option.bind (idx v.l 2) fun x11 =>
Option.bind (idx v.l 3) fun x13 =>
Option.bind (idx v.l 4) fun x15 =>
Option.bind (idx v.l 5) fun x17 =>
Option.bind (idx v.l 6) fun x19 =>
Option.bind (idx v.l 7) fun x21 =>
Option.bind (m_R30_May (S_api_Call.mk x7.n x9.b x11.b x13.b x15.b x17.n x19.n x21.b)) fun x23 =>
bif (!x23) then (some (zC, 13)) else (some ((S_api_Call.mk x7.n x9.b x11.b x13.b x15.b x17.n x19.n x21.b), 0))) := by
      unfold m_R30_Read
      rw [n_R02_Decode]
      unfold decA
      rw [hd]
      rfl
    rw [n_Fields _ _ (by decide)] at e1
    rw [n_Kinds _ _ (by decide)] at e2
    by_cases hk : kindsB v [1, 2, 2, 2, 2, 1, 1, 2] = true
    case neg =>
      rw [if_neg hk] at e1
      rw [show kindsB v [1, 2, 2, 2, 2, 1, 1, 2] = false by simpa using hk] at e2
      exact .inr ⟨e1, e2⟩
    rw [if_pos hk] at e1
    rw [hk] at e2
    obtain ⟨a0, a1, a2, a3, a4, a5, a6, a7, k3, hl, k0, k1, k2, k3', k4, k5, k6, k7⟩ := kinds8 hk
    rw [hl] at e1 e2
    have e1 : m_call_Read b = Option.bind (m_call_May (S_api_Call.mk a0.n a1.b a2.b a3.b a4.b a5.n a6.n a7.b)) fun x23 => bif (!x23) then (some (zC, 13)) else (some ((S_api_Call.mk a0.n a1.b a2.b a3.b a4.b a5.n a6.n a7.b), 0)) := e1
    have e2 : m_R30_Read b = Option.bind (m_R30_May (S_api_Call.mk a0.n a1.b a2.b a3.b a4.b a5.n a6.n a7.b)) fun x23 => bif (!x23) then (some (zC, 13)) else (some ((S_api_Call.mk a0.n a1.b a2.b a3.b a4.b a5.n a6.n a7.b), 0)) := e2
    have item : ∀ x ∈ [a0, a1, a2, a3, a4, a5, a6, a7], x.rpure = true ∧ x.sz ≤ 1048576 := fun x hx => by
      have hx' : x ∈ v.l := by rw [hl]; exact hx
      exact ⟨V.rpure_items hp k3 x hx', Nat.le_trans (sz_item k3 hx') hs⟩
    have wd : ∀ x ∈ [a0, a1, a2, a3, a4, a5, a6, a7], x.k = 2 → x = wordV x.b ∧ x.b.length ≤ 1048576 := fun x hx hk => ⟨pure_word (item x hx).1 hk, Nat.le_trans (sz_bytes hk) (item x hx).2⟩
    have nd : ∀ x ∈ [a0, a1, a2, a3, a4, a5, a6, a7], x.k = 1 → x = numV x.n := fun x hx hk => (pureN (item x hx).1 hk).1
    generalize hc : S_api_Call.mk a0.n a1.b a2.b a3.b a4.b a5.n a6.n a7.b = c at e1 e2
    have hf : CFit c := by
      subst hc
      have w1 := (wd a1 (by simp) k1).2
      have w2 := (wd a2 (by simp) k2).2
      have w3 := (wd a3 (by simp) k3').2
      have w4 := (wd a4 (by simp) k4).2
      have w7 := (wd a7 (by simp) k7).2
      exact ⟨by show a1.b.length ≤ _; omega, by show a2.b.length ≤ _; omega, by show a3.b.length ≤ _; omega, by show a4.b.length ≤ _; omega, by show a7.b.length ≤ _; omega⟩
    obtain ⟨r, m1, m2, hM⟩ := may_both c hf
    rw [m1] at e1
    rw [m2] at e2
    cases r with
    | false => exact .inr ⟨e1, e2⟩
    | true =>
      refine .inl ⟨c, hM rfl, m1, ?_, e1, e2⟩
      have : CV c = v := by
        rw [(pure_list hp k3).1, hl]
        subst hc
        unfold CV
        rw [nd a0 (by simp) k0, (wd a1 (by simp) k1).1, (wd a2 (by simp) k2).1, (wd a3 (by simp) k3').1, (wd a4 (by simp) k4).1, nd a5 (by simp) k5, nd a6 (by simp) k6, (wd a7 (by simp) k7).1]
        rfl
      rw [this, hb]
theorem CV_inj {a b : S_api_Call} (h : CV a = CV b) : a = b := by
  have h := listV_inj h
  simp only [List.cons.injEq, and_true] at h
  obtain ⟨h0, h1, h2, h3, h4, h5, h6, h7⟩ := h
  rw [call_eq]
  exact ⟨numV_inj h0, wordV_inj h1, wordV_inj h2, wordV_inj h3, wordV_inj h4, numV_inj h5, numV_inj h6, wordV_inj h7⟩
theorem n_CallBack (c : S_api_Call) : m_L30_CallBack c = some true := by
  unfold m_L30_CallBack
  rw [awake30, Option.bind_some, bif_neg (c := !true) rfl]
  obtain ⟨r, hr, hf⟩ := n_Few30 c
  rw [hr, Option.bind_some]
  cases r with
  | false => rfl
  | true =>
    rw [bif_neg (c := !true) rfl]
    obtain ⟨f1, f2, f3, f4, f5⟩ := hf rfl
    obtain ⟨s, m1, m2, hM⟩ := may_both c ⟨by omega, by omega, by omega, by omega, by omega⟩
    cases s with
    | false =>
      have hw : m_call_Write c = some ([], 13) := by unfold m_call_Write; rw [m1]; rfl
      rw [hw, m1, m2]
      rfl
    | true =>
      have h := hM rfl
      have hr := CV_right h
      rw [n_call_Write h m1, Option.bind_some, m2, Option.bind_some, bif_neg (c := !true) rfl]
      have hrd : m_call_Read (CV c).enc = some (c, 0) := by
        unfold m_call_Read
        rw [n_Decode]
        unfold decA
        rw [decS_enc hr]
        simp only [Option.bind_some]
        rw [bif_neg (c := (0 : Int) != 0) rfl, n_Fields _ _ (by decide), if_pos (show kindsB (CV c) [1, 2, 2, 2, 2, 1, 1, 2] = true from rfl)]
        show Option.bind (m_call_May c) _ = _
        rw [m1]
        rfl
      show Option.bind (m_call_Read (CV c).enc) _ = _
      rw [hrd, Option.bind_some, m1, Option.bind_some, bif_pos (c := true) rfl]
      show (bif ((0 : Int) == 0) then Option.bind (m_R30_Bytes c) _ else _) = _
      rw [bif_pos (ieq_t rfl), n_R30_Bytes h, Option.bind_some]
      have hs3 := hr.2.2
      show Option.bind (m_R01_Same (CV c).enc (CV c).enc) _ = _
      rw [n_R01_Same _ _ (by rw [V.enc_length]; omega), Option.bind_some, beq_self_eq_true, bif_pos (c := true) rfl]
      show (bif ((0 : Int) == 0) then Option.bind (m_R30_Same c c) _ else _) = _
      rw [bif_pos (ieq_t rfl), (n_R30_Same c c (by omega)).yes rfl]
      rfl
theorem n_CallReads (b : List UInt8) : m_L30_CallReads b = some true := by
  unfold m_L30_CallReads
  rw [awake30, Option.bind_some, bif_neg (c := !true) rfl]
  by_cases hl : (b.length : Int) > 2000
  · rw [bif_pos (dec_t hl)]
  rw [bif_neg (dec_f hl)]
  rcases call_reads b with ⟨c, h, m1, hb, e1, e2⟩ | ⟨e1, e2⟩
  · rw [e1, e2, Option.bind_some, Option.bind_some]
    show Option.bind (m_R30_Same c c) _ = _
    have hd := h.data
    rw [(n_R30_Same c c (by omega)).yes rfl, Option.bind_some, bif_neg (c := !true) rfl]
    show Option.bind (m_call_Write c) _ = _
    rw [n_call_Write h m1, Option.bind_some, hb]
    show Option.bind (m_R01_Same (CV c).enc (CV c).enc) _ = _
    have hs3 := (CV_right h).2.2
    rw [n_R01_Same _ _ (by rw [V.enc_length]; omega), Option.bind_some, beq_self_eq_true]
  · rw [e1, e2, Option.bind_some, Option.bind_some]
    show Option.bind (m_R30_Same zC zC) _ = _
    rw [(n_R30_Same zC zC (by decide)).yes rfl, Option.bind_some]
    first | done | rfl
end Go.Proofs.YtimdogdplphmoabDoor
