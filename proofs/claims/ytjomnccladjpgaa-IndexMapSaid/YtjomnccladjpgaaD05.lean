/-
  Texts joined: see the remark at the head of each part.
-/
import Derived.Test.YtjomnccladjpgaaD04
import Derived.Laws.MakeOwn
import Derived.Laws.CopyRow
import Derived.Laws.Pointers
set_option linter.unusedVariables false
set_option linter.unusedSimpArgs false
/-
 Still more operations for walks that a program writes: the bytes of a text that stands in the program; texts held against each other by order.
-/
namespace Go.Proofs.Ytjomnccladjpgaa
open Go Go.RowKit
set_option linter.unusedVariables false
theorem str_ltL (x y : List UInt8) : Op.bytesLess (ByteArray.mk ⟨x⟩).toList (ByteArray.mk ⟨y⟩).toList = Op.bytesLess x y := by simp
def sLt (x y : List UInt8) : Bool := Op.bytesLess x y
theorem s_lt (x y : List UInt8) : Op.bytesLess (ByteArray.mk ⟨x⟩).toList (ByteArray.mk ⟨y⟩).toList = sLt x y := str_ltL x y
theorem s_le (x y : List UInt8) : (Op.bytesLess (ByteArray.mk ⟨x⟩).toList (ByteArray.mk ⟨y⟩).toList || (ByteArray.mk ⟨x⟩).toList == (ByteArray.mk ⟨y⟩).toList) = (sLt x y || x == y) := by rw [s_lt, zFW]
theorem s_gt (x y : List UInt8) : (!(Op.bytesLess (ByteArray.mk ⟨x⟩).toList (ByteArray.mk ⟨y⟩).toList || (ByteArray.mk ⟨x⟩).toList == (ByteArray.mk ⟨y⟩).toList)) = (!(sLt x y || x == y)) := by rw [s_le]
theorem s_ge (x y : List UInt8) : (!(Op.bytesLess (ByteArray.mk ⟨x⟩).toList (ByteArray.mk ⟨y⟩).toList)) = (!(sLt x y)) := by rw [s_lt]
abbrev D.i (z : Int) : D := .lit (.int .i64 z)
abbrev T.i (z : Int) : T := .d (.lit (.int .i64 z))
abbrev A.i (z : Int) : A := .t (.d (.lit (.int .i64 z)))
abbrev D.b (z : Bool) : D := .lit (.bool z)
abbrev T.b (z : Bool) : T := .d (.lit (.bool z))
abbrev A.b (z : Bool) : A := .t (.d (.lit (.bool z)))
abbrev D.s (z : List UInt8) : D := .lit (.string ⟨⟨z⟩⟩)
abbrev T.s (z : List UInt8) : T := .d (.lit (.string ⟨⟨z⟩⟩))
abbrev A.s (z : List UInt8) : A := .t (.d (.lit (.string ⟨⟨z⟩⟩)))
abbrev D.y (z : List UInt8) : D := .seq 1 (qE z)
abbrev T.y (z : List UInt8) : T := .d (.seq 1 (qE z))
abbrev A.y (z : List UInt8) : A := .t (.d (.seq 1 (qE z)))
abbrev D.n : D := .lit (.slice none 0 0)
abbrev T.n : T := .d (.lit (.slice none 0 0))
abbrev A.n : A := .t (.d (.lit (.slice none 0 0)))
theorem WkD.r {x : D} : WkD x x := .refl _
theorem WkT.r {x : T} : WkT x x := .refl _
theorem WkA.r {x : A} : WkA x x := .refl _
theorem mR {S : Nat → A} : Mk S S := Mk.refl _
section
variable {P : Program} {pins : List Nat} {N : Nat} {ops : Array Oper} {Q : SL → Prop} {r : List Oper} {L : SL}
abbrev stS (P : Program) (pins : List Nat) (N : Nat) (L : SL) (d : Nat) (op : Oper) := (op.guard, op.dst, okD N pins (gt L) d, opF P pins false (gt L) d op.op)
abbrev stE (d : Nat) (x : A) : Option (Nat × Bool) × Option Nat × Bool × Option (Prop × Eff) := (none, some d, true, some (True, [(d, x)]))
theorem o_1 {op : Oper} {d : Nat} (x : A) (h : stS P pins N L d op = stE d x) (k : yF P pins N ops Q r ((d, x) :: L)) : yF P pins N ops Q (op :: r) L := by
 simp only [stS, stE, Prod.mk.injEq] at h
 obtain ⟨a, b, c, e⟩ := h
 exact o_s x (g0 a) b c e k
theorem o_m2 {p1 p2 : Oper} {d1 d2 : Nat} (x1 x2 : A) (h : (stS P pins N L d1 p1, stS P pins N ((d1, x1) :: L) d2 p2) = (stE d1 x1, stE d2 x2)) (k : yF P pins N ops Q r ((d2, x2) :: (d1, x1) :: L)) : yF P pins N ops Q (p1 :: p2 :: r) L := by
 obtain ⟨h1, h2⟩ := Prod.mk.inj h
 exact o_1 x1 h1 (o_1 x2 h2 k)
theorem o_m3 {p1 p2 p3 : Oper} {d1 d2 d3 : Nat} (x1 x2 x3 : A) (h : (stS P pins N L d1 p1, stS P pins N ((d1, x1) :: L) d2 p2, stS P pins N ((d2, x2) :: (d1, x1) :: L) d3 p3) = (stE d1 x1, stE d2 x2, stE d3 x3)) (k : yF P pins N ops Q r ((d3, x3) :: (d2, x2) :: (d1, x1) :: L)) : yF P pins N ops Q (p1 :: p2 :: p3 :: r) L := by
 obtain ⟨h1, h2⟩ := Prod.mk.inj h
 exact o_1 x1 h1 (o_m2 x2 x3 h2 k)
theorem o_m4 {p1 p2 p3 p4 : Oper} {d1 d2 d3 d4 : Nat} (x1 x2 x3 x4 : A) (h : (stS P pins N L d1 p1, stS P pins N ((d1, x1) :: L) d2 p2, stS P pins N ((d2, x2) :: (d1, x1) :: L) d3 p3, stS P pins N ((d3, x3) :: (d2, x2) :: (d1, x1) :: L) d4 p4) = (stE d1 x1, stE d2 x2, stE d3 x3, stE d4 x4)) (k : yF P pins N ops Q r ((d4, x4) :: (d3, x3) :: (d2, x2) :: (d1, x1) :: L)) : yF P pins N ops Q (p1 :: p2 :: p3 :: p4 :: r) L := by
 obtain ⟨h1, h2⟩ := Prod.mk.inj h
 exact o_1 x1 h1 (o_m3 x2 x3 x4 h2 k)
theorem o_m5 {p1 p2 p3 p4 p5 : Oper} {d1 d2 d3 d4 d5 : Nat} (x1 x2 x3 x4 x5 : A) (h : (stS P pins N L d1 p1, stS P pins N ((d1, x1) :: L) d2 p2, stS P pins N ((d2, x2) :: (d1, x1) :: L) d3 p3, stS P pins N ((d3, x3) :: (d2, x2) :: (d1, x1) :: L) d4 p4, stS P pins N ((d4, x4) :: (d3, x3) :: (d2, x2) :: (d1, x1) :: L) d5 p5) = (stE d1 x1, stE d2 x2, stE d3 x3, stE d4 x4, stE d5 x5)) (k : yF P pins N ops Q r ((d5, x5) :: (d4, x4) :: (d3, x3) :: (d2, x2) :: (d1, x1) :: L)) : yF P pins N ops Q (p1 :: p2 :: p3 :: p4 :: p5 :: r) L := by
 obtain ⟨h1, h2⟩ := Prod.mk.inj h
 exact o_1 x1 h1 (o_m4 x2 x3 x4 x5 h2 k)
theorem o_m6 {p1 p2 p3 p4 p5 p6 : Oper} {d1 d2 d3 d4 d5 d6 : Nat} (x1 x2 x3 x4 x5 x6 : A) (h : (stS P pins N L d1 p1, stS P pins N ((d1, x1) :: L) d2 p2, stS P pins N ((d2, x2) :: (d1, x1) :: L) d3 p3, stS P pins N ((d3, x3) :: (d2, x2) :: (d1, x1) :: L) d4 p4, stS P pins N ((d4, x4) :: (d3, x3) :: (d2, x2) :: (d1, x1) :: L) d5 p5, stS P pins N ((d5, x5) :: (d4, x4) :: (d3, x3) :: (d2, x2) :: (d1, x1) :: L) d6 p6) = (stE d1 x1, stE d2 x2, stE d3 x3, stE d4 x4, stE d5 x5, stE d6 x6)) (k : yF P pins N ops Q r ((d6, x6) :: (d5, x5) :: (d4, x4) :: (d3, x3) :: (d2, x2) :: (d1, x1) :: L)) : yF P pins N ops Q (p1 :: p2 :: p3 :: p4 :: p5 :: p6 :: r) L := by
 obtain ⟨h1, h2⟩ := Prod.mk.inj h
 exact o_1 x1 h1 (o_m5 x2 x3 x4 x5 x6 h2 k)
theorem o_m7 {p1 p2 p3 p4 p5 p6 p7 : Oper} {d1 d2 d3 d4 d5 d6 d7 : Nat} (x1 x2 x3 x4 x5 x6 x7 : A) (h : (stS P pins N L d1 p1, stS P pins N ((d1, x1) :: L) d2 p2, stS P pins N ((d2, x2) :: (d1, x1) :: L) d3 p3, stS P pins N ((d3, x3) :: (d2, x2) :: (d1, x1) :: L) d4 p4, stS P pins N ((d4, x4) :: (d3, x3) :: (d2, x2) :: (d1, x1) :: L) d5 p5, stS P pins N ((d5, x5) :: (d4, x4) :: (d3, x3) :: (d2, x2) :: (d1, x1) :: L) d6 p6, stS P pins N ((d6, x6) :: (d5, x5) :: (d4, x4) :: (d3, x3) :: (d2, x2) :: (d1, x1) :: L) d7 p7) = (stE d1 x1, stE d2 x2, stE d3 x3, stE d4 x4, stE d5 x5, stE d6 x6, stE d7 x7)) (k : yF P pins N ops Q r ((d7, x7) :: (d6, x6) :: (d5, x5) :: (d4, x4) :: (d3, x3) :: (d2, x2) :: (d1, x1) :: L)) : yF P pins N ops Q (p1 :: p2 :: p3 :: p4 :: p5 :: p6 :: p7 :: r) L := by
 obtain ⟨h1, h2⟩ := Prod.mk.inj h
 exact o_1 x1 h1 (o_m6 x2 x3 x4 x5 x6 x7 h2 k)
end
theorem k1 {L : SL} {K : SL → Prop} {Q : Exit → SL → Prop} (h : K L) : zEg K Q .normal L := h
theorem k2 {L : SL} {K : SL → Prop} {Q : Exit → SL → Prop} {i : Nat} (h : Q (.exit i) L) : zEg K Q (.exit i) L := h
theorem k3 {L : SL} {K : SL → Prop} {Q : Exit → SL → Prop} (h : Q .ret L) : zEg K Q .ret L := h
theorem k4 {L : SL} {i : Nat} {Q : Exit → SL → Prop} (h : Q .normal L) : zFJ i Q .normal L := h
theorem k5 {L : SL} {i : Nat} {Q : Exit → SL → Prop} (h : Q .ret L) : zFJ i Q .ret L := h
theorem k6 {L : SL} {i : Nat} {Q : Exit → SL → Prop} (h : Q .normal L) : zFJ i Q (.exit i) L := zBR h
theorem k7 {L : SL} {i j : Nat} {Q : Exit → SL → Prop} (hne : (j == i) = false) (h : Q (.exit j) L) : zFJ i Q (.exit j) L := zBO hne h
theorem c_sr {P : Program} {pins : List Nat} {N : Nat} {Q : Exit → SL → Prop} {L : SL} {id : Nat} {l : List Oper} {y : Code} (h : yF P pins N l.toArray (zEg (qI P pins N y Q) Q .normal) l L) : qI P pins N (.seq (.region id l.toArray false) y) Q L := zL (zS h)
end Go.Proofs.Ytjomnccladjpgaa

/-
 Functions that have caught variables: made, handed over, called. A caught variable never changes again: it is frozen first.
-/
namespace Go.Proofs.Ytjomnccladjpgaa
open Go Go.RowKit
set_option linter.unusedVariables false
def frzD : T → D
 | .d x => x
 | .own _ k l => .seq k l
 | _ => default
section
variable {w0 : World} {m0 : Mem} {o0 : OwnM} {G : GD} {pins : List Nat} {S M : Nat → A} {a : Act} {w : World} {m : Mem} {o : OwnM} {P : Program} {N : Nat}
theorem Inv.freeze (I : Inv w0 m0 o0 G pins S a w m o) (s : Nat) (hsO : s < OB) (hs : s ∉ pins) {l : List T} (hpt : noPt l = true) (hbox : S s = .box l) (hno : ∀ t off, S t ≠ .ref s off) : ∃ m' o', Inv w0 m0 o0 G pins (upd S s (.imm (l.map frzD))) a w m' o' := by
 have hb := I.slots s
 rw [hbox] at hb
 obtain ⟨g, e, h1, h2, cs, E, h3, h4, h5⟩ := hb
 have hk : ∀ b l, (fun b => if (o b).map (·.1) = some s then none else o b) b = some l → l.1 ≠ s ∧ o b = some l := by
  intro b l h
  simp only at h
  split at h
  · cases h
  ·
   rename_i hn
   exact ⟨fun e => hn (by rw [h, ← e]; rfl), h⟩
 have hko : ∀ b l, o b = some l → l.1 ≠ s → (if (o b).map (·.1) = some s then none else o b) = some l := fun b l h hn => by rw [h, if_neg (by simpa using hn)]
 have K : Keep (fun l => l.1 = s) m w o (newM m g fun p => cs[p]?) w (fun b => if (o b).map (·.1) = some s then none else o b) := by
  refine ⟨fun b p u h => ?_, fun b l h hn => ?_, fun _ _ _ _ => rfl, fun b l h hn => hko b l h hn, fun b j h => hko b _ h (zE1 hsO), fun b t k _ h => ⟨b, k, (hk b _ h).2⟩, fun b j _ => .of_eq rfl⟩
  ·
   unfold newM
   split
   ·
    rename_i hb
    rw [hb, h2 p] at h
    cases h
   · exact h
  ·
   have : b ≠ g := fun e => by
    subst e
    rw [h1] at h
    injection h with h
    exact hn (by rw [← h])
   funext p
   unfold newM
   rw [if_neg this]
 refine ⟨_, _, ⟨I.same, fun b p u h => ?_, I.mono.trans K.mle, fun b hb hg => ?_, fun b l h => I.own b l (hk b l h).2, fun b l h => I.lt b l (hk b l h).2, fun b b' l h h' => I.inj b b' l (hk b l h).2 (hk b' l h').2, fun p hp b hb => ?_, fun t => ?_, I.defers, I.tbl, I.wide, I.shps⟩⟩
 ·
  unfold newM at h
  split at h
  ·
   rename_i hb
   subst hb
   unfold World.cell?
   simp only [h3]
   exact h
  · exact I.sat b p u h
 ·
  have : b ≠ g := fun e => by
   subst e
   rcases I.own b _ h1 with h | h
   · exact hg h
   · omega
  rw [← I.old b hb hg]
  funext p
  unfold newM
  rw [if_neg this]
 · exact hko b _ (I.pinned p hp b hb) fun e => hp.elim (fun hp => hs (by rw [← e]; exact hp)) fun hp => by have e : p = s := e; omega
 ·
  by_cases ht : t = s
  ·
   subst ht
   rw [zZ]
   refine ⟨g, 0, e hsO, fun j d hj => ?_⟩
   rw [List.getElem?_map] at hj
   cases hx : l[j]? with
   | none => rw [hx] at hj; cases hj
   | some x =>
    rw [hx] at hj
    injection hj with hj
    subst hj
    obtain ⟨ha, u, hu, hr⟩ := h5 j x hx
    refine ⟨u, by rw [Nat.zero_add, zCt]; exact hu, ?_⟩
    refine RepD.mono K.mle ?_
    cases x with
    | d y => exact hr
    | agg l => cases ha
    | own E k l => exact zEC I.sat hr
    | ptr => exact absurd (zB0 hpt hx) (by simp [T.isPt])
    | view => exact absurd (zB0 hpt hx) (by simp [T.isPt])
    | hpt => exact absurd (zB0 hpt hx) (by simp [T.isPt])
    | hvw => exact absurd (zB0 hpt hx) (by simp [T.isPt])
    | mpt => exact absurd (zB0 hpt hx) (by simp [T.isPt])
    | xs E k l rv => exact absurd (zB0 hpt hx) (by simp [T.isPt])
    | any => exact absurd (zB0 hpt hx) (by simp [T.isPt])
  ·
   rw [zH ht]
   refine RepA.keep K (fun j e => ht e) (fun b off e _ => ?_) (I.slots t)
   have hbs : b ≠ s := fun e' => hno t off (by rw [e, e'])
   exact ⟨hbs, fun ⟨l, hl⟩ => ⟨l, by rw [zH hbs, hl]⟩⟩
def zHO (s : Nat) : SL → Bool
 | [] => true
 | (_, x) :: r => (match x with | .ref b _ => b != s | _ => true) && zHO s r
theorem zJr {s : Nat} {L : SL} (h : zHO s L = true) (t off : Nat) : gt L t ≠ .ref s off := by
 induction L with
 | nil => intro h; cases h
 | cons x r ih =>
  obtain ⟨t', y⟩ := x
  simp only [zHO, Bool.and_eq_true] at h
  rw [qH, upd]
  split
  ·
   intro e
   rw [e] at h
   simp at h
  · exact ih h.2
theorem c_fz {c : Code} {Q : Exit → SL → Prop} {L : SL} (s : Nat) {l : List T} (z : A) (hb : gt L s = .box l) (hp : (pins.contains s || !Nat.blt s OB) = false) (hr : (zHO s L && noPt l) = true) (hz : A.imm (l.map frzD) = z) (h : qI P pins N c Q ((s, z) :: L)) : qI P pins N c Q L := by
 subst hz
 intro Fe ne hF w0 m0 o0 G a w hS
 obtain ⟨hN, hlo, m, o, I⟩ := hS
 rw [Bool.or_eq_false_iff] at hp
 rw [Bool.and_eq_true] at hr
 obtain ⟨m', o', J⟩ := I.freeze s (by simpa using hp.2) (by simpa using hp.1) hr.2 (zBq hb (by simp)) (fun t off e => zJr hr.1 t off (hx_ref e))
 exact h Fe ne hF w0 m0 o0 G a w ⟨hN, by rw [qH]; exact hlo.upd (lt2 (by simpa using hp.2)), m', o', by rw [qH, zGv (.inl (by simpa using hp.2))]; exact J⟩
def capsF (M : Nat → A) : List Operand → Option (List (List D))
 | [] => some []
 | x :: r => match cpO M x, capsF M r with
  | .imm l, some k => some (l :: k)
  | _, _ => none
theorem zIW (hM : Mk M S) (I : Inv w0 m0 o0 G pins S a w m o) : ∀ {xs : List Operand} {caps : List (List D)}, capsF M xs = some caps → xs.length = caps.length ∧ ∀ i l, caps[i]? = some l → RepA m w o S 0 (.imm l) ((xs.map a.eval).getD i undef)
 | [], caps, h => by injection h with h; subst h; exact ⟨rfl, fun i l h => by simp at h⟩
 | x :: r, caps, h => by
  unfold capsF at h
  split at h
  case h_2 => cases h
  rename_i l k h1 h2
  injection h with h
  subst h
  obtain ⟨k1, k2⟩ := zIW hM I h2
  refine ⟨by simpa using k1, fun i l' hi => ?_⟩
  cases i with
  | zero =>
   injection hi with hi
   subst hi
   have := qG hM I x 0
   rw [h1] at this
   simpa using this
  | succ i => simpa using k2 i l' (by simpa using hi)
theorem clo_rep {m : Mem} {f : FuncId} {caps : List (List D)} {ptrs : Array Value} (hsz : ptrs.size = caps.length) (h : ∀ (i : Nat) (l : List D), caps[i]? = some l → ∃ g p, ptrs[i]? = some (Value.pointer (some ⟨g, p, none⟩)) ∧ ∀ (j : Nat) (d : D), l[j]? = some d → ∃ u, m g (p + j) = some u ∧ RepD m d u) : RepD m (.clo f caps) (.func (.func f) #[] ptrs) := by
 have H : ∀ i : Nat, ∃ x : Nat × Nat, ∀ l : List D, caps[i]? = some l → ptrs[i]? = some (Value.pointer (some ⟨x.1, x.2, none⟩)) ∧ ∀ (j : Nat) (d : D), l[j]? = some d → ∃ u, m x.1 (x.2 + j) = some u ∧ RepD m d u := by
  intro i
  cases hc : caps[i]? with
  | none => exact ⟨(0, 0), fun l h => by cases h⟩
  | some l =>
   obtain ⟨g, p, h1, h2⟩ := h i l hc
   exact ⟨(g, p), fun l' h => by injection h with h; subst h; exact ⟨h1, h2⟩⟩
 refine .clo f caps ptrs (fun i => (H i).choose.1) (fun i => (H i).choose.2) (fun i j => (m (H i).choose.1 ((H i).choose.2 + j)).getD undef) hsz (fun i r hr => ((H i).choose_spec r hr).1) (fun i r j d hr hd => ?_) (fun i r j d hr hd => ?_)
 ·
  obtain ⟨u, h1, h2⟩ := ((H i).choose_spec r hr).2 j d hd
  rw [h1]; rfl
 ·
  obtain ⟨u, h1, h2⟩ := ((H i).choose_spec r hr).2 j d hd
  rw [h1]; exact h2
theorem ok_mfc (hM : Mk M S) {op : Oper} {d f : Nat} {xs : List Operand} (hop : op.op = .makeFunc (.func f) #[] xs.toArray) (hd : op.dst = some d) (hok : okD N pins S d = true) {caps : List (List D)} (hc : capsF M xs = some caps) : OpOK P pins N op S (upd S d (.t (.d (.clo f caps)))) := by
 refine zV fun w0 m0 o0 G a w m o hN I => ?_
 obtain ⟨k1, k2, k3⟩ := qA hok
 obtain ⟨c1, c2⟩ := zIW hM I hc
 have hrep : RepD m (.clo f caps) (.func (.func f) #[] (xs.map a.eval).toArray) := by
  refine clo_rep (by simpa using c1) fun i l hi => ?_
  have hlt : i < xs.length := by rw [c1]; exact (List.getElem?_eq_some_iff.1 hi).1
  obtain ⟨g, p, e, h⟩ := c2 i l hi
  refine ⟨g, p, ?_, h⟩
  rw [← e, List.getElem?_toArray, List.getD_eq_getElem?_getD, List.getElem?_eq_getElem (by simpa using hlt)]
  rfl
 refine ⟨.func (.func f) #[] (xs.map a.eval).toArray, w, m, o, ?_, by rw [hd]; exact I.set d _ _ (by omega) k2 hrep⟩
 unfold execOp
 rw [hop]
 simp [Instr.makeFunc]
theorem zJV (hM : Mk M S) {op : Oper} {d f : Nat} {xs : List Operand} {ts : Array TypeId} {fx : Operand} {caps : List (List D)} (hop : op.op = .call { callee := .value fx, args := xs.toArray, argTypes := ts }) (hfx : dO M fx = some (.clo f caps)) (hd : op.dst = some d) (hok : okD N pins S d = true) {fn : Func} (hfn : P.funcs[f]? = some fn) (hbody : fn.body.isNone = false) (hname : (fn.name == "runtime.NumGoroutine") = false)
  {args : List A} {r : A} (hargs : zCw (xs.map (cpO M)) args) (hp : args.all A.plain = true) (hf : FC P f (args ++ caps.map A.imm) [] r) (hnr : r.noRef = true) : OpOK P pins N op S (upd S d r) := by
 intro w0 m0 o0 G a w m o hN I K Q hK
 obtain ⟨h1, h2, h3⟩ := qA hok
 have key : ∀ (xs : List Operand) (args : List A), zCw (xs.map (cpO M)) args → (xs.map a.eval).length = args.length ∧ ∀ i x, args[i]? = some x → ∃ s, RepA m w o S s x ((xs.map a.eval).getD i undef) := by
  intro xs
  induction xs with
  | nil => intro args h; cases h; exact ⟨rfl, fun i x h => by simp at h⟩
  | cons y ys ih =>
   intro args h
   cases h with
   | cons hx ht =>
    obtain ⟨k1, k2⟩ := ih _ ht
    refine ⟨by simpa using k1, fun i x hi => ?_⟩
    cases i with
    | zero => injection hi with hi; subst hi; exact ⟨0, hx.rep I.sat (qG hM I y 0)⟩
    | succ i => simpa using k2 i x (by simpa using hi)
 obtain ⟨k1, k2⟩ := key xs args hargs
 have hfv := zD1 hM I hfx
 generalize hfe : a.eval fx = fv at hfv
 cases hfv with
 | clo _ _ ptrs g p fu q1 q2 q3 q4 =>
  have hpl : (args ++ caps.map A.imm).all A.plain = true := by
   rw [List.all_append, hp, Bool.true_and, List.all_eq_true]
   intro x hx
   obtain ⟨l, _, rfl⟩ := List.mem_map.1 hx
   rfl
  have hc := zHB I hf hpl (vals := (xs.map a.eval).toArray ++ ptrs) (by simp [q1]; simpa using k1) (fun i x hi => by
   rw [List.getElem?_append] at hi
   rw [Array.getD_eq_getD_getElem?, Array.getElem?_append]
   split at hi
   ·
    rename_i hlt
    rw [if_pos (by simp at k1 ⊢; omega)]
    have := k2 i x hi
    simpa [List.getD_eq_getElem?_getD] using this
   ·
    rename_i hlt
    rw [if_neg (by simp at k1 ⊢; omega)]
    rw [List.getElem?_map] at hi
    cases hc : caps[i - args.length]? with
    | none => rw [hc] at hi; cases hi
    | some l =>
     rw [hc] at hi
     injection hi with hi
     subst hi
     have e : i - (xs.map a.eval).toArray.size = i - args.length := by simp at k1 ⊢; omega
     rw [e, q2 _ l hc]
     exact ⟨0, g _, p _, rfl, fun j d hj => ⟨_, q3 _ l j d hc hj, q4 _ l j d hc hj⟩⟩) (d := d) (by omega) h2 h3 hnr
  unfold Oper.wp
  have hrun : (execOp a.eval op).run P w = .ok (.enter f ((xs.map a.eval).toArray ++ ptrs)) w := by
   unfold execOp
   rw [hop]
   simp only [resolve, hfe, Deferred.ofValue, List.map_toArray]
   have hb : fn.body ≠ none := fun e => by rw [e] at hbody; cases hbody
   have hn : fn.name ≠ "runtime.NumGoroutine" := fun e => by rw [e] at hname; simp at hname
   simp [invoke, callFunc, hfn, hn, hb]
  rw [hrun]
  refine Calls.mono hc ?_
  rintro e w' ⟨u, m', o', rfl, J⟩
  rw [← hd] at J
  exact hK _ _ _ _ (by rw [zA6, hN]) J
end
section
variable {P : Program} {pins : List Nat} {N : Nat} {ops : Array Oper} {Q : SL → Prop} {r : List Oper} {op : Oper} {L : SL}
theorem o_mfc {d f : Nat} {xs : List Operand} {caps : List (List D)} (x : A) (hy : yes ops op L true) (hop : op.op = .makeFunc (.func f) #[] xs.toArray) (hd : op.dst = some d) (hok : okD N pins (gt L) d = true) (hc : capsF (gt L) xs = some caps) (hx : A.t (.d (.clo f caps)) = x) (k : yF P pins N ops Q r ((d, x) :: L)) : yF P pins N ops Q (op :: r) L := by
 subst hx
 exact o_of (e := [(d, _)]) hy (.of (e := [(d, _)]) fun hN => ⟨ok_mfc (Mk_hx _) hop hd (qX hN hok) hc, zBU (qN hN hok)⟩) rfl k
theorem o_cc {d f : Nat} {xs : List Operand} {ts : Array TypeId} {args : List A} {caps : List (List D)} {y : A} (hf : FC P f (args ++ caps.map A.imm) [] y) (hy : yes ops op L true) {fx : Operand} (hop : op.op = .call { callee := .value fx, args := xs.toArray, argTypes := ts }) (hfx : dO (gt L) fx = some (.clo f caps)) (hd : op.dst = some d) (hok : okD N pins (gt L) d = true)
  {fn : Func} (hfn : P.funcs[f]? = some fn) (hbody : fn.body.isNone = false) (hname : (fn.name == "runtime.NumGoroutine") = false) (hargs : zCw (xs.map (cpO (gt L))) args) (hp : args.all A.plain = true) (hnr : y.noRef = true) (k : yF P pins N ops Q r ((d, y) :: L)) : yF P pins N ops Q (op :: r) L :=
 o_of (e := [(d, y)]) hy (.of (e := [(d, y)]) fun hN => ⟨zJV (Mk_hx _) hop hfx hd (qX hN hok) hfn hbody hname hargs hp hf hnr, zBU (qN hN hok)⟩) rfl k
end
section
variable {P : Program} {pins : List Nat} {N : Nat} {l0 : List Oper} {Q : SL → Prop} {r : List Oper} {op : Oper} {L : SL} {acc : List (List Nat × List Nat)} {T : List Nat}
theorem d_cc {d f : Nat} {xs : List Operand} {ts : Array TypeId} {args : List A} {caps : List (List D)} {y : A} (hf : FC P f (args ++ caps.map A.imm) [] y) (hT : zCM (zCi l0.toArray (gt L) op) some = some T) (hy : dyes l0 op L T) {fx : Operand} (hop : op.op = .call { callee := .value fx, args := xs.toArray, argTypes := ts }) (hfx : dO (mask T (gt L)) fx = some (.clo f caps)) (hd : op.dst = some d) (hdT : T.contains d = true) (hok : okD N pins (gt L) d = true)
  {fn : Func} (hfn : P.funcs[f]? = some fn) (hbody : fn.body.isNone = false) (hname : (fn.name == "runtime.NumGoroutine") = false) (hargs : zCw (xs.map (cpO (mask T (gt L)))) args) (hp : args.all A.plain = true) (hnr : y.noRef = true) (k : DOK P pins N l0 Q r ((T, [d]) :: acc) ((d, y) :: L)) : DOK P pins N l0 Q (op :: r) acc L :=
 d_of (ks := [d]) hT hy (e := [(d, y)]) rfl (by simp only [List.all_cons, List.all_nil, hdT]; rfl) (fun S' hS => have hok := d_mf.okD_of hS (by simpa using hdT) hok; .of (e := [(d, y)]) fun hN => ⟨zJV (zDo hS).hx hop hfx hd (qX hN hok) hfn hbody hname hargs hp hf hnr, zBU (qN hN hok)⟩) rfl k
end
end Go.Proofs.Ytjomnccladjpgaa

/-
 Slices that may grow: out of a call's results; made.
-/
namespace Go.Proofs.Ytjomnccladjpgaa
open Go Go.RowKit
set_option linter.unusedVariables false
section
variable {w0 : World} {m0 : Mem} {o0 : OwnM} {G : GD} {pins : List Nat} {S M : Nat → A} {a : Act} {w : World} {m : Mem} {o : OwnM} {P : Program} {N : Nat}
def mkI (nb : Nat) (n : Int) : Option Nat := if 0 ≤ n ∧ (nb : Int) * n ≤ 281474976710656 ∧ n ≤ 140737488351232 then some n.toNat else none
theorem mkI_iff {nb q : Nat} {n : Int} (h : mkI nb n = some q) : 0 ≤ n ∧ (nb : Int) * n ≤ 281474976710656 ∧ n ≤ 140737488351232 ∧ q = n.toNat := by
 unfold mkI at h
 split at h
 · rename_i hc; injection h with h; exact ⟨hc.1, hc.2.1, hc.2.2, h.symm⟩
 · cases h
theorem ok_mko (hM : Mk M S) {op : Oper} {d t e sz nb q : Nat} {xn xc : Operand} {kl kc : IntKind} {n : Int} {ie : TypeInfo} {z : Value} (hop : op.op = .makeSlice t xn xc) (hn : vO M xn = some (.int kl n)) (hc : vO M xc = some (.int kc n)) (hE : elF P t = some (e, 1, nb)) (hie : P.info? e = some ie) (hz : ie.zero = some z) (hz1 : z.cells = #[z]) (hz2 : z.oneCell' = true)
  (hq : mkI nb n = some q) (hd : op.dst = some d) (hok : okD N pins S d = true) :
  OpOK P pins N op S (upd S d (.t (.own e 1 (List.replicate q [.lit z])))) := by
 obtain ⟨q1, q2, q3, rfl⟩ := mkI_iff hq
 refine zV fun w0 m0 o0 G a w m o hN I => ?_
 obtain ⟨h1, h2, h3⟩ := qA hok
 have E := zGr hE
 obtain ⟨i, z', hi, hz', hs1, hnb, hzs⟩ := E.info
 rw [hie] at hi
 injection hi with hi
 subst hi
 rw [hz] at hz'
 injection hz' with hz'
 subst hz'
 subst hnb
 have hrun := run_make (P := P) (w := w) t e ie z E.under hie hz kl kc n n q1 (Int.le_refl _) q2 (by omega)
 rw [hs1, Nat.mul_one, hz1] at hrun
 have hmc : madeCells #[z] n.toNat = (List.replicate n.toNat z).toArray := by
  apply Array.ext_getElem?
  intro i
  unfold madeCells
  rw [Array.getElem?_map, Array.getElem?_range]
  by_cases h : i < n.toNat
  · rw [if_pos h]; simp [h, Nat.mod_one]
  · rw [if_neg h]; simp [h]
 rw [hmc] at hrun
 have hown : Own (w.alloc (.cells (List.replicate n.toNat z).toArray e)) 0 e 1 (some ⟨w.heap.size, 0, none⟩) n.toNat n.toNat (List.replicate n.toNat z) := by
  have := Own.lit (B := 0) w (List.replicate n.toNat z).toArray e 1 n.toNat (Nat.zero_le _) (by unfold maxLen; omega) (by simp)
  simpa using this
 have hw : ∀ (i : Nat) (r : List D), (List.replicate n.toNat [D.lit z])[i]? = some r → r.length = 1 := by
  intro i r hi
  rw [List.getElem?_replicate] at hi
  split at hi
  · injection hi with hi; subst hi; rfl
  · cases hi
 have hr : ∀ (m' : Mem) (i : Nat) (r : List D) (j : Nat) (x : D), (List.replicate n.toNat [D.lit z])[i]? = some r → r[j]? = some x → ∃ u, (List.replicate n.toNat z)[i * 1 + j]? = some u ∧ RepD m' x u := by
  intro m' i r j x hi hj
  rw [List.getElem?_replicate] at hi
  split at hi
  ·
   rename_i hlt
   injection hi with hi
   subst hi
   cases j with
   | zero => injection hj with hj; subst hj; exact ⟨z, by rw [List.getElem?_replicate]; simp [hlt], .lit z hz2⟩
   | succ j => simp at hj
  · cases hi
 have J := I.own_put d (.t (.own e 1 (List.replicate n.toNat [.lit z]))) (.slice (some ⟨w.heap.size, 0, none⟩) n.toNat n.toNat) (fun p => (List.replicate n.toNat z)[p]?) w.heap.size (w.alloc (.cells (List.replicate n.toNat z).toArray e)) (by omega) h2 h3 (I.free (Nat.le_refl _)) (I.newG (Nat.le_refl _)) ((Same.alloc (fun _ => False) w _).weaken (fun _ h => h.elim)) (by simp) (fun p u h => by rw [I.mem_none (Nat.le_refl _)] at h; cases h) (fun p u hp => Own.cellAt hown rfl hp)
  ⟨some ⟨w.heap.size, 0, none⟩, n.toNat, List.replicate n.toNat z, by rw [List.length_replicate], by rw [List.length_replicate]; exact zE0 hown, (fun g hg => by injection hg with hg; subst hg; exact ⟨zAD _ _ _, fun p _ => zEw _ _ _ _⟩), hw, hr _⟩
 refine ⟨_, _, _, _, ?_, by rw [hd]; exact J⟩
 unfold execOp
 rw [hop]
 simp only [Sem.run_bind]
 rw [zB1 hM I hn, zB1 hM I hc, hrun]
 rfl
end
end Go.Proofs.Ytjomnccladjpgaa

/-
 The heap's objects: addresses in them, slices of them; read, written, made.
-/
namespace Go.Proofs.Ytjomnccladjpgaa
open Go Go.RowKit
set_option linter.unusedVariables false
section
variable {S : Nat → A} {f f' : Nat → A} {c : Nat} {x : A}
theorem zAZ (c : Nat) : OB2 + c = OB + (OB + c) := by unfold OB OB2; omega
theorem zEc (hl : Low S) (hk : S HK = .hp f) (c : Nat) : hx S (OB + (OB + c)) = san (f c) := by
 rw [← zAZ]
 unfold hx
 rw [hl (OB2 + c) (Nat.le_add_right _ _)]
 simp only
 rw [if_pos (Nat.le_add_right _ _), hk, Nat.add_sub_cancel_left]
theorem zFm : HK < OB2 := by decide
def updF (f : Nat → A) (c : Nat) (x : A) : Nat → A := fun k => if k = c then x else f k
theorem zGl (hl : Low S) (hk : S HK = .hp f) (hs : san x = x) : hx (upd S HK (.hp (updF f c x))) = upd (upd (hx S) (OB + (OB + c)) x) HK (.hp (updF f c x)) := by
 funext t
 by_cases e : t = HK
 ·
  subst e
  rw [zZ]
  exact zBq (zZ _ _ _) (by simp)
 ·
  rw [zH e]
  rcases Nat.lt_or_ge t OB2 with h | h
  · rw [zDZ h, zH e, zH (by unfold OB; unfold OB2 at h; omega), zDZ h]
  ·
   obtain ⟨k, rfl⟩ : ∃ k, t = OB2 + k := ⟨t - OB2, by omega⟩
   have hl' : Low (upd S HK (.hp (updF f c x))) := hl.upd zFm
   rw [zAZ, zEc hl' (zZ _ _ _)]
   unfold updF
   by_cases e2 : k = c
   ·
    subst e2
    rw [if_pos rfl, zZ, hs]
   · rw [if_neg e2, zH (by omega), zEc hl hk]
end
section
variable {w0 : World} {m0 : Mem} {o0 : OwnM} {G : GD} {pins : List Nat} {S M : Nat → A} {a : Act} {w : World} {m : Mem} {o : OwnM} {P : Program} {N : Nat} {f : Nat → A}
theorem Inv.hk (I : Inv w0 m0 o0 G pins S a w m o) (hk : S HK = .hp f) (f' : Nat → A) : Inv w0 m0 o0 G pins (upd S HK (.hp f')) a w m o := by
 refine ⟨I.same, I.sat, I.mono, I.old, I.own, I.lt, I.inj, I.pinned, fun s => ?_, I.defers, I.tbl, I.wide, I.shps⟩
 by_cases e : s = HK
 ·
  subst e
  rw [zZ]
  trivial
 ·
  rw [zH e]
  refine (I.slots s).turn fun b l hb => ⟨l, ?_⟩
  rw [zH (fun e => by rw [e, hk] at hb; cases hb), hb]
theorem run_field {t : TypeId} {fs : Array Field} {k : Nat} {fd : Field} {i : TypeInfo} (hu : P.underlying t = some (.struct fs)) (hf : fs[k]? = some fd) (hi : P.info? fd.type = some i) (hsz : i.size ≠ 0) (g p : Nat) : (Instr.fieldAt t (.pointer (some ⟨g, p, none⟩)) k).run P w = .ok (.pointer (some ⟨g, p + fd.offset, none⟩)) w := by
 simp [Instr.fieldAt, run_underlying hu, hf, Instr.sureAddr, fieldPlace, sizeOf, typeInfo, hi, hsz, Addr.add_mid]
def fdH (P : Program) (t : TypeId) (k : Nat) : Option Nat := match P.underlying t with
 | some (.struct fs) => match fs[k]? with
  | some fd => match P.info? fd.type with
   | some i => if i.size = 0 then none else some fd.offset
   | none => none
  | none => none
 | _ => none
theorem ok_hfd (hM : Mk M S) {op : Oper} {d c off t k q : Nat} {x : Operand} (hop : op.op = .fieldAddr t x k) (hx : cpO M x = .t (.hpt c off)) (hq : fdH P t k = some q) (hd : op.dst = some d) (hok : okD N pins S d = true) : OpOK P pins N op S (upd S d (.t (.hpt c (off + q)))) := by
 refine zV fun w0 m0 o0 G a w m o hN I => ?_
 obtain ⟨h1, h2, h3⟩ := qA hok
 have hxr := qG hM I x 0
 rw [hx] at hxr
 obtain ⟨g, k1, k2⟩ := hxr
 unfold fdH at hq
 split at hq
 case h_2 => cases hq
 rename_i fs hu
 split at hq
 case h_2 => cases hq
 rename_i fd hf
 split at hq
 case h_2 => cases hq
 rename_i i hi
 split at hq
 · cases hq
 rename_i hsz
 injection hq with hq
 subst hq
 refine ⟨.pointer (some ⟨g, off + fd.offset, none⟩), w, m, o, ?_, by rw [hd]; exact I.set d _ _ (by omega) h2 ⟨g, k1, rfl⟩⟩
 unfold execOp
 rw [hop]
 simp only [Sem.run_bind]
 rw [k2, run_field hu hf hi hsz]
 rfl
def ixH (P : Program) (t : TypeId) : Option (Option Nat × Nat) := match P.underlying t with
 | some (.slice e) => (P.info? e).map fun i => (none, i.size)
 | some (.array len e) => (P.info? e).map fun i => (some len, i.size)
 | _ => none
theorem ok_hix (hM : Mk M S) {op : Oper} {d c off E k n t : Nat} {x i : Operand} {ki : IntKind} {z : Int} (hop : op.op = .indexAddr t x i) (hx : cpO M x = .t (.hvw c off E k n)) (hi : vO M i = some (.int ki z)) (hq : ixH P t = some (none, k)) (hz : 0 ≤ z ∧ z < n) (hd : op.dst = some d) (hok : okD N pins S d = true) : OpOK P pins N op S (upd S d (.t (.hpt c (off + z.toNat * k)))) := by
 refine zV fun w0 m0 o0 G a w m o hN I => ?_
 obtain ⟨h1, h2, h3⟩ := qA hok
 have hxr := qG hM I x 0
 rw [hx] at hxr
 obtain ⟨A', q, k1, _, k3, k4⟩ := hxr
 unfold ixH at hq
 split at hq
 ·
  rename_i e hu
  cases hie : P.info? e with
  | none => rw [hie] at hq; cases hq
  | some ie =>
   rw [hie] at hq
   injection hq with hq
   injection hq with _ hq
   subst hq
   rcases k4 with k4 | ⟨g, cs, _, k5, k6, _⟩
   · omega
   ·
    subst k6
    refine ⟨.pointer (some ⟨g, off + z.toNat * ie.size, none⟩), w, m, o, ?_, by rw [hd]; exact I.set d _ _ (by omega) h2 ⟨g, k5, rfl⟩⟩
    unfold execOp
    rw [hop]
    simp only [Sem.run_bind]
    rw [zB1 hM I hi, k3]
    simp [Instr.indexAt, asIntOf, run_underlying hu, hz, sizeOf, typeInfo, hie, Addr.add_mid]
 ·
  rename_i len e hu
  cases hie : P.info? e <;> rw [hie] at hq <;> cases hq
 · cases hq
theorem ok_hln (hM : Mk M S) {op : Oper} {d c off E k n t e : Nat} {x : Operand} (hop : op.op = .call { callee := .builtin .len, args := #[x], argTypes := #[t] }) (hx : cpO M x = .t (.hvw c off E k n)) (hu : P.underlying t = some (.slice e)) (hd : op.dst = some d) (hok : okD N pins S d = true) :
  OpOK P pins N op S (upd S d (.t (.d (.lit (.int .i64 n))))) := by
 refine zV fun w0 m0 o0 G a w m o hN I => ?_
 obtain ⟨h1, h2, h3⟩ := qA hok
 have hxr := qG hM I x 0
 rw [hx] at hxr
 obtain ⟨A', q, _, _, k3, _⟩ := hxr
 refine ⟨.int .i64 n, w, m, o, ?_, by rw [hd]; exact I.set d _ _ (by omega) h2 (.lit _ rfl)⟩
 unfold execOp
 rw [hop]
 simp only [resolve, invoke, builtin, Sem.run_bind, Sem.run_pure, Result.andThen_ok, List.map_toArray, List.map_cons, List.map_nil]
 rw [k3]
 simp [Builtin.len_, run_underlying hu, goInt]
def ptrN : A → Option Bool
 | .t (.hpt _ _) => some false
 | .t (.ptr _ _) => some false
 | .ref _ _ => some false
 | .imm _ => some false
 | .t (.d (.lit (.pointer none))) => some true
 | _ => none
theorem ptrN_rep {s : Nat} {x : A} {v : Value} {b : Bool} (h : ptrN x = some b) (hr : RepA m w o S s x v) : ∃ p, v = .pointer p ∧ p.isNone = b := by
 unfold ptrN at h
 split at h
 · obtain ⟨g, _, e⟩ := hr; injection h with h; subst h; exact ⟨_, e, rfl⟩
 · obtain ⟨g, _, e⟩ := hr; injection h with h; subst h; exact ⟨_, e, rfl⟩
 · obtain ⟨g, _, e, _⟩ := hr; injection h with h; subst h; exact ⟨_, e, rfl⟩
 · obtain ⟨g, p, e, _⟩ := hr; injection h with h; subst h; exact ⟨_, e, rfl⟩
 ·
  injection h with h
  subst h
  have hr : RepD m (.lit (.pointer none)) v := hr
  cases hr
  exact ⟨none, rfl, rfl⟩
 · cases h
theorem ok_hpn (hM : Mk M S) {op : Oper} {bop : BinOp} {d t yt e : Nat} {x : Operand} {b ng : Bool} (hop : op.op = .binOp bop t x (.const (.pointer none)) yt) (hb : bop = bif ng then .neq else .eql) (ht : P.underlying t = some (.pointer e)) (hx : ptrN (cpO M x) = some b) (hd : op.dst = some d) (hok : okD N pins S d = true) : OpOK P pins N op S (upd S d (.t (.d (.lit (.bool (b != ng)))))) := by
 refine zV fun w0 m0 o0 G a w m o hN I => ?_
 obtain ⟨h1, h2, h3⟩ := qA hok
 obtain ⟨p, hv, rfl⟩ := ptrN_rep hx (qG hM I x 0)
 refine ⟨.bool (p.isNone != ng), w, m, o, ?_, by rw [hd]; exact I.set d _ _ (by omega) h2 (.lit _ rfl)⟩
 subst hb
 unfold execOp
 rw [hop]
 show Sem.run P (do pure (Next.value (← (do eqGuard _ t x _ (a.eval x) (.pointer none); binOp _ t (a.eval x) (.pointer none))))) w = _
 rw [hv, Sem.run_bind]
 have hg : ∀ bop : BinOp, (eqGuard bop t x (.const (.pointer none)) (.pointer p) (.pointer none)).run P w = .ok () w := by
  intro bop
  unfold eqGuard
  cases bop <;> rfl
 have hpt : P.underlying t = some (.pointer (P.pointee t)) := by unfold Program.pointee; rw [ht]
 cases ng with
 | false =>
  show Result.andThen (Sem.run P (do eqGuard .eql t x _ (.pointer p) (.pointer none); binOp .eql t (.pointer p) (.pointer none)) w) _ = _
  rw [Sem.run_bind, hg, Result.andThen_ok, run_eql_pointer_nil w t p hpt]
  cases p <;> rfl
 | true =>
  show Result.andThen (Sem.run P (do eqGuard .neq t x _ (.pointer p) (.pointer none); binOp .neq t (.pointer p) (.pointer none)) w) _ = _
  rw [Sem.run_bind, hg, Result.andThen_ok, run_neq_pointer_nil w t p hpt]
  cases p <;> rfl
def norH : T → Option A
 | .ptr _ _ => none
 | .view j off E k n => some (.t (.view j off E k n))
 | .agg _ => none
 | .own _ k l => some (.t (.d (.seq k l)))
 | .xs _ _ _ _ => some (.t .any)
 | x => some (.t x)
theorem norH_rep {loc : Nat × Nat} {s : Nat} {x : T} {y : A} {v : Value} (hsat : ∀ b p u, m b p = some u → w.cell? ⟨b, p, none⟩ = some u) (hy : norH x = some y) (h : RepT m w o loc x v) : RepA m w o S s y v := by
 cases x with
 | ptr j off => cases hy
 | agg l => cases hy
 | own E k l => injection hy with hy; subst hy; exact zEC hsat h
 | d x => injection hy with hy; subst hy; exact h
 | view j off E k n => injection hy with hy; subst hy; exact h
 | hpt c off => injection hy with hy; subst hy; exact h
 | mpt c => injection hy with hy; subst hy; exact h
 | xs E k l rv => injection hy with hy; subst hy; obtain ⟨A1, c1, xs1, e1, _⟩ := h; subst e1; rfl
 | any => injection hy with hy; subst hy; exact h
 | hvw c off E k n => injection hy with hy; subst hy; exact h
theorem ok_hld (hM : Mk M S) {op : Oper} {d c off t n : Nat} {x : Operand} {l : List T} {z : T} {y : A} (hop : op.op = .load t x) (ht : tyA P t = some (false, n)) (hx : cpO M x = .t (.hpt c off)) (hb : S (OB + (OB + c)) = .box l) (hz : l[off]? = some z) (hy : norH z = some y) (hd : op.dst = some d) (hok : okD N pins S d = true) : OpOK P pins N op S (upd S d y) := by
 refine zV fun w0 m0 o0 G a w m o hN I => ?_
 obtain ⟨h1, h2, h3⟩ := qA hok
 have hxr := qG hM I x 0
 rw [hx] at hxr
 obtain ⟨g, k1, e⟩ := hxr
 have hs := I.slots (OB + (OB + c))
 rw [hb] at hs
 obtain ⟨g', _, q1, q2, cs, E, q3, q4, q5⟩ := hs
 have := I.inj _ _ _ k1 q1
 subst this
 obtain ⟨hz1, u, hu, hr⟩ := q5 off z hz
 refine ⟨u, w, m, o, ?_, by rw [hd]; exact I.set d _ _ (by omega) h2 (norH_rep I.sat hy hr)⟩
 unfold execOp
 rw [hop]
 simp only [Sem.run_bind]
 rw [e]
 simp only [Instr.loadAt, Instr.sureAddr, Sem.run_bind, Sem.run_pure, Result.andThen_ok]
 rw [zAw ht (by rw [cell_of_row w g off cs E _ q3]; exact hu)]
 rfl
theorem ok_hlr (hM : Mk M S) {op : Oper} {d c off t n : Nat} {x : Operand} {l r : List T} {y : List D} (hop : op.op = .load t x) (ht : tyA P t = some (true, n)) (hx : cpO M x = .t (.hpt c off)) (hb : S (OB + (OB + c)) = .box l) (hl : (l.drop off).take n = r) (hr : r.length = n) (hpt : noPt r = true) (hy : r.map toD = y) (hd : op.dst = some d) (hok : okD N pins S d = true) : OpOK P pins N op S (upd S d (.t (.agg y))) := by
 subst hy
 refine zV fun w0 m0 o0 G a w m o hN I => ?_
 obtain ⟨h1, h2, h3⟩ := qA hok
 have hxr := qG hM I x 0
 rw [hx] at hxr
 obtain ⟨g, k1, e⟩ := hxr
 have hs := I.slots (OB + (OB + c))
 rw [hb] at hs
 obtain ⟨g', _, q1, q2, cs, E, q3, q4, q5⟩ := hs
 have := I.inj _ _ _ k1 q1
 subst this
 have hle : n = 0 ∨ off + n ≤ l.length := by
  rw [← hl, List.length_take, List.length_drop] at hr
  omega
 have hcs : n = 0 ∨ off + n ≤ cs.size := by omega
 have hrep : RepL m (r.map toD) ((cs.toList.drop off).take n) := by
  refine ⟨by rw [List.length_map, hr, List.length_take, List.length_drop, Array.length_toList]; omega, fun j z hj => ?_⟩
  rw [List.getElem?_map, ← hl, List.getElem?_take, List.getElem?_drop] at hj
  rw [List.getElem?_take, List.getElem?_drop]
  split at hj
  ·
   rename_i hjn
   rw [if_pos hjn]
   cases hz : l[off + j]? with
   | none => rw [hz] at hj; cases hj
   | some z =>
    rw [hz] at hj
    injection hj with hj
    subst hj
    obtain ⟨ha, u, h7, h8⟩ := q5 (off + j) z hz
    have hzp : z.isPt = false := by
     have := List.all_eq_true.1 hpt z (List.mem_of_getElem? (i := j) (by rw [← hl, List.getElem?_take, if_pos hjn, List.getElem?_drop]; exact hz))
     simpa using this
    exact ⟨u, by simpa using h7, h8.toD I.sat ha hzp⟩
  · cases hj
 have hrun := zC3 (P := P) (w := w) ht (g := g) (p := off) (vs := (cs.toList.drop off).take n) (by rw [List.length_take, List.length_drop, Array.length_toList]; omega) fun j v hj => by
  rw [cell_of_row w g (off + j) cs E _ q3]
  rw [List.getElem?_take] at hj
  split at hj
  · rw [List.getElem?_drop] at hj; simpa using hj
  · cases hj
 refine ⟨.agg ((cs.toList.drop off).take n).toArray, w, m, o, ?_, by rw [hd]; exact I.set d _ _ (by omega) h2 ⟨_, rfl, by simpa using hrep⟩⟩
 unfold execOp
 rw [hop]
 simp only [Sem.run_bind]
 rw [e]
 simp only [Instr.loadAt, Instr.sureAddr, Sem.run_bind, Sem.run_pure, Result.andThen_ok]
 rw [hrun]
 rfl
theorem zG0 {g : Nat} {loc loc' : Nat × Nat} {cs cs' : Array Value} {E : Nat} (h1 : o g = some loc') (h4 : w.heap[g]? = some (.cells cs E (0, 0))) (hss : cs'.size = cs.size) (hne : loc' ≠ loc) {z : T} {u : Value} (k0 : z.isAgg = false) (k2 : RepT m w o loc z u) : RepT m (w.setRow g cs') o loc z u := by
 cases z with
 | d x => exact k2
 | agg l => cases k0
 | ptr j off => exact k2
 | hpt c off => exact k2
 | mpt c => exact k2
 | xs E' k ls rv =>
  obtain ⟨A', cap, xs, e1, q1, q2, q3, q4⟩ := k2
  refine ⟨A', cap, xs, e1, zA3 q1 fun g2 hg2 => ?_, q2, q3, q4⟩
  rw [e1, qR] at hg2
  refine setRow_other w g g2 _ fun e2 => ?_
  subst e2
  have := (q2 _ hg2).1
  rw [h1] at this
  injection this with this
  exact hne this
 | any => exact k2
 | view j off E k n => exact zCG (m' := m) (fun _ _ h => h) (fun g' _ _ => zAb h4 hss g') k2
 | hvw c off E k n => exact zDe (m' := m) (fun _ _ h => h) (fun g' _ _ => zAb h4 hss g') k2
 | own E' k ls =>
  obtain ⟨A', cap, xs, e1, q1, q2, q3, q4⟩ := k2
  refine ⟨A', cap, xs, e1, zA3 q1 fun g2 hg2 => ?_, q2, q3, q4⟩
  rw [e1, qR] at hg2
  refine setRow_other w g g2 _ fun e2 => ?_
  subst e2
  have := (q2 _ hg2).1
  rw [h1] at this
  injection this with this
  exact hne this
theorem ok_hst (hM : Mk M S) {op : Oper} {t c off : Nat} {x y : Operand} (hop : op.op = .store t x y) (hd : op.dst = none) {i : TypeInfo} (hi : P.info? t = some i) (hx : cpO M x = .t (.hpt c off)) {l : List T} (hb : S (OB + (OB + c)) = .box l) {q : List T} (hc : zCY (cpO M y) = some q) (hsz : q.length = i.size) (hle : off + i.size ≤ l.length) :
  OpOK P pins N op S (upd S (OB + (OB + c)) (.box (qT l off q))) := by
 refine zDv hd fun w0 m0 o0 G a w m o hN I => ?_
 have hxr := qG hM I x 0
 rw [hx] at hxr
 obtain ⟨g, h1, e⟩ := hxr
 have hs := I.slots (OB + (OB + c))
 rw [hb] at hs
 obtain ⟨g', _, q1, q2, cs, E, h4, h5, h6⟩ := hs
 have := I.inj _ _ _ h1 q1
 subst this
 have hyr := zCS hc (qG hM I y 0)
 have hvl : (a.eval y).cells.size = i.size := by have := hyr.1; simp at this; omega
 have hone := hyr.2.1
 have hrun := zDF (P := P) (w := w) (off := off) hi h4 hvl hone (by omega)
 have hcl : (a.eval y).cells.toList.length = q.length := hyr.1
 have hsp : (qT cs.toList off (a.eval y).cells.toList).length = cs.toList.length := zAV cs.toList off (a.eval y).cells.toList (by simp only [Array.length_toList]; omega)
 have hss : (qT cs.toList off (a.eval y).cells.toList).toArray.size = cs.size := by simpa using hsp
 refine ⟨_, m, o, ?_, I.box_put hb h1 h4 (cs' := (qT cs.toList off (a.eval y).cells.toList).toArray) hss o (fun _ => False) (fun s h => h.elim) (fun g l h _ _ => h) h1 (fun g l h => ⟨l, h⟩) I.inj (fun g l l' h h' k => by rw [h] at h'; injection h' with h'; rw [h']; exact k) ?_ (fun j z hj => ?_)⟩
 ·
  unfold execOp
  rw [hop]
  simp only [Sem.run_bind]
  rw [e, hrun]
  rfl
 · exact zAV l off q (by omega)
 ·
  have hcs2 : (qT cs.toList off (a.eval y).cells.toList).toArray[j]? = (qT cs.toList off (a.eval y).cells.toList)[j]? := by simp
  rw [hcs2, zBi cs.toList off (a.eval y).cells.toList (by simp only [Array.length_toList] at hcl ⊢; omega)]
  rw [zBi l off q (by omega)] at hj
  rw [hcl]
  split at hj
  ·
   rename_i hjo
   rw [if_pos hjo]
   obtain ⟨k0, u, k1, k2⟩ := hyr.2.2 _ z hj
   exact ⟨k0, u, k1, k2 _ _ (zAb h4 hss)⟩
  ·
   rename_i hjo
   rw [if_neg hjo]
   obtain ⟨k0, u, k1, k2⟩ := h6 j z hj
   exact ⟨k0, u, by simpa using k1, zG0 h1 h4 hss (by intro e; injection e with _ e; omega) k0 k2⟩
def T.noOwn : T → Bool
 | .own _ _ _ | .agg _ | .xs _ _ _ _ => false
 | _ => true
theorem noOwn_rep {x : T} (hx : x.noOwn = true) {o' : OwnM} (ho : ∀ g j, o g = some (OB + j, 0) → o' g = some (OB + j, 0)) {loc loc' : Nat × Nat} {w' : World} (hs : ∀ g, zBA w w' g) {v : Value} (h : RepT m w o loc x v) : RepT m w' o' loc' x v := by
 cases x with
 | d x => exact h
 | agg l => cases hx
 | own E k l => cases hx
 | ptr j off => obtain ⟨g, h1, h2⟩ := h; exact ⟨g, ho g j h1, h2⟩
 | hpt j off => obtain ⟨g, h1, h2⟩ := h; exact ⟨g, ho g _ h1, h2⟩
 | mpt j => obtain ⟨g, h1, h2⟩ := h; exact ⟨g, ho g _ h1, h2⟩
 | xs E k l rv => (first | (exact h) | exact h | exact hr | exact k2 | exact k3 | exact h4 | exact h5 | exact id | trivial | (cases hp; done) | (cases hx; done) | (cases hl; done) | (obtain ⟨A1, c1, xs1, e1, _⟩ := h; subst e1; rfl) | (obtain ⟨A1, c1, xs1, e1, _⟩ := hr; subst e1; rfl) | rfl)
 | any => exact h
 | view j off E k n => exact zCG (m' := m) ho (fun g _ _ => hs g) h
 | hvw j off E k n => exact zDe (m' := m) ho (fun g _ _ => hs g) h
theorem Inv.obj_new (I : Inv w0 m0 o0 G pins S a w m o) {j : Nat} {l : List T} {cs : Array Value} {E : Nat} (hfree : S (OB + j) = .free) (hlen : l.length ≤ cs.size)
  (hc : ∀ (i : Nat) (x : T), l[i]? = some x → x.noOwn = true ∧ ∃ u, cs[i]? = some u ∧ RepT m w o (0, 0) x u) :
  Inv w0 m0 o0 G pins (upd S (OB + j) (.box l)) a (w.alloc (.cells cs E)) m (newO o (OB + j) w.heap.size) := by
 have hf : ∀ g k, o g ≠ some (OB + j, k) := by have := I.slots (OB + j); rw [hfree] at this; exact this
 have hS : Same (fun _ => False) w (w.alloc (.cells cs E)) := Same.alloc _ _ _
 have hne : ∀ b l, o b = some l → b ≠ w.heap.size := fun b l h e => by have := I.lt b l h; omega
 have hk : ∀ b l, o b = some l → newO o (OB + j) w.heap.size b = some l := by
  intro b l h
  unfold newO
  rw [if_neg (hne b l h), h, if_neg]
  intro e
  obtain ⟨s, k⟩ := l
  injection e with e
  subst e
  exact hf b k h
 have hk' : ∀ b l, newO o (OB + j) w.heap.size b = some l → (b = w.heap.size ∧ l = (OB + j, 0)) ∨ (b ≠ w.heap.size ∧ o b = some l) := by
  intro b l h
  unfold newO at h
  split at h
  · rename_i e; injection h with h; exact .inl ⟨e, h.symm⟩
  ·
   split at h
   · cases h
   · rename_i e _; exact .inr ⟨e, h⟩
 have hsh : ∀ g, zBA w (w.alloc (.cells cs E)) g := fun g => .of_lt fun h => hS.block g h id
 have K : Keep (fun l => l.1 = OB + j) m w o m (w.alloc (.cells cs E)) (newO o (OB + j) w.heap.size) :=
  ⟨Mle.refl _, fun _ _ _ _ => rfl, fun b l h _ => hS.block b (I.lt b l h) id, fun b l h _ => hk b l h, fun b j' h => hk b _ h, fun b s k hs h => by
   rcases hk' b _ h with ⟨_, e⟩ | ⟨_, e⟩
   · injection e with e _; exact absurd e hs
   · exact ⟨b, k, e⟩, fun g _ _ => hsh g⟩
 refine ⟨I.same.trans (hS.weaken fun _ h => h.elim), fun b p u h => ?_, I.mono, I.old, fun g l h => ?_, fun g l h => ?_, fun g g' l h h' => ?_, fun s hs g hg => hk g _ (I.pinned s hs g hg), fun s => ?_, I.defers, I.tbl, I.wide, I.shps.keep I.pinned K.sh⟩
 ·
  have h1 := I.sat b p u h
  have hlt : b < w.heap.size := by have := World.block_lt_of_cell? w _ h1; simpa using this
  rw [World.cell?_of_block (w := w) (hS.block b hlt id)]
  exact h1
 ·
  rcases hk' g l h with ⟨e, _⟩ | ⟨_, e⟩
  · subst e; exact I.newG (Nat.le_refl _)
  · exact I.own g l e
 ·
  rcases hk' g l h with ⟨e, _⟩ | ⟨_, e⟩
  · subst e; simp
  · exact Nat.lt_of_lt_of_le (I.lt g l e) hS.size
 ·
  rcases hk' g l h with ⟨e, q⟩ | ⟨_, e⟩ <;> rcases hk' g' l h' with ⟨e', q'⟩ | ⟨_, e'⟩
  · rw [e, e']
  · subst q; exact absurd e' (hf _ _)
  · subst q'; exact absurd e (hf _ _)
  · exact I.inj _ _ _ e e'
 ·
  by_cases e : s = OB + j
  ·
   subst e
   rw [zZ]
   refine ⟨w.heap.size, fun h => absurd h (by omega), zAD _ _ _, fun p => I.mem_none (Nat.le_refl _), cs, E, heap_alloc_new w _, hlen, fun i x hi => ?_⟩
   obtain ⟨h1, u, h2, h3⟩ := hc i x hi
   refine ⟨?_, u, h2, noOwn_rep h1 (fun g j' h => hk g _ h) hsh h3⟩
   cases x <;> first | rfl | cases h1
  ·
   rw [zH e]
   exact RepA.keep K (fun _ => e) (fun b off _ hb => ⟨fun e' => by have : b = OB + j := e'; omega, fun ⟨l', hl'⟩ => ⟨l', by rw [zH (by omega), hl']⟩⟩) (I.slots s)
theorem zCu {y : A} {l : List T} (hl : zCY y = some l) : ∀ x ∈ l, x.noOwn = true := by
 intro x hx
 cases y with
 | t y =>
  cases y with
  | d y => injection hl with hl; subst hl; simp at hx; subst hx; rfl
  | agg y => injection hl with hl; subst hl; obtain ⟨_, _, rfl⟩ := List.mem_map.1 hx; rfl
  | view j off E k n => injection hl with hl; subst hl; simp at hx; subst hx; rfl
  | hpt c off => injection hl with hl; subst hl; simp at hx; subst hx; rfl
  | mpt c => injection hl with hl; subst hl; simp at hx; subst hx; rfl
  | xs E k l rv => (first | (cases hl) | exact h | exact hr | exact k2 | exact k3 | exact h4 | exact h5 | exact id | trivial | (cases hp; done) | (cases hx; done) | (cases hl; done) | (obtain ⟨A1, c1, xs1, e1, _⟩ := h; subst e1; rfl) | (obtain ⟨A1, c1, xs1, e1, _⟩ := hr; subst e1; rfl) | rfl)
  | any => cases hl
  | hvw c off E k n => injection hl with hl; subst hl; simp at hx; subst hx; rfl
  | own E k l => cases hl
  | ptr j off => cases hl
 | ref b off =>
  have hl : (if OB ≤ b then some [T.ptr (b - OB) off] else none) = some l := hl
  split at hl
  · injection hl with hl; subst hl; simp at hx; subst hx; rfl
  · cases hl
 | ag ls =>
  have hl : (if ls.all T.cell then some ls else none) = some l := hl
  split at hl
  ·
   rename_i hc
   injection hl with hl
   subst hl
   have h1 := List.all_eq_true.1 hc x hx
   cases x <;> first | rfl | cases h1
  · cases hl
 | _ => cases hl
theorem ok_hmk {op : Oper} {d c : Nat} {l : List T} (hd : op.dst = some d) (hok : okD N pins S d = true) (hdO : d < OB) (hfree : S (OB + (OB + c)) = .free)
  (h : ∀ (w0 : World) (m0 : Mem) (o0 : OwnM) (G : GD) (a : Act) (w : World) (m : Mem) (o : OwnM), Inv w0 m0 o0 G pins S a w m o → ∃ v cs E, (execOp a.eval op).run P w = .ok (.value v) (w.alloc (.cells cs E)) ∧ l.length ≤ cs.size ∧
   (∀ (i : Nat) (x : T), l[i]? = some x → x.noOwn = true ∧ ∃ u, cs[i]? = some u ∧ RepT m w o (0, 0) x u) ∧ v = .pointer (some ⟨w.heap.size, 0, none⟩)) :
  OpOK P pins N op S (app S [(OB + (OB + c), .box l), (d, .t (.hpt c 0))]) := by
 refine zV fun w0 m0 o0 G a w m o hN I => ?_
 obtain ⟨h1, h2, h3⟩ := qA hok
 obtain ⟨v, cs, E, hrun, hlen, hc, rfl⟩ := h w0 m0 o0 G a w m o I
 refine ⟨_, w.alloc (.cells cs E), m, newO o (OB + (OB + c)) w.heap.size, hrun, ?_⟩
 rw [hd]
 have J := I.obj_new (E := E) hfree hlen hc
 exact J.set d _ _ (by omega) (by rw [zH (by omega)]; exact h2) ⟨_, zAD _ _ _, rfl⟩
theorem ok_hnew {op : Oper} {d c E : Nat} {i : TypeInfo} {z : Value} {l : List T} (hop : op.op = .alloc E) (hi : P.info? E = some i) (hz : i.zero = some z) (hl : zEL (litA z) = some l) (hd : op.dst = some d) (hok : okD N pins S d = true) (hdO : d < OB) (hfree : S (OB + (OB + c)) = .free) :
  OpOK P pins N op S (app S [(OB + (OB + c), .box l), (d, .t (.hpt c 0))]) := by
 refine ok_hmk hd hok hdO hfree fun w0 m0 o0 G a w m o I => ?_
 have hcp : zCY (litA z) = some l := by
  revert hl
  generalize litA z = y
  intro hl
  cases y with
  | t y => cases y <;> first | exact hl | cases hl
  | _ => cases hl
 obtain ⟨k1, k2, k3⟩ := zCS hcp (zCs (m := m) (w := w) (o := o) (S := S) 0 z)
 refine ⟨_, z.cells, E, ?_, by simpa using Nat.le_of_eq k1.symm, fun i x hx => ?_, rfl⟩
 ·
  unfold execOp
  rw [hop]
  simp [Instr.alloc, zeroValue, typeInfo, hi, hz, newVar, newRow]
 ·
  obtain ⟨q1, u, q2, q3⟩ := k3 i x hx
  exact ⟨zCu hcp x (List.mem_of_getElem? hx), u, by simpa using q2, q3 _ _ (zBA.refl w)⟩
theorem ok_hbox (hM : Mk M S) {op : Oper} {d c E : Nat} {x : Operand} {l : List T} (hop : op.op = .box E x) (hl : zCY (cpO M x) = some l) (hd : op.dst = some d) (hok : okD N pins S d = true) (hdO : d < OB) (hfree : S (OB + (OB + c)) = .free) :
  OpOK P pins N op S (app S [(OB + (OB + c), .box l), (d, .t (.hpt c 0))]) := by
 refine ok_hmk hd hok hdO hfree fun w0 m0 o0 G a w m o I => ?_
 obtain ⟨k1, k2, k3⟩ := zCS hl (qG hM I x 0)
 refine ⟨_, (a.eval x).cells, E, ?_, by simpa using Nat.le_of_eq k1.symm, fun i x hx => ?_, rfl⟩
 ·
  unfold execOp
  rw [hop]
  simp [Instr.box, newVar, newRow]
 ·
  obtain ⟨q1, u, q2, q3⟩ := k3 i x hx
  exact ⟨zCu hl x (List.mem_of_getElem? hx), u, by simpa using q2, q3 _ _ (zBA.refl w)⟩
end
end Go.Proofs.Ytjomnccladjpgaa

/-
 Structs built with addresses in them; local objects that become the heap's; objects of the heap that nobody knows any more.
-/
namespace Go.Proofs.Ytjomnccladjpgaa
open Go Go.RowKit
set_option linter.unusedVariables false
def fillT (M : Nat → A) (place : Nat → Option (Nat × Nat)) : List T → List (Nat × Operand) → Option (List T)
 | ts, [] => some ts
 | ts, (i, x) :: r => match place i, zCY (cpO M x) with
  | some (off, size), some c => if c.length = size ∧ off + size ≤ ts.length then fillT M place (qT ts off c) r else none
  | _, _ => none
def bdT (P : Program) (M : Nat → A) (t : TypeId) (parts : List (Nat × Operand)) : Option (List T) := match P.info? t with
 | some it => match it.zero, zHs P t with
  | some z, some place => match z with
   | .agg cs => if cs.toList.all (·.oneCell') then fillT M place (cs.toList.map fun v => .d (.lit v)) parts else none
   | _ => none
  | _, _ => none
 | none => none
section
variable {w0 : World} {m0 : Mem} {o0 : OwnM} {G : GD} {pins : List Nat} {S M : Nat → A} {a : Act} {w : World} {m : Mem} {o : OwnM} {P : Program} {N : Nat} {f : Nat → A}
def RepTs (m : Mem) (w : World) (o : OwnM) (ts : List T) (vs : List Value) : Prop := vs.length = ts.length ∧ ∀ (j : Nat) (x : T), ts[j]? = some x → ∃ u, vs[j]? = some u ∧ u.oneCell' = true ∧ ∀ loc, RepT m w o loc x u
theorem zIi {s : Nat} {y : A} {v : Value} {l : List T} (hl : zCY y = some l) (hy : RepA m w o S s y v) : RepTs m w o l v.cells.toList := by
 obtain ⟨k1, k2, k3⟩ := zCS hl hy
 refine ⟨k1, fun j x hj => ?_⟩
 obtain ⟨_, u, h1, h2⟩ := k3 j x hj
 exact ⟨u, h1, k2 u (List.mem_of_getElem? h1), fun loc => h2 w loc (zBA.refl w)⟩
theorem zID (hM : Mk M S) (I : Inv w0 m0 o0 G pins S a w m o) {place : Nat → Option (Nat × Nat)} : ∀ (parts : List (Nat × Operand)) (ds ds' : List T) (cells : Array Value), fillT M place ds parts = some ds' → RepTs m w o ds cells.toList →
  ∃ cells', Instr.fill place cells (parts.map fun x => (x.1, a.eval x.2)) = some cells' ∧ RepTs m w o ds' cells'.toList
 | [], ds, ds', cells, h, hr => by injection h with h; subst h; exact ⟨cells, rfl, hr⟩
 | (i, x) :: r, ds, ds', cells, h, hr => by
  unfold fillT at h
  split at h
  ·
   rename_i off size c hp hc
   split at h
   ·
    rename_i hsz
    have hx := zIi hc (qG hM I x 0)
    have hvl : (a.eval x).cells.size = size := by have := hx.1; simp at this; omega
    have hcl : ds.length = cells.size := by have := hr.1; simpa using this.symm
    obtain ⟨g1, g2⟩ := Great.foldl_set off (a.eval x).cells.toList 0 cells
    have hr2 : RepTs m w o (qT ds off c) (((a.eval x).cells.toList.zipIdx 0).foldl (fun cs (x : Value × Nat) => cs.setIfInBounds (off + x.2) x.1) cells).toList := by
     refine ⟨by simp only [Array.length_toList]; rw [g1, zAV _ _ _ (by omega), hcl], fun j d hj => ?_⟩
     rw [zBi _ _ _ (by omega)] at hj
     rw [Array.getElem?_toList, g2 j]
     simp only [Nat.add_zero, Array.length_toList, hvl]
     split at hj
     ·
      rename_i hjo
      rw [if_pos (by omega)]
      exact hx.2 _ d hj
     ·
      rename_i hjo
      rw [if_neg (by omega)]
      have := hr.2 j d hj
      simpa using this
    obtain ⟨cells', h1, h2⟩ := zID hM I r _ ds' _ h hr2
    refine ⟨cells', ?_, h2⟩
    rw [List.map_cons]
    unfold Instr.fill
    simp only [hp, hvl]
    rw [if_neg (by simp; omega), ← h1]
    congr 1
    rw [← Array.foldl_toList, Array.toList_zipIdx]
   · cases h
  · cases h
theorem bdT_run (hM : Mk M S) (I : Inv w0 m0 o0 G pins S a w m o) {t : TypeId} {parts : List (Nat × Operand)} {ds' : List T} (h : bdT P M t parts = some ds') (s : Nat) : ∃ v, (Instr.build t (parts.map fun x => (x.1, a.eval x.2)).toArray).run P w = .ok v w ∧ RepA m w o S s (.ag ds') v := by
 unfold bdT at h
 split at h
 case h_2 => cases h
 rename_i it hit
 split at h
 case h_2 => cases h
 rename_i z place hz hp
 split at h
 case h_2 => cases h
 rename_i cs
 split at h
 case isFalse => cases h
 rename_i hall
 have hr0 : RepTs m w o (cs.toList.map fun v => .d (.lit v)) cs.toList := by
  refine ⟨by simp, fun j d hj => ?_⟩
  rw [List.getElem?_map] at hj
  cases hu : cs.toList[j]? with
  | none => rw [hu] at hj; cases hj
  | some u =>
   rw [hu] at hj
   injection hj with hj
   subst hj
   have h1 := List.all_eq_true.1 hall u (List.mem_of_getElem? hu)
   exact ⟨u, rfl, h1, fun _ => .lit u h1⟩
 obtain ⟨cells', h1, h2⟩ := zID hM I parts _ ds' cs h hr0
 refine ⟨.agg cells', run_build w t _ cells' ?_, cells', rfl, by simpa using h2.1, fun j x hj => ?_⟩
 ·
  unfold Program.built
  unfold zHs at hp
  split at hp
  ·
   rename_i fields hu
   rw [hit, hu]
   simp only [hz]
   cases hq : fields.toList.mapM (fun f => (P.info? f.type).map fun i => (f.offset, i.size)) with
   | none => rw [hq] at hp; cases hp
   | some places =>
    rw [hq] at hp
    injection hp with hp
    subst hp
    simp only [Value.cells]
    rw [← h1]
    congr 1
    funext k
    simp
  ·
   rename_i n e hu
   rw [hit, hu]
   simp only [hz]
   cases hq : P.info? e with
   | none => rw [hq] at hp; cases hp
   | some ie =>
    rw [hq] at hp
    injection hp with hp
    subst hp
    exact h1
  · cases hp
 ·
  obtain ⟨u, k1, k2, k3⟩ := h2.2 j x hj
  exact ⟨u, by simpa using k1, k2, k3 _⟩
theorem ok_buildT (hM : Mk M S) {op : Oper} {d t : Nat} {parts : List (Nat × Operand)} (hop : op.op = .build t parts.toArray) (hd : op.dst = some d) (hok : okD N pins S d = true) {l : List T} (h : bdT P M t parts = some l) : OpOK P pins N op S (upd S d (.ag l)) := by
 refine zV fun w0 m0 o0 G a w m o hN I => ?_
 obtain ⟨h1, h2, h3⟩ := qA hok
 obtain ⟨v, hv, hr⟩ := bdT_run hM I h d
 refine ⟨v, w, m, o, ?_, by rw [hd]; exact I.set d _ v (by omega) h2 hr⟩
 unfold execOp
 rw [hop]
 simp only [List.map_toArray, Sem.run_bind]
 rw [hv]
 rfl
def rnT (j c : Nat) : T → T
 | .ptr i off => bif Nat.beq i j then .hpt c off else .ptr i off
 | .view i off E k n => bif Nat.beq i j then .hvw c off E k n else .view i off E k n
 | .mpt i => bif Nat.blt i OB && Nat.beq i j then .mpt (OB + c) else .mpt i
 | x => x
def rnA (j c : Nat) : A → A
 | .t x => .t (rnT j c x)
 | .tup l => .tup (l.map (rnT j c))
 | .box l => .box (l.map (rnT j c))
 | .ag l => .ag (l.map (rnT j c))
 | .lst l => .lst (l.map (rnT j c))
 | .cl f caps => .cl f (caps.map fun l => l.map (rnT j c))
 | .imt l => .imt (l.map (rnT j c))
 | .ref b off => bif Nat.beq b (OB + j) then .t (.hpt c off) else .ref b off
 | x => x
theorem zHm (i j : Nat) : Nat.beq i j = decide (i = j) := by
 by_cases h : i = j
 · subst h; simp
 ·
  cases hb : Nat.beq i j with
  | true => exact absurd (Nat.eq_of_beq_eq_true hb) h
  | false => simp [h]
def rnO (j c : Nat) (o : OwnM) : OwnM := fun g => match o g with
 | some (s, k) => if s = OB + j then some (OB + (OB + c), k) else some (s, k)
 | none => none
theorem rnO_iff {j c : Nat} {g : Nat} {l : Nat × Nat} (hfree : ∀ g k, o g ≠ some (OB + (OB + c), k)) : rnO j c o g = some l ↔ (l.1 = OB + (OB + c) ∧ o g = some (OB + j, l.2)) ∨ (l.1 ≠ OB + j ∧ l.1 ≠ OB + (OB + c) ∧ o g = some l) := by
 obtain ⟨s, k⟩ := l
 unfold rnO
 constructor
 ·
  intro h
  split at h
  ·
   rename_i s' k' hg
   split at h
   ·
    rename_i e
    injection h with h
    injection h with h1 h2
    subst e h1 h2
    exact .inl ⟨rfl, hg⟩
   ·
    rename_i e
    injection h with h
    injection h with h1 h2
    subst h1 h2
    exact .inr ⟨e, fun e2 => hfree g k' (by rw [hg, ← e2]), hg⟩
  · cases h
 ·
  rintro (⟨h1, h2⟩ | ⟨h1, _, h2⟩)
  ·
   have h1 : s = OB + (OB + c) := h1
   rw [h2]
   simp [h1]
  ·
   rw [h2]
   simp only
   rw [if_neg h1]
theorem zEh {j c : Nat} (hj : j < OB) {loc loc' : Nat × Nat} (hl : ∀ g, o g = some loc → rnO j c o g = some loc') {x : T} {v : Value} (h : RepT m w o loc x v) : RepT m w (rnO j c o) loc' (rnT j c x) v := by
 have other : ∀ g s, s ≠ OB + j → o g = some (s, 0) → rnO j c o g = some (s, 0) := fun g s hs h => by unfold rnO; rw [h]; simp only; rw [if_neg hs]
 have same : ∀ g, o g = some (OB + j, 0) → rnO j c o g = some (OB + (OB + c), 0) := fun g h => by unfold rnO; rw [h]; simp
 cases x with
 | d x => exact h
 | agg l => exact h
 | own E k l =>
  obtain ⟨A', cap, xs, e, h1, h2, h3, h4⟩ := h
  exact ⟨A', cap, xs, e, h1, fun g hg => ⟨hl g (h2 g hg).1, (h2 g hg).2⟩, h3, h4⟩
 | ptr i off =>
  show RepT m w (rnO j c o) loc' (bif Nat.beq i j then .hpt c off else .ptr i off) v
  rw [zHm]
  obtain ⟨g, h1, h2⟩ := h
  by_cases e : i = j
  ·
   subst e
   simp only [decide_true, cond_true]
   exact ⟨g, same g h1, h2⟩
  ·
   simp only [e, decide_false, cond_false]
   exact ⟨g, other g _ (by omega) h1, h2⟩
 | view i off E k n =>
  show RepT m w (rnO j c o) loc' (bif Nat.beq i j then .hvw c off E k n else .view i off E k n) v
  rw [zHm]
  obtain ⟨A', q, h1, h2, h3, h4⟩ := h
  by_cases e : i = j
  ·
   subst e
   simp only [decide_true, cond_true]
   exact ⟨A', q, h1, h2, h3, h4.imp id fun ⟨g, cs, E1, k1, k2⟩ => ⟨g, cs, E1, same g k1, k2⟩⟩
  ·
   simp only [e, decide_false, cond_false]
   exact ⟨A', q, h1, h2, h3, h4.imp id fun ⟨g, cs, E1, k1, k2⟩ => ⟨g, cs, E1, other g _ (by omega) k1, k2⟩⟩
 | xs E k l rv =>
  obtain ⟨A', cap, xs, e, h1, h2, h3, h4⟩ := h
  exact ⟨A', cap, xs, e, h1, fun g hg => ⟨hl g (h2 g hg).1, (h2 g hg).2⟩, h3, h4⟩
 | any => exact h
 | hpt i off => obtain ⟨g, h1, h2⟩ := h; exact ⟨g, other g _ (by omega) h1, h2⟩
 | mpt i =>
  show RepT m w (rnO j c o) loc' (bif Nat.blt i OB && Nat.beq i j then .mpt (OB + c) else .mpt i) v
  rw [zHm]
  obtain ⟨g, h1, h2⟩ := h
  by_cases e : i = j
  ·
   subst e
   rw [show Nat.blt i OB = true by simpa using hj]
   simp only [decide_true, Bool.and_self, cond_true]
   exact ⟨g, same g h1, h2⟩
  ·
   simp only [e, decide_false, Bool.and_false, cond_false]
   exact ⟨g, other g _ (by omega) h1, h2⟩
 | hvw i off E k n =>
  obtain ⟨A', q, h1, h2, h3, h4⟩ := h
  exact ⟨A', q, h1, h2, h3, h4.imp id fun ⟨g, cs, E1, k1, k2⟩ => ⟨g, cs, E1, other g _ (by omega) k1, k2⟩⟩
theorem rnT_agg {j c : Nat} {x : T} : (rnT j c x).isAgg = x.isAgg := by
 cases x with
 | ptr i off => show (bif Nat.beq i j then T.hpt c off else .ptr i off).isAgg = _; cases Nat.beq i j <;> rfl
 | view i off E k n => show (bif Nat.beq i j then T.hvw c off E k n else .view i off E k n).isAgg = _; cases Nat.beq i j <;> rfl
 | mpt i => show (bif Nat.blt i OB && Nat.beq i j then T.mpt (OB + c) else .mpt i).isAgg = _; cases (Nat.blt i OB && Nat.beq i j) <;> rfl
 | _ => rfl
theorem zHh {j c : Nat} {l : List T} (h : noPt l = true) : l.map (rnT j c) = l := by
 conv => rhs; rw [← List.map_id l]
 refine List.map_congr_left fun x hx => ?_
 have := List.all_eq_true.1 h x hx
 cases x <;> first | rfl | cases this
theorem Inv.pub (I : Inv w0 m0 o0 G pins S a w m o) {j c : Nat} {la : List T} (hj : j < OB) (hjp : OB + j ∉ pins) (hfree : S (OB + (OB + c)) = .free) (hb : S (OB + j) = .box la) (hfl : la.map (rnT j c) = la) {S' : Nat → A}
  (h1 : S' (OB + j) = .free) (h2 : S' (OB + (OB + c)) = .box la) (h3 : ∀ t, t ≠ OB + j → t ≠ OB + (OB + c) → S' t = rnA j c (S t)) : ∃ o', Inv w0 m0 o0 G pins S' a w m o' := by
 have hf : ∀ g k, o g ≠ some (OB + (OB + c), k) := by have := I.slots (OB + (OB + c)); rw [hfree] at this; exact this
 have iff := fun g l => rnO_iff (o := o) (j := j) (c := c) (g := g) (l := l) hf
 have hpin : ∀ g, o0 g ≠ some (OB + j, 0) := fun g h => (I.shps g j h).1.elim hjp fun h => by unfold OB at *; unfold OB2 at h; omega
 have keep : ∀ g l, l.1 ≠ OB + j → o g = some l → rnO j c o g = some l := fun g l hl h => (iff g l).2 (.inr ⟨hl, fun e => hf g l.2 (by rw [h, ← e]), h⟩)
 refine ⟨rnO j c o, I.same, I.sat, I.mono, I.old, fun g l h => ?_, fun g l h => ?_, fun g g' l h h' => ?_, fun s hs g hg => ?_, fun t => ?_, I.defers, I.tbl, I.wide, I.shps⟩
 · rcases (iff g l).1 h with ⟨_, h⟩ | ⟨_, _, h⟩ <;> exact I.own g _ h
 · rcases (iff g l).1 h with ⟨_, h⟩ | ⟨_, _, h⟩ <;> exact I.lt g _ h
 ·
  rcases (iff g l).1 h with ⟨e1, h⟩ | ⟨_, e1, h⟩ <;> rcases (iff g' l).1 h' with ⟨e2, h'⟩ | ⟨_, e2, h'⟩
  · exact I.inj g g' _ h h'
  · exact absurd e1 e2
  · exact absurd e2 e1
  · exact I.inj g g' _ h h'
 ·
  have := I.pinned s hs g hg
  exact keep g _ (fun e => hpin g (by have e : s = OB + j := e; rw [← e]; exact hg)) this
 ·
  by_cases e1 : t = OB + j
  ·
   subst e1
   rw [h1]
   intro g k h
   rcases (iff g _).1 h with ⟨e, _⟩ | ⟨e, _⟩
   · have e : OB + j = OB + (OB + c) := e; omega
   · exact e rfl
  ·
   by_cases e2 : t = OB + (OB + c)
   ·
    subst e2
    rw [h2]
    have hs := I.slots (OB + j)
    rw [hb] at hs
    obtain ⟨g, _, k1, k2, cs, E, k3, k4, k5⟩ := hs
    refine ⟨g, fun h => absurd h (by omega), (iff g _).2 (.inl ⟨rfl, k1⟩), k2, cs, E, k3, k4, fun q x hq => ?_⟩
    obtain ⟨q1, u, q2, q3⟩ := k5 q x hq
    refine ⟨q1, u, q2, ?_⟩
    have := zEh (c := c) hj (loc' := (OB + (OB + c), q + 1)) (fun g hg => (iff g _).2 (.inl ⟨rfl, hg⟩)) q3
    have hx : rnT j c x = x := by
     have h9 : (la.map (rnT j c))[q]? = la[q]? := by rw [hfl]
     rw [List.getElem?_map, hq] at h9
     injection h9
    rw [hx] at this
    exact this
   ·
    rw [h3 t e1 e2]
    have hloc : ∀ k g, o g = some (t, k) → rnO j c o g = some (t, k) := fun k g h => keep g _ e1 h
    have hs := I.slots t
    have hbox : ∀ b l, b < OB → S b = .box l → ∃ l', S' b = .box l' := fun b l hb h => ⟨_, by rw [h3 b (by omega) (by omega), h]; rfl⟩
    revert hs
    generalize a.tmps.getD t undef = v
    cases S t with
    | t x => exact fun hs => zEh hj (hloc 0) hs
    | tup l =>
     rintro ⟨vs, e, q1, q2⟩
     refine ⟨vs, e, by simpa using q1, fun q x hq => ?_⟩
     rw [List.getElem?_map] at hq
     cases hu : l[q]? with
     | none => rw [hu] at hq; cases hq
     | some z =>
      rw [hu] at hq
      injection hq with hq
      subst hq
      obtain ⟨u, q3, q4⟩ := q2 q z hu
      exact ⟨u, q3, zEh hj (hloc _) q4⟩
    | ag l =>
     rintro ⟨vs, e, q1, q2⟩
     refine ⟨vs, e, by simpa using q1, fun q x hq => ?_⟩
     rw [List.getElem?_map] at hq
     cases hu : l[q]? with
     | none => rw [hu] at hq; cases hq
     | some z =>
      rw [hu] at hq
      injection hq with hq
      subst hq
      obtain ⟨u, q3, q5, q4⟩ := q2 q z hu
      exact ⟨u, q3, q5, zEh hj (hloc _) q4⟩
    | lst l =>
     rintro ⟨g, cap, e, q1, q6, q2⟩
     refine ⟨g, cap, by simpa using e, by simpa using q1, q6, fun q x hq => ?_⟩
     rw [List.getElem?_map] at hq
     cases hu : l[q]? with
     | none => rw [hu] at hq; cases hq
     | some z =>
      rw [hu] at hq
      injection hq with hq
      subst hq
      obtain ⟨u, q3, q4⟩ := q2 q z hu
      exact ⟨u, q3, zEh hj (hloc _) q4⟩
    | fr E k =>
     rintro ⟨g, n, cap, cur, q1, q2, q3⟩
     exact ⟨g, n, cap, cur, q1, hloc 0 g q2, q3⟩
    | imm l => exact id
    | box l =>
     rintro ⟨g, e, k1, k2, cs, E, k3, k4, k5⟩
     refine ⟨g, e, hloc 0 g k1, k2, cs, E, k3, by simpa using k4, fun q x hq => ?_⟩
     rw [List.getElem?_map] at hq
     cases hu : l[q]? with
     | none => rw [hu] at hq; cases hq
     | some z =>
      rw [hu] at hq
      injection hq with hq
      subst hq
      obtain ⟨q5, u, q3, q4⟩ := k5 q z hu
      exact ⟨by rw [rnT_agg]; exact q5, u, q3, zEh hj (hloc _) q4⟩
    | ref b off =>
     rintro ⟨g, k1, k2, k3⟩
     show RepA m w (rnO j c o) S' t (bif Nat.beq b (OB + j) then .t (.hpt c off) else .ref b off) v
     rw [zHm]
     by_cases e : b = OB + j
     ·
      subst e
      simp only [decide_true, cond_true]
      exact ⟨g, (iff g _).2 (.inl ⟨rfl, k1⟩), k2⟩
     ·
      simp only [e, decide_false, cond_false]
      exact ⟨g, keep g _ e k1, k2, fun hb => let ⟨l, hl⟩ := k3 hb; hbox b l hb hl⟩
    | free =>
     intro hs g k h
     rcases (iff g _).1 h with ⟨e, _⟩ | ⟨_, _, h⟩
     · exact e2 e
     · exact hs g k h
    | hp f => exact id
    | mp l => rintro ⟨g, k1, k2⟩; exact ⟨g, hloc 0 g k1, k2⟩
    | ck f cs =>
     rintro ⟨ptrs, e, q1, q2⟩
     refine ⟨ptrs, e, q1, fun i c' hi => ?_⟩
     obtain ⟨v, q3, q4⟩ := q2 i c' hi
     refine ⟨v, q3, ?_⟩
     cases c' with
     | live c' => obtain ⟨g, b1, b2⟩ := q4; exact ⟨g, b1, keep g _ (by unfold OB at *; omega) b2⟩
     | fz l => exact q4
    | cl f caps =>
     rintro ⟨ptrs, e, q1, q2⟩
     refine ⟨ptrs, e, by simpa using q1, fun i l hi => ?_⟩
     rw [List.getElem?_map] at hi
     cases hz : caps[i]? with
     | none => rw [hz] at hi; cases hi
     | some z =>
      rw [hz] at hi
      injection hi with hi
      subst hi
      obtain ⟨g, q3, q4⟩ := q2 i z hz
      refine ⟨g, q3, fun q x hq => ?_⟩
      rw [List.getElem?_map] at hq
      cases hu : z[q]? with
      | none => rw [hu] at hq; cases hq
      | some y =>
       rw [hu] at hq
       injection hq with hq
       subst hq
       obtain ⟨u, q5, q6⟩ := q4 q y hu
       exact ⟨u, q5, zEh hj (hloc _) q6⟩
    | imt l =>
     rintro ⟨g, q3, q4⟩
     refine ⟨g, q3, fun q x hq => ?_⟩
     rw [List.getElem?_map] at hq
     cases hu : l[q]? with
     | none => rw [hu] at hq; cases hq
     | some y =>
      rw [hu] at hq
      injection hq with hq
      subst hq
      obtain ⟨u, q5, q6⟩ := q4 q y hu
      exact ⟨u, q5, zEh hj (hloc _) q6⟩
    | rcd b u mE oE =>
     rintro ⟨q1, q2, q3, q4, q5⟩
     exact ⟨hloc 0 b q1, q2, q3, q4, fun g c' hg => keep g _ (by show OB + (OB + c') ≠ OB + j; omega) (q5 g c' hg)⟩
    | any => exact id
end
end Go.Proofs.Ytjomnccladjpgaa
