/-
  Texts joined: see the remark at the head of each part.
-/
import Derived.Test.YtmgafkpkpmjieaaDoorM04
import Derived.Laws.MakeOwn
import Derived.Laws.CopyRow
import Derived.Laws.Pointers
set_option linter.unusedVariables false
set_option linter.unusedSimpArgs false
/-
 Still more operations for walks that a program writes: the bytes of a text that stands in the program; texts held against each other by order.
-/
namespace Go.Proofs.YtmgafkpkpmjieaaDoor
open Go Go.RowKit
set_option linter.unusedVariables false
abbrev D.i (z : Int) : D := .lit (.int .i64 z)
abbrev T.i (z : Int) : T := .d (.lit (.int .i64 z))
abbrev A.i (z : Int) : A := .t (.d (.lit (.int .i64 z)))
abbrev D.b (z : Bool) : D := .lit (.bool z)
abbrev T.b (z : Bool) : T := .d (.lit (.bool z))
abbrev A.b (z : Bool) : A := .t (.d (.lit (.bool z)))
abbrev D.s (z : List UInt8) : D := .lit (.string ⟨⟨z⟩⟩)
abbrev T.s (z : List UInt8) : T := .d (.lit (.string ⟨⟨z⟩⟩))
abbrev A.s (z : List UInt8) : A := .t (.d (.lit (.string ⟨⟨z⟩⟩)))
abbrev D.y (z : List UInt8) : D := .seq 1 (zD z)
abbrev T.y (z : List UInt8) : T := .d (.seq 1 (zD z))
abbrev A.y (z : List UInt8) : A := .t (.d (.seq 1 (zD z)))
abbrev D.n : D := .lit (.slice none 0 0)
abbrev T.n : T := .d (.lit (.slice none 0 0))
abbrev A.n : A := .t (.d (.lit (.slice none 0 0)))
theorem WkD.r {x : D} : WkD x x := .refl _
theorem WkT.r {x : T} : WkT x x := .refl _
theorem WkA.r {x : A} : WkA x x := .refl _
theorem mR {S : Nat → A} : Mk S S := Mk.refl _
section
variable {P : Program} {pins : List Nat} {N : Nat} {ops : Array Oper} {Q : SL → Prop} {r : List Oper} {L : SL}
abbrev stS (P : Program) (pins : List Nat) (N : Nat) (L : SL) (d : Nat) (op : Oper) := (op.guard, op.dst, okD N pins (gt L) d, opF P pins false (gt L) d op.op)
abbrev stE (d : Nat) (x : A) : Option (Nat × Bool) × Option Nat × Bool × Option (Prop × Eff) := (none, some d, true, some (True, [(d, x)]))
theorem o_1 {op : Oper} {d : Nat} (x : A) (h : stS P pins N L d op = stE d x) (k : qY P pins N ops Q r ((d, x) :: L)) : qY P pins N ops Q (op :: r) L := by
 simp only [stS, stE, Prod.mk.injEq] at h
 obtain ⟨a, b, c, e⟩ := h
 exact o_s x (g0 a) b c e k
theorem o_m2 {p1 p2 : Oper} {d1 d2 : Nat} (x1 x2 : A) (h : (stS P pins N L d1 p1, stS P pins N ((d1, x1) :: L) d2 p2) = (stE d1 x1, stE d2 x2)) (k : qY P pins N ops Q r ((d2, x2) :: (d1, x1) :: L)) : qY P pins N ops Q (p1 :: p2 :: r) L := by
 obtain ⟨h1, h2⟩ := Prod.mk.inj h
 exact o_1 x1 h1 (o_1 x2 h2 k)
theorem o_m3 {p1 p2 p3 : Oper} {d1 d2 d3 : Nat} (x1 x2 x3 : A) (h : (stS P pins N L d1 p1, stS P pins N ((d1, x1) :: L) d2 p2, stS P pins N ((d2, x2) :: (d1, x1) :: L) d3 p3) = (stE d1 x1, stE d2 x2, stE d3 x3)) (k : qY P pins N ops Q r ((d3, x3) :: (d2, x2) :: (d1, x1) :: L)) : qY P pins N ops Q (p1 :: p2 :: p3 :: r) L := by
 obtain ⟨h1, h2⟩ := Prod.mk.inj h
 exact o_1 x1 h1 (o_m2 x2 x3 h2 k)
theorem o_m4 {p1 p2 p3 p4 : Oper} {d1 d2 d3 d4 : Nat} (x1 x2 x3 x4 : A) (h : (stS P pins N L d1 p1, stS P pins N ((d1, x1) :: L) d2 p2, stS P pins N ((d2, x2) :: (d1, x1) :: L) d3 p3, stS P pins N ((d3, x3) :: (d2, x2) :: (d1, x1) :: L) d4 p4) = (stE d1 x1, stE d2 x2, stE d3 x3, stE d4 x4)) (k : qY P pins N ops Q r ((d4, x4) :: (d3, x3) :: (d2, x2) :: (d1, x1) :: L)) : qY P pins N ops Q (p1 :: p2 :: p3 :: p4 :: r) L := by
 obtain ⟨h1, h2⟩ := Prod.mk.inj h
 exact o_1 x1 h1 (o_m3 x2 x3 x4 h2 k)
theorem o_m5 {p1 p2 p3 p4 p5 : Oper} {d1 d2 d3 d4 d5 : Nat} (x1 x2 x3 x4 x5 : A) (h : (stS P pins N L d1 p1, stS P pins N ((d1, x1) :: L) d2 p2, stS P pins N ((d2, x2) :: (d1, x1) :: L) d3 p3, stS P pins N ((d3, x3) :: (d2, x2) :: (d1, x1) :: L) d4 p4, stS P pins N ((d4, x4) :: (d3, x3) :: (d2, x2) :: (d1, x1) :: L) d5 p5) = (stE d1 x1, stE d2 x2, stE d3 x3, stE d4 x4, stE d5 x5)) (k : qY P pins N ops Q r ((d5, x5) :: (d4, x4) :: (d3, x3) :: (d2, x2) :: (d1, x1) :: L)) : qY P pins N ops Q (p1 :: p2 :: p3 :: p4 :: p5 :: r) L := by
 obtain ⟨h1, h2⟩ := Prod.mk.inj h
 exact o_1 x1 h1 (o_m4 x2 x3 x4 x5 h2 k)
theorem o_m6 {p1 p2 p3 p4 p5 p6 : Oper} {d1 d2 d3 d4 d5 d6 : Nat} (x1 x2 x3 x4 x5 x6 : A) (h : (stS P pins N L d1 p1, stS P pins N ((d1, x1) :: L) d2 p2, stS P pins N ((d2, x2) :: (d1, x1) :: L) d3 p3, stS P pins N ((d3, x3) :: (d2, x2) :: (d1, x1) :: L) d4 p4, stS P pins N ((d4, x4) :: (d3, x3) :: (d2, x2) :: (d1, x1) :: L) d5 p5, stS P pins N ((d5, x5) :: (d4, x4) :: (d3, x3) :: (d2, x2) :: (d1, x1) :: L) d6 p6) = (stE d1 x1, stE d2 x2, stE d3 x3, stE d4 x4, stE d5 x5, stE d6 x6)) (k : qY P pins N ops Q r ((d6, x6) :: (d5, x5) :: (d4, x4) :: (d3, x3) :: (d2, x2) :: (d1, x1) :: L)) : qY P pins N ops Q (p1 :: p2 :: p3 :: p4 :: p5 :: p6 :: r) L := by
 obtain ⟨h1, h2⟩ := Prod.mk.inj h
 exact o_1 x1 h1 (o_m5 x2 x3 x4 x5 x6 h2 k)
theorem o_m7 {p1 p2 p3 p4 p5 p6 p7 : Oper} {d1 d2 d3 d4 d5 d6 d7 : Nat} (x1 x2 x3 x4 x5 x6 x7 : A) (h : (stS P pins N L d1 p1, stS P pins N ((d1, x1) :: L) d2 p2, stS P pins N ((d2, x2) :: (d1, x1) :: L) d3 p3, stS P pins N ((d3, x3) :: (d2, x2) :: (d1, x1) :: L) d4 p4, stS P pins N ((d4, x4) :: (d3, x3) :: (d2, x2) :: (d1, x1) :: L) d5 p5, stS P pins N ((d5, x5) :: (d4, x4) :: (d3, x3) :: (d2, x2) :: (d1, x1) :: L) d6 p6, stS P pins N ((d6, x6) :: (d5, x5) :: (d4, x4) :: (d3, x3) :: (d2, x2) :: (d1, x1) :: L) d7 p7) = (stE d1 x1, stE d2 x2, stE d3 x3, stE d4 x4, stE d5 x5, stE d6 x6, stE d7 x7)) (k : qY P pins N ops Q r ((d7, x7) :: (d6, x6) :: (d5, x5) :: (d4, x4) :: (d3, x3) :: (d2, x2) :: (d1, x1) :: L)) : qY P pins N ops Q (p1 :: p2 :: p3 :: p4 :: p5 :: p6 :: p7 :: r) L := by
 obtain ⟨h1, h2⟩ := Prod.mk.inj h
 exact o_1 x1 h1 (o_m6 x2 x3 x4 x5 x6 x7 h2 k)
theorem o_m8 {p1 p2 p3 p4 p5 p6 p7 p8 : Oper} {d1 d2 d3 d4 d5 d6 d7 d8 : Nat} (x1 x2 x3 x4 x5 x6 x7 x8 : A) (h : (stS P pins N L d1 p1, stS P pins N ((d1, x1) :: L) d2 p2, stS P pins N ((d2, x2) :: (d1, x1) :: L) d3 p3, stS P pins N ((d3, x3) :: (d2, x2) :: (d1, x1) :: L) d4 p4, stS P pins N ((d4, x4) :: (d3, x3) :: (d2, x2) :: (d1, x1) :: L) d5 p5, stS P pins N ((d5, x5) :: (d4, x4) :: (d3, x3) :: (d2, x2) :: (d1, x1) :: L) d6 p6, stS P pins N ((d6, x6) :: (d5, x5) :: (d4, x4) :: (d3, x3) :: (d2, x2) :: (d1, x1) :: L) d7 p7, stS P pins N ((d7, x7) :: (d6, x6) :: (d5, x5) :: (d4, x4) :: (d3, x3) :: (d2, x2) :: (d1, x1) :: L) d8 p8) = (stE d1 x1, stE d2 x2, stE d3 x3, stE d4 x4, stE d5 x5, stE d6 x6, stE d7 x7, stE d8 x8)) (k : qY P pins N ops Q r ((d8, x8) :: (d7, x7) :: (d6, x6) :: (d5, x5) :: (d4, x4) :: (d3, x3) :: (d2, x2) :: (d1, x1) :: L)) : qY P pins N ops Q (p1 :: p2 :: p3 :: p4 :: p5 :: p6 :: p7 :: p8 :: r) L := by
 obtain ⟨h1, h2⟩ := Prod.mk.inj h
 exact o_1 x1 h1 (o_m7 x2 x3 x4 x5 x6 x7 x8 h2 k)
end
theorem k1 {L : SL} {K : SL → Prop} {Q : Exit → SL → Prop} (h : K L) : zE0 K Q .normal L := h
theorem k2 {L : SL} {K : SL → Prop} {Q : Exit → SL → Prop} {i : Nat} (h : Q (.exit i) L) : zE0 K Q (.exit i) L := h
theorem k3 {L : SL} {K : SL → Prop} {Q : Exit → SL → Prop} (h : Q .ret L) : zE0 K Q .ret L := h
theorem k4 {L : SL} {i : Nat} {Q : Exit → SL → Prop} (h : Q .normal L) : zEe i Q .normal L := h
theorem k5 {L : SL} {i : Nat} {Q : Exit → SL → Prop} (h : Q .ret L) : zEe i Q .ret L := h
theorem k6 {L : SL} {i : Nat} {Q : Exit → SL → Prop} (h : Q .normal L) : zEe i Q (.exit i) L := qL h
theorem c_sr {P : Program} {pins : List Nat} {N : Nat} {Q : Exit → SL → Prop} {L : SL} {id : Nat} {l : List Oper} {y : Code} (h : qY P pins N l.toArray (zE0 (yP P pins N y Q) Q .normal) l L) : yP P pins N (.seq (.region id l.toArray false) y) Q L := zM (zG h)
end Go.Proofs.YtmgafkpkpmjieaaDoor

/-
 Functions that have caught variables: made, handed over, called. A caught variable never changes again: it is frozen first.
-/
namespace Go.Proofs.YtmgafkpkpmjieaaDoor
open Go Go.RowKit
set_option linter.unusedVariables false
def frzD : T → D
 | .d x => x
 | .own _ k l => .seq k l
 | _ => default
section
variable {w0 : World} {m0 : Mem} {o0 : OwnM} {G : GD} {pins : List Nat} {S M : Nat → A} {a : Act} {w : World} {m : Mem} {o : OwnM} {P : Program} {N : Nat}
theorem Inv.freeze (I : Inv w0 m0 o0 G pins S a w m o) (s : Nat) (hsO : s < OB) (hs : s ∉ pins) {l : List T} (hpt : noPt l = true) (hbox : S s = .box l) (hno : ∀ t off, S t ≠ .ref s off) : ∃ m' o', Inv w0 m0 o0 G pins (upd S s (.imm (l.map frzD))) a w m' o' := by
 have hb := I.slots s
 rw [hbox] at hb
 obtain ⟨g, e, h1, h2, cs, E, h3, h4, h5⟩ := hb
 have hk : ∀ b l, (fun b => if (o b).map (·.1) = some s then none else o b) b = some l → l.1 ≠ s ∧ o b = some l := by
  intro b l h
  simp only at h
  split at h
  · cases h
  ·
   rename_i hn
   exact ⟨fun e => hn (by rw [h, ← e]; rfl), h⟩
 have hko : ∀ b l, o b = some l → l.1 ≠ s → (if (o b).map (·.1) = some s then none else o b) = some l := fun b l h hn => by rw [h, if_neg (by simpa using hn)]
 have K : Keep (fun l => l.1 = s) m w o (newM m g fun p => cs[p]?) w (fun b => if (o b).map (·.1) = some s then none else o b) := by
  refine ⟨fun b p u h => ?_, fun b l h hn => ?_, fun _ _ _ _ => rfl, fun b l h hn => hko b l h hn, fun b j h => hko b _ h (zFj hsO), fun b t k _ h => ⟨b, k, (hk b _ h).2⟩, fun b j _ => .of_eq rfl⟩
  ·
   unfold newM
   split
   ·
    rename_i hb
    rw [hb, h2 p] at h
    cases h
   · exact h
  ·
   have : b ≠ g := fun e => by
    subst e
    rw [h1] at h
    injection h with h
    exact hn (by rw [← h])
   funext p
   unfold newM
   rw [if_neg this]
 refine ⟨_, _, ⟨I.same, fun b p u h => ?_, I.mono.trans K.mle, fun b hb hg => ?_, fun b l h => I.own b l (hk b l h).2, fun b l h => I.lt b l (hk b l h).2, fun b b' l h h' => I.inj b b' l (hk b l h).2 (hk b' l h').2, fun p hp b hb => ?_, fun t => ?_, I.defers, I.tbl, I.wide, I.shps⟩⟩
 ·
  unfold newM at h
  split at h
  ·
   rename_i hb
   subst hb
   unfold World.cell?
   simp only [h3]
   exact h
  · exact I.sat b p u h
 ·
  have : b ≠ g := fun e => by
   subst e
   rcases I.own b _ h1 with h | h
   · exact hg h
   · omega
  rw [← I.old b hb hg]
  funext p
  unfold newM
  rw [if_neg this]
 · exact hko b _ (I.pinned p hp b hb) fun e => hp.elim (fun hp => hs (by rw [← e]; exact hp)) fun hp => by have e : p = s := e; omega
 ·
  by_cases ht : t = s
  ·
   subst ht
   rw [zU]
   refine ⟨g, 0, e hsO, fun j d hj => ?_⟩
   rw [List.getElem?_map] at hj
   cases hx : l[j]? with
   | none => rw [hx] at hj; cases hj
   | some x =>
    rw [hx] at hj
    injection hj with hj
    subst hj
    obtain ⟨ha, u, hu, hr⟩ := h5 j x hx
    refine ⟨u, by rw [Nat.zero_add, zDI]; exact hu, ?_⟩
    refine RepD.mono K.mle ?_
    cases x with
    | d y => exact hr
    | agg l => cases ha
    | own E k l => exact zDY I.sat hr
    | ptr => exact absurd (zBR hpt hx) (by simp [T.isPt])
    | view => exact absurd (zBR hpt hx) (by simp [T.isPt])
    | hpt => exact absurd (zBR hpt hx) (by simp [T.isPt])
    | hvw => exact absurd (zBR hpt hx) (by simp [T.isPt])
    | mpt => exact absurd (zBR hpt hx) (by simp [T.isPt])
    | any => exact absurd (zBR hpt hx) (by simp [T.isPt])
  ·
   rw [zI ht]
   refine RepA.keep K (fun j e => ht e) (fun b off e _ => ?_) (I.slots t)
   have hbs : b ≠ s := fun e' => hno t off (by rw [e, e'])
   exact ⟨hbs, fun ⟨l, hl⟩ => ⟨l, by rw [zI hbs, hl]⟩⟩
def zGK (s : Nat) : SL → Bool
 | [] => true
 | (_, x) :: r => (match x with | .ref b _ => b != s | _ => true) && zGK s r
theorem zIf {s : Nat} {L : SL} (h : zGK s L = true) (t off : Nat) : gt L t ≠ .ref s off := by
 induction L with
 | nil => intro h; cases h
 | cons x r ih =>
  obtain ⟨t', y⟩ := x
  simp only [zGK, Bool.and_eq_true] at h
  rw [yN, upd]
  split
  ·
   intro e
   rw [e] at h
   simp at h
  · exact ih h.2
theorem c_fz {c : Code} {Q : Exit → SL → Prop} {L : SL} (s : Nat) {l : List T} (z : A) (hb : gt L s = .box l) (hp : (pins.contains s || !Nat.blt s OB) = false) (hr : (zGK s L && noPt l) = true) (hz : A.imm (l.map frzD) = z) (h : yP P pins N c Q ((s, z) :: L)) : yP P pins N c Q L := by
 subst hz
 intro Fe ne hF w0 m0 o0 G a w hS
 obtain ⟨hN, hlo, m, o, I⟩ := hS
 rw [Bool.or_eq_false_iff] at hp
 rw [Bool.and_eq_true] at hr
 obtain ⟨m', o', J⟩ := I.freeze s (by simpa using hp.2) (by simpa using hp.1) hr.2 (zB1 hb (by simp)) (fun t off e => zIf hr.1 t off (hx_ref e))
 exact h Fe ne hF w0 m0 o0 G a w ⟨hN, by rw [yN]; exact hlo.upd (lt2 (by simpa using hp.2)), m', o', by rw [yN, zH9 (.inl (by simpa using hp.2))]; exact J⟩
def capsF (M : Nat → A) : List Operand → Option (List (List D))
 | [] => some []
 | x :: r => match cpO M x, capsF M r with
  | .imm l, some k => some (l :: k)
  | _, _ => none
theorem zHF (hM : Mk M S) (I : Inv w0 m0 o0 G pins S a w m o) : ∀ {xs : List Operand} {caps : List (List D)}, capsF M xs = some caps → xs.length = caps.length ∧ ∀ i l, caps[i]? = some l → RepA m w o S 0 (.imm l) ((xs.map a.eval).getD i undef)
 | [], caps, h => by injection h with h; subst h; exact ⟨rfl, fun i l h => by simp at h⟩
 | x :: r, caps, h => by
  unfold capsF at h
  split at h
  case h_2 => cases h
  rename_i l k h1 h2
  injection h with h
  subst h
  obtain ⟨k1, k2⟩ := zHF hM I h2
  refine ⟨by simpa using k1, fun i l' hi => ?_⟩
  cases i with
  | zero =>
   injection hi with hi
   subst hi
   have := yA hM I x 0
   rw [h1] at this
   simpa using this
  | succ i => simpa using k2 i l' (by simpa using hi)
theorem clo_rep {m : Mem} {f : FuncId} {caps : List (List D)} {ptrs : Array Value} (hsz : ptrs.size = caps.length) (h : ∀ (i : Nat) (l : List D), caps[i]? = some l → ∃ g p, ptrs[i]? = some (Value.pointer (some ⟨g, p, none⟩)) ∧ ∀ (j : Nat) (d : D), l[j]? = some d → ∃ u, m g (p + j) = some u ∧ RepD m d u) : RepD m (.clo f caps) (.func (.func f) #[] ptrs) := by
 have H : ∀ i : Nat, ∃ x : Nat × Nat, ∀ l : List D, caps[i]? = some l → ptrs[i]? = some (Value.pointer (some ⟨x.1, x.2, none⟩)) ∧ ∀ (j : Nat) (d : D), l[j]? = some d → ∃ u, m x.1 (x.2 + j) = some u ∧ RepD m d u := by
  intro i
  cases hc : caps[i]? with
  | none => exact ⟨(0, 0), fun l h => by cases h⟩
  | some l =>
   obtain ⟨g, p, h1, h2⟩ := h i l hc
   exact ⟨(g, p), fun l' h => by injection h with h; subst h; exact ⟨h1, h2⟩⟩
 refine .clo f caps ptrs (fun i => (H i).choose.1) (fun i => (H i).choose.2) (fun i j => (m (H i).choose.1 ((H i).choose.2 + j)).getD undef) hsz (fun i r hr => ((H i).choose_spec r hr).1) (fun i r j d hr hd => ?_) (fun i r j d hr hd => ?_)
 ·
  obtain ⟨u, h1, h2⟩ := ((H i).choose_spec r hr).2 j d hd
  rw [h1]; rfl
 ·
  obtain ⟨u, h1, h2⟩ := ((H i).choose_spec r hr).2 j d hd
  rw [h1]; exact h2
theorem ok_mfc (hM : Mk M S) {op : Oper} {d f : Nat} {xs : List Operand} (hop : op.op = .makeFunc (.func f) #[] xs.toArray) (hd : op.dst = some d) (hok : okD N pins S d = true) {caps : List (List D)} (hc : capsF M xs = some caps) : OpOK P pins N op S (upd S d (.t (.d (.clo f caps)))) := by
 refine zP fun w0 m0 o0 G a w m o hN I => ?_
 obtain ⟨k1, k2, k3⟩ := qF hok
 obtain ⟨c1, c2⟩ := zHF hM I hc
 have hrep : RepD m (.clo f caps) (.func (.func f) #[] (xs.map a.eval).toArray) := by
  refine clo_rep (by simpa using c1) fun i l hi => ?_
  have hlt : i < xs.length := by rw [c1]; exact (List.getElem?_eq_some_iff.1 hi).1
  obtain ⟨g, p, e, h⟩ := c2 i l hi
  refine ⟨g, p, ?_, h⟩
  rw [← e, List.getElem?_toArray, List.getD_eq_getElem?_getD, List.getElem?_eq_getElem (by simpa using hlt)]
  rfl
 refine ⟨.func (.func f) #[] (xs.map a.eval).toArray, w, m, o, ?_, by rw [hd]; exact I.set d _ _ (by omega) k2 hrep⟩
 unfold execOp
 rw [hop]
 simp [Instr.makeFunc]
theorem zHq (hM : Mk M S) {op : Oper} {d f : Nat} {xs : List Operand} {ts : Array TypeId} {fx : Operand} {caps : List (List D)} (hop : op.op = .call { callee := .value fx, args := xs.toArray, argTypes := ts }) (hfx : dO M fx = some (.clo f caps)) (hd : op.dst = some d) (hok : okD N pins S d = true) {fn : Func} (hfn : P.funcs[f]? = some fn) (hbody : fn.body.isNone = false) (hname : (fn.name == "runtime.NumGoroutine") = false)
  {args : List A} {r : A} (hargs : zC0 (xs.map (cpO M)) args) (hp : args.all A.plain = true) (hf : FC P f (args ++ caps.map A.imm) [] r) (hnr : r.noRef = true) : OpOK P pins N op S (upd S d r) := by
 intro w0 m0 o0 G a w m o hN I K Q hK
 obtain ⟨h1, h2, h3⟩ := qF hok
 have key : ∀ (xs : List Operand) (args : List A), zC0 (xs.map (cpO M)) args → (xs.map a.eval).length = args.length ∧ ∀ i x, args[i]? = some x → ∃ s, RepA m w o S s x ((xs.map a.eval).getD i undef) := by
  intro xs
  induction xs with
  | nil => intro args h; cases h; exact ⟨rfl, fun i x h => by simp at h⟩
  | cons y ys ih =>
   intro args h
   cases h with
   | cons hx ht =>
    obtain ⟨k1, k2⟩ := ih _ ht
    refine ⟨by simpa using k1, fun i x hi => ?_⟩
    cases i with
    | zero => injection hi with hi; subst hi; exact ⟨0, hx.rep I.sat (yA hM I y 0)⟩
    | succ i => simpa using k2 i x (by simpa using hi)
 obtain ⟨k1, k2⟩ := key xs args hargs
 have hfv := zCs hM I hfx
 generalize hfe : a.eval fx = fv at hfv
 cases hfv with
 | clo _ _ ptrs g p fu q1 q2 q3 q4 =>
  have hpl : (args ++ caps.map A.imm).all A.plain = true := by
   rw [List.all_append, hp, Bool.true_and, List.all_eq_true]
   intro x hx
   obtain ⟨l, _, rfl⟩ := List.mem_map.1 hx
   rfl
  have hc := zF6 I hf hpl (vals := (xs.map a.eval).toArray ++ ptrs) (by simp [q1]; simpa using k1) (fun i x hi => by
   rw [List.getElem?_append] at hi
   rw [Array.getD_eq_getD_getElem?, Array.getElem?_append]
   split at hi
   ·
    rename_i hlt
    rw [if_pos (by simp at k1 ⊢; omega)]
    have := k2 i x hi
    simpa [List.getD_eq_getElem?_getD] using this
   ·
    rename_i hlt
    rw [if_neg (by simp at k1 ⊢; omega)]
    rw [List.getElem?_map] at hi
    cases hc : caps[i - args.length]? with
    | none => rw [hc] at hi; cases hi
    | some l =>
     rw [hc] at hi
     injection hi with hi
     subst hi
     have e : i - (xs.map a.eval).toArray.size = i - args.length := by simp at k1 ⊢; omega
     rw [e, q2 _ l hc]
     exact ⟨0, g _, p _, rfl, fun j d hj => ⟨_, q3 _ l j d hc hj, q4 _ l j d hc hj⟩⟩) (d := d) (by omega) h2 h3 hnr
  unfold Oper.wp
  have hrun : (execOp a.eval op).run P w = .ok (.enter f ((xs.map a.eval).toArray ++ ptrs)) w := by
   unfold execOp
   rw [hop]
   simp only [resolve, hfe, Deferred.ofValue, List.map_toArray]
   have hb : fn.body ≠ none := fun e => by rw [e] at hbody; cases hbody
   have hn : fn.name ≠ "runtime.NumGoroutine" := fun e => by rw [e] at hname; simp at hname
   simp [invoke, callFunc, hfn, hn, hb]
  rw [hrun]
  refine Calls.mono hc ?_
  rintro e w' ⟨u, m', o', rfl, J⟩
  rw [← hd] at J
  exact hK _ _ _ _ (by rw [zBp, hN]) J
end
section
variable {P : Program} {pins : List Nat} {N : Nat} {ops : Array Oper} {Q : SL → Prop} {r : List Oper} {op : Oper} {L : SL}
theorem o_mfc {d f : Nat} {xs : List Operand} {caps : List (List D)} (x : A) (hy : yes ops op L true) (hop : op.op = .makeFunc (.func f) #[] xs.toArray) (hd : op.dst = some d) (hok : okD N pins (gt L) d = true) (hc : capsF (gt L) xs = some caps) (hx : A.t (.d (.clo f caps)) = x) (k : qY P pins N ops Q r ((d, x) :: L)) : qY P pins N ops Q (op :: r) L := by
 subst hx
 exact o_of (e := [(d, _)]) hy (.of (e := [(d, _)]) fun hN => ⟨ok_mfc (zIZ _) hop hd (yL hN hok) hc, zB0 (yG hN hok)⟩) rfl k
theorem o_cc {d f : Nat} {xs : List Operand} {ts : Array TypeId} {args : List A} {caps : List (List D)} {y : A} (hf : FC P f (args ++ caps.map A.imm) [] y) (hy : yes ops op L true) {fx : Operand} (hop : op.op = .call { callee := .value fx, args := xs.toArray, argTypes := ts }) (hfx : dO (gt L) fx = some (.clo f caps)) (hd : op.dst = some d) (hok : okD N pins (gt L) d = true)
  {fn : Func} (hfn : P.funcs[f]? = some fn) (hbody : fn.body.isNone = false) (hname : (fn.name == "runtime.NumGoroutine") = false) (hargs : zC0 (xs.map (cpO (gt L))) args) (hp : args.all A.plain = true) (hnr : y.noRef = true) (k : qY P pins N ops Q r ((d, y) :: L)) : qY P pins N ops Q (op :: r) L :=
 o_of (e := [(d, y)]) hy (.of (e := [(d, y)]) fun hN => ⟨zHq (zIZ _) hop hfx hd (yL hN hok) hfn hbody hname hargs hp hf hnr, zB0 (yG hN hok)⟩) rfl k
end
section
variable {P : Program} {pins : List Nat} {N : Nat} {l0 : List Oper} {Q : SL → Prop} {r : List Oper} {op : Oper} {L : SL} {acc : List (List Nat × List Nat)} {T : List Nat}
theorem d_cc {d f : Nat} {xs : List Operand} {ts : Array TypeId} {args : List A} {caps : List (List D)} {y : A} (hf : FC P f (args ++ caps.map A.imm) [] y) (hT : zB6 (zCW l0.toArray (gt L) op) some = some T) (hy : dyes l0 op L T) {fx : Operand} (hop : op.op = .call { callee := .value fx, args := xs.toArray, argTypes := ts }) (hfx : dO (mask T (gt L)) fx = some (.clo f caps)) (hd : op.dst = some d) (hdT : T.contains d = true) (hok : okD N pins (gt L) d = true)
  {fn : Func} (hfn : P.funcs[f]? = some fn) (hbody : fn.body.isNone = false) (hname : (fn.name == "runtime.NumGoroutine") = false) (hargs : zC0 (xs.map (cpO (mask T (gt L)))) args) (hp : args.all A.plain = true) (hnr : y.noRef = true) (k : DOK P pins N l0 Q r ((T, [d]) :: acc) ((d, y) :: L)) : DOK P pins N l0 Q (op :: r) acc L :=
 d_of (ks := [d]) hT hy (e := [(d, y)]) rfl (by simp only [List.all_cons, List.all_nil, hdT]; rfl) (fun S' hS => have hok := d_mf.okD_of hS (by simpa using hdT) hok; .of (e := [(d, y)]) fun hN => ⟨zHq (zDf hS).hx hop hfx hd (yL hN hok) hfn hbody hname hargs hp hf hnr, zB0 (yG hN hok)⟩) rfl k
end
end Go.Proofs.YtmgafkpkpmjieaaDoor

/-
 Slices that may grow: out of a call's results; made.
-/
namespace Go.Proofs.YtmgafkpkpmjieaaDoor
open Go Go.RowKit
set_option linter.unusedVariables false
section
variable {w0 : World} {m0 : Mem} {o0 : OwnM} {G : GD} {pins : List Nat} {S M : Nat → A} {a : Act} {w : World} {m : Mem} {o : OwnM} {P : Program} {N : Nat}
def mkI (nb : Nat) (n : Int) : Option Nat := if 0 ≤ n ∧ (nb : Int) * n ≤ 281474976710656 ∧ n ≤ 140737488351232 then some n.toNat else none
theorem mkI_iff {nb q : Nat} {n : Int} (h : mkI nb n = some q) : 0 ≤ n ∧ (nb : Int) * n ≤ 281474976710656 ∧ n ≤ 140737488351232 ∧ q = n.toNat := by
 unfold mkI at h
 split at h
 · rename_i hc; injection h with h; exact ⟨hc.1, hc.2.1, hc.2.2, h.symm⟩
 · cases h
end
end Go.Proofs.YtmgafkpkpmjieaaDoor

/-
 The heap's objects: addresses in them, slices of them; read, written, made.
-/
namespace Go.Proofs.YtmgafkpkpmjieaaDoor
open Go Go.RowKit
set_option linter.unusedVariables false
section
variable {S : Nat → A} {f f' : Nat → A} {c : Nat} {x : A}
theorem zBO (c : Nat) : OB2 + c = OB + (OB + c) := by unfold OB OB2; omega
theorem zFv (hl : Low S) (hk : S HK = .hp f) (c : Nat) : hx S (OB + (OB + c)) = san (f c) := by
 rw [← zBO]
 unfold hx
 rw [hl (OB2 + c) (Nat.le_add_right _ _)]
 simp only
 rw [if_pos (Nat.le_add_right _ _), hk, Nat.add_sub_cancel_left]
theorem zIq : HK < OB2 := by decide
def updF (f : Nat → A) (c : Nat) (x : A) : Nat → A := fun k => if k = c then x else f k
theorem hx_set (hl : Low S) (hk : S HK = .hp f) (hs : san x = x) : hx (upd S HK (.hp (updF f c x))) = upd (upd (hx S) (OB + (OB + c)) x) HK (.hp (updF f c x)) := by
 funext t
 by_cases e : t = HK
 ·
  subst e
  rw [zU]
  exact zB1 (zU _ _ _) (by simp)
 ·
  rw [zI e]
  rcases Nat.lt_or_ge t OB2 with h | h
  · rw [zC9 h, zI e, zI (by unfold OB; unfold OB2 at h; omega), zC9 h]
  ·
   obtain ⟨k, rfl⟩ : ∃ k, t = OB2 + k := ⟨t - OB2, by omega⟩
   have hl' : Low (upd S HK (.hp (updF f c x))) := hl.upd zIq
   rw [zBO, zFv hl' (zU _ _ _)]
   unfold updF
   by_cases e2 : k = c
   ·
    subst e2
    rw [if_pos rfl, zU, hs]
   · rw [if_neg e2, zI (by omega), zFv hl hk]
end
section
variable {w0 : World} {m0 : Mem} {o0 : OwnM} {G : GD} {pins : List Nat} {S M : Nat → A} {a : Act} {w : World} {m : Mem} {o : OwnM} {P : Program} {N : Nat} {f : Nat → A}
theorem Inv.hk (I : Inv w0 m0 o0 G pins S a w m o) (hk : S HK = .hp f) (f' : Nat → A) : Inv w0 m0 o0 G pins (upd S HK (.hp f')) a w m o := by
 refine ⟨I.same, I.sat, I.mono, I.old, I.own, I.lt, I.inj, I.pinned, fun s => ?_, I.defers, I.tbl, I.wide, I.shps⟩
 by_cases e : s = HK
 ·
  subst e
  rw [zU]
  trivial
 ·
  rw [zI e]
  refine (I.slots s).turn fun b l hb => ⟨l, ?_⟩
  rw [zI (fun e => by rw [e, hk] at hb; cases hb), hb]
def norH : T → Option A
 | .ptr _ _ => none
 | .view j off E k n => some (.t (.view j off E k n))
 | .agg _ => none
 | .own _ k l => some (.t (.d (.seq k l)))
 | x => some (.t x)
theorem norH_rep {loc : Nat × Nat} {s : Nat} {x : T} {y : A} {v : Value} (hsat : ∀ b p u, m b p = some u → w.cell? ⟨b, p, none⟩ = some u) (hy : norH x = some y) (h : RepT m w o loc x v) : RepA m w o S s y v := by
 cases x with
 | ptr j off => cases hy
 | agg l => cases hy
 | own E k l => injection hy with hy; subst hy; exact zDY hsat h
 | d x => injection hy with hy; subst hy; exact h
 | view j off E k n => injection hy with hy; subst hy; exact h
 | hpt c off => injection hy with hy; subst hy; exact h
 | mpt c => injection hy with hy; subst hy; exact h
 | any => injection hy with hy; subst hy; exact h
 | hvw c off E k n => injection hy with hy; subst hy; exact h
theorem ok_hld (hM : Mk M S) {op : Oper} {d c off t n : Nat} {x : Operand} {l : List T} {z : T} {y : A} (hop : op.op = .load t x) (ht : tyA P t = some (false, n)) (hx : cpO M x = .t (.hpt c off)) (hb : S (OB + (OB + c)) = .box l) (hz : l[off]? = some z) (hy : norH z = some y) (hd : op.dst = some d) (hok : okD N pins S d = true) : OpOK P pins N op S (upd S d y) := by
 refine zP fun w0 m0 o0 G a w m o hN I => ?_
 obtain ⟨h1, h2, h3⟩ := qF hok
 have hxr := yA hM I x 0
 rw [hx] at hxr
 obtain ⟨g, k1, e⟩ := hxr
 have hs := I.slots (OB + (OB + c))
 rw [hb] at hs
 obtain ⟨g', _, q1, q2, cs, E, q3, q4, q5⟩ := hs
 have := I.inj _ _ _ k1 q1
 subst this
 obtain ⟨hz1, u, hu, hr⟩ := q5 off z hz
 refine ⟨u, w, m, o, ?_, by rw [hd]; exact I.set d _ _ (by omega) h2 (norH_rep I.sat hy hr)⟩
 unfold execOp
 rw [hop]
 simp only [Sem.run_bind]
 rw [e]
 simp only [Instr.loadAt, Instr.sureAddr, Sem.run_bind, Sem.run_pure, Result.andThen_ok]
 rw [zA4 ht (by rw [cell_of_row w g off cs E _ q3]; exact hu)]
 rfl
theorem ok_hlr (hM : Mk M S) {op : Oper} {d c off t n : Nat} {x : Operand} {l r : List T} {y : List D} (hop : op.op = .load t x) (ht : tyA P t = some (true, n)) (hx : cpO M x = .t (.hpt c off)) (hb : S (OB + (OB + c)) = .box l) (hl : (l.drop off).take n = r) (hr : r.length = n) (hpt : noPt r = true) (hy : r.map toD = y) (hd : op.dst = some d) (hok : okD N pins S d = true) : OpOK P pins N op S (upd S d (.t (.agg y))) := by
 subst hy
 refine zP fun w0 m0 o0 G a w m o hN I => ?_
 obtain ⟨h1, h2, h3⟩ := qF hok
 have hxr := yA hM I x 0
 rw [hx] at hxr
 obtain ⟨g, k1, e⟩ := hxr
 have hs := I.slots (OB + (OB + c))
 rw [hb] at hs
 obtain ⟨g', _, q1, q2, cs, E, q3, q4, q5⟩ := hs
 have := I.inj _ _ _ k1 q1
 subst this
 have hle : n = 0 ∨ off + n ≤ l.length := by
  rw [← hl, List.length_take, List.length_drop] at hr
  omega
 have hcs : n = 0 ∨ off + n ≤ cs.size := by omega
 have hrep : RepL m (r.map toD) ((cs.toList.drop off).take n) := by
  refine ⟨by rw [List.length_map, hr, List.length_take, List.length_drop, Array.length_toList]; omega, fun j z hj => ?_⟩
  rw [List.getElem?_map, ← hl, List.getElem?_take, List.getElem?_drop] at hj
  rw [List.getElem?_take, List.getElem?_drop]
  split at hj
  ·
   rename_i hjn
   rw [if_pos hjn]
   cases hz : l[off + j]? with
   | none => rw [hz] at hj; cases hj
   | some z =>
    rw [hz] at hj
    injection hj with hj
    subst hj
    obtain ⟨ha, u, h7, h8⟩ := q5 (off + j) z hz
    have hzp : z.isPt = false := by
     have := List.all_eq_true.1 hpt z (List.mem_of_getElem? (i := j) (by rw [← hl, List.getElem?_take, if_pos hjn, List.getElem?_drop]; exact hz))
     simpa using this
    exact ⟨u, by simpa using h7, h8.toD I.sat ha hzp⟩
  · cases hj
 have hrun := zCN (P := P) (w := w) ht (g := g) (p := off) (vs := (cs.toList.drop off).take n) (by rw [List.length_take, List.length_drop, Array.length_toList]; omega) fun j v hj => by
  rw [cell_of_row w g (off + j) cs E _ q3]
  rw [List.getElem?_take] at hj
  split at hj
  · rw [List.getElem?_drop] at hj; simpa using hj
  · cases hj
 refine ⟨.agg ((cs.toList.drop off).take n).toArray, w, m, o, ?_, by rw [hd]; exact I.set d _ _ (by omega) h2 ⟨_, rfl, by simpa using hrep⟩⟩
 unfold execOp
 rw [hop]
 simp only [Sem.run_bind]
 rw [e]
 simp only [Instr.loadAt, Instr.sureAddr, Sem.run_bind, Sem.run_pure, Result.andThen_ok]
 rw [hrun]
 rfl
theorem zF9 {g : Nat} {loc loc' : Nat × Nat} {cs cs' : Array Value} {E : Nat} (h1 : o g = some loc') (h4 : w.heap[g]? = some (.cells cs E (0, 0))) (hss : cs'.size = cs.size) (hne : loc' ≠ loc) {z : T} {u : Value} (k0 : z.isAgg = false) (k2 : RepT m w o loc z u) : RepT m (w.setRow g cs') o loc z u := by
 cases z with
 | d x => exact k2
 | agg l => cases k0
 | ptr j off => exact k2
 | hpt c off => exact k2
 | mpt c => exact k2
 | any => exact k2
 | view j off E k n => exact zCH (m' := m) (fun _ _ h => h) (fun g' _ _ => zAP h4 hss g') k2
 | hvw c off E k n => exact zDb (m' := m) (fun _ _ h => h) (fun g' _ _ => zAP h4 hss g') k2
 | own E' k ls =>
  obtain ⟨A', cap, xs, e1, q1, q2, q3, q4⟩ := k2
  refine ⟨A', cap, xs, e1, zDP q1 fun g2 hg2 => ?_, q2, q3, q4⟩
  rw [e1, yQ] at hg2
  refine setRow_other w g g2 _ fun e2 => ?_
  subst e2
  have := (q2 _ hg2).1
  rw [h1] at this
  injection this with this
  exact hne this
theorem ok_hst (hM : Mk M S) {op : Oper} {t c off : Nat} {x y : Operand} (hop : op.op = .store t x y) (hd : op.dst = none) {i : TypeInfo} (hi : P.info? t = some i) (hx : cpO M x = .t (.hpt c off)) {l : List T} (hb : S (OB + (OB + c)) = .box l) {q : List T} (hc : zC4 (cpO M y) = some q) (hsz : q.length = i.size) (hle : off + i.size ≤ l.length) :
  OpOK P pins N op S (upd S (OB + (OB + c)) (.box (yC l off q))) := by
 refine zEx hd fun w0 m0 o0 G a w m o hN I => ?_
 have hxr := yA hM I x 0
 rw [hx] at hxr
 obtain ⟨g, h1, e⟩ := hxr
 have hs := I.slots (OB + (OB + c))
 rw [hb] at hs
 obtain ⟨g', _, q1, q2, cs, E, h4, h5, h6⟩ := hs
 have := I.inj _ _ _ h1 q1
 subst this
 have hyr := zCZ hc (yA hM I y 0)
 have hvl : (a.eval y).cells.size = i.size := by have := hyr.1; simp at this; omega
 have hone := hyr.2.1
 have hrun := zDc (P := P) (w := w) (off := off) hi h4 hvl hone (by omega)
 have hcl : (a.eval y).cells.toList.length = q.length := hyr.1
 have hsp : (yC cs.toList off (a.eval y).cells.toList).length = cs.toList.length := zAS cs.toList off (a.eval y).cells.toList (by simp only [Array.length_toList]; omega)
 have hss : (yC cs.toList off (a.eval y).cells.toList).toArray.size = cs.size := by simpa using hsp
 refine ⟨_, m, o, ?_, I.box_put hb h1 h4 (cs' := (yC cs.toList off (a.eval y).cells.toList).toArray) hss o (fun _ => False) (fun s h => h.elim) (fun g l h _ _ => h) h1 (fun g l h => ⟨l, h⟩) I.inj (fun g l l' h h' k => by rw [h] at h'; injection h' with h'; rw [h']; exact k) ?_ (fun j z hj => ?_)⟩
 ·
  unfold execOp
  rw [hop]
  simp only [Sem.run_bind]
  rw [e, hrun]
  rfl
 · exact zAS l off q (by omega)
 ·
  have hcs2 : (yC cs.toList off (a.eval y).cells.toList).toArray[j]? = (yC cs.toList off (a.eval y).cells.toList)[j]? := by simp
  rw [hcs2, zBf cs.toList off (a.eval y).cells.toList (by simp only [Array.length_toList] at hcl ⊢; omega)]
  rw [zBf l off q (by omega)] at hj
  rw [hcl]
  split at hj
  ·
   rename_i hjo
   rw [if_pos hjo]
   obtain ⟨k0, u, k1, k2⟩ := hyr.2.2 _ z hj
   exact ⟨k0, u, k1, k2 _ _ (zAP h4 hss)⟩
  ·
   rename_i hjo
   rw [if_neg hjo]
   obtain ⟨k0, u, k1, k2⟩ := h6 j z hj
   exact ⟨k0, u, by simpa using k1, zF9 h1 h4 hss (by intro e; injection e with _ e; omega) k0 k2⟩
def T.noOwn : T → Bool
 | .own _ _ _ | .agg _ => false
 | _ => true
theorem noOwn_rep {x : T} (hx : x.noOwn = true) {o' : OwnM} (ho : ∀ g j, o g = some (OB + j, 0) → o' g = some (OB + j, 0)) {loc loc' : Nat × Nat} {w' : World} (hs : ∀ g, zAq w w' g) {v : Value} (h : RepT m w o loc x v) : RepT m w' o' loc' x v := by
 cases x with
 | d x => exact h
 | agg l => cases hx
 | own E k l => cases hx
 | ptr j off => obtain ⟨g, h1, h2⟩ := h; exact ⟨g, ho g j h1, h2⟩
 | hpt j off => obtain ⟨g, h1, h2⟩ := h; exact ⟨g, ho g _ h1, h2⟩
 | mpt j => obtain ⟨g, h1, h2⟩ := h; exact ⟨g, ho g _ h1, h2⟩
 | any => exact h
 | view j off E k n => exact zCH (m' := m) ho (fun g _ _ => hs g) h
 | hvw j off E k n => exact zDb (m' := m) ho (fun g _ _ => hs g) h
theorem Inv.obj_new (I : Inv w0 m0 o0 G pins S a w m o) {j : Nat} {l : List T} {cs : Array Value} {E : Nat} (hfree : S (OB + j) = .free) (hlen : l.length ≤ cs.size)
  (hc : ∀ (i : Nat) (x : T), l[i]? = some x → x.noOwn = true ∧ ∃ u, cs[i]? = some u ∧ RepT m w o (0, 0) x u) :
  Inv w0 m0 o0 G pins (upd S (OB + j) (.box l)) a (w.alloc (.cells cs E)) m (newO o (OB + j) w.heap.size) := by
 have hf : ∀ g k, o g ≠ some (OB + j, k) := by have := I.slots (OB + j); rw [hfree] at this; exact this
 have hS : Same (fun _ => False) w (w.alloc (.cells cs E)) := Same.alloc _ _ _
 have hne : ∀ b l, o b = some l → b ≠ w.heap.size := fun b l h e => by have := I.lt b l h; omega
 have hk : ∀ b l, o b = some l → newO o (OB + j) w.heap.size b = some l := by
  intro b l h
  unfold newO
  rw [if_neg (hne b l h), h, if_neg]
  intro e
  obtain ⟨s, k⟩ := l
  injection e with e
  subst e
  exact hf b k h
 have hk' : ∀ b l, newO o (OB + j) w.heap.size b = some l → (b = w.heap.size ∧ l = (OB + j, 0)) ∨ (b ≠ w.heap.size ∧ o b = some l) := by
  intro b l h
  unfold newO at h
  split at h
  · rename_i e; injection h with h; exact .inl ⟨e, h.symm⟩
  ·
   split at h
   · cases h
   · rename_i e _; exact .inr ⟨e, h⟩
 have hsh : ∀ g, zAq w (w.alloc (.cells cs E)) g := fun g => .of_lt fun h => hS.block g h id
 have K : Keep (fun l => l.1 = OB + j) m w o m (w.alloc (.cells cs E)) (newO o (OB + j) w.heap.size) :=
  ⟨Mle.refl _, fun _ _ _ _ => rfl, fun b l h _ => hS.block b (I.lt b l h) id, fun b l h _ => hk b l h, fun b j' h => hk b _ h, fun b s k hs h => by
   rcases hk' b _ h with ⟨_, e⟩ | ⟨_, e⟩
   · injection e with e _; exact absurd e hs
   · exact ⟨b, k, e⟩, fun g _ _ => hsh g⟩
 refine ⟨I.same.trans (hS.weaken fun _ h => h.elim), fun b p u h => ?_, I.mono, I.old, fun g l h => ?_, fun g l h => ?_, fun g g' l h h' => ?_, fun s hs g hg => hk g _ (I.pinned s hs g hg), fun s => ?_, I.defers, I.tbl, I.wide, I.shps.keep I.pinned K.sh⟩
 ·
  have h1 := I.sat b p u h
  have hlt : b < w.heap.size := by have := World.block_lt_of_cell? w _ h1; simpa using this
  rw [World.cell?_of_block (w := w) (hS.block b hlt id)]
  exact h1
 ·
  rcases hk' g l h with ⟨e, _⟩ | ⟨_, e⟩
  · subst e; exact I.newG (Nat.le_refl _)
  · exact I.own g l e
 ·
  rcases hk' g l h with ⟨e, _⟩ | ⟨_, e⟩
  · subst e; simp
  · exact Nat.lt_of_lt_of_le (I.lt g l e) hS.size
 ·
  rcases hk' g l h with ⟨e, q⟩ | ⟨_, e⟩ <;> rcases hk' g' l h' with ⟨e', q'⟩ | ⟨_, e'⟩
  · rw [e, e']
  · subst q; exact absurd e' (hf _ _)
  · subst q'; exact absurd e (hf _ _)
  · exact I.inj _ _ _ e e'
 ·
  by_cases e : s = OB + j
  ·
   subst e
   rw [zU]
   refine ⟨w.heap.size, fun h => absurd h (by omega), yZ _ _ _, fun p => I.mem_none (Nat.le_refl _), cs, E, heap_alloc_new w _, hlen, fun i x hi => ?_⟩
   obtain ⟨h1, u, h2, h3⟩ := hc i x hi
   refine ⟨?_, u, h2, noOwn_rep h1 (fun g j' h => hk g _ h) hsh h3⟩
   cases x <;> first | rfl | cases h1
  ·
   rw [zI e]
   exact RepA.keep K (fun _ => e) (fun b off _ hb => ⟨fun e' => by have : b = OB + j := e'; omega, fun ⟨l', hl'⟩ => ⟨l', by rw [zI (by omega), hl']⟩⟩) (I.slots s)
theorem zCt {y : A} {l : List T} (hl : zC4 y = some l) : ∀ x ∈ l, x.noOwn = true := by
 intro x hx
 cases y with
 | t y =>
  cases y with
  | d y => injection hl with hl; subst hl; simp at hx; subst hx; rfl
  | agg y => injection hl with hl; subst hl; obtain ⟨_, _, rfl⟩ := List.mem_map.1 hx; rfl
  | view j off E k n => injection hl with hl; subst hl; simp at hx; subst hx; rfl
  | hpt c off => injection hl with hl; subst hl; simp at hx; subst hx; rfl
  | mpt c => injection hl with hl; subst hl; simp at hx; subst hx; rfl
  | any => cases hl
  | hvw c off E k n => injection hl with hl; subst hl; simp at hx; subst hx; rfl
  | own E k l => cases hl
  | ptr j off => cases hl
 | ref b off =>
  have hl : (if OB ≤ b then some [T.ptr (b - OB) off] else none) = some l := hl
  split at hl
  · injection hl with hl; subst hl; simp at hx; subst hx; rfl
  · cases hl
 | ag ls =>
  have hl : (if ls.all T.cell then some ls else none) = some l := hl
  split at hl
  ·
   rename_i hc
   injection hl with hl
   subst hl
   have h1 := List.all_eq_true.1 hc x hx
   cases x <;> first | rfl | cases h1
  · cases hl
 | _ => cases hl
theorem ok_hmk {op : Oper} {d c : Nat} {l : List T} (hd : op.dst = some d) (hok : okD N pins S d = true) (hdO : d < OB) (hfree : S (OB + (OB + c)) = .free)
  (h : ∀ (w0 : World) (m0 : Mem) (o0 : OwnM) (G : GD) (a : Act) (w : World) (m : Mem) (o : OwnM), Inv w0 m0 o0 G pins S a w m o → ∃ v cs E, (execOp a.eval op).run P w = .ok (.value v) (w.alloc (.cells cs E)) ∧ l.length ≤ cs.size ∧
   (∀ (i : Nat) (x : T), l[i]? = some x → x.noOwn = true ∧ ∃ u, cs[i]? = some u ∧ RepT m w o (0, 0) x u) ∧ v = .pointer (some ⟨w.heap.size, 0, none⟩)) :
  OpOK P pins N op S (app S [(OB + (OB + c), .box l), (d, .t (.hpt c 0))]) := by
 refine zP fun w0 m0 o0 G a w m o hN I => ?_
 obtain ⟨h1, h2, h3⟩ := qF hok
 obtain ⟨v, cs, E, hrun, hlen, hc, rfl⟩ := h w0 m0 o0 G a w m o I
 refine ⟨_, w.alloc (.cells cs E), m, newO o (OB + (OB + c)) w.heap.size, hrun, ?_⟩
 rw [hd]
 have J := I.obj_new (E := E) hfree hlen hc
 exact J.set d _ _ (by omega) (by rw [zI (by omega)]; exact h2) ⟨_, yZ _ _ _, rfl⟩
theorem ok_hnew {op : Oper} {d c E : Nat} {i : TypeInfo} {z : Value} {l : List T} (hop : op.op = .alloc E) (hi : P.info? E = some i) (hz : i.zero = some z) (hl : zDS (litA z) = some l) (hd : op.dst = some d) (hok : okD N pins S d = true) (hdO : d < OB) (hfree : S (OB + (OB + c)) = .free) :
  OpOK P pins N op S (app S [(OB + (OB + c), .box l), (d, .t (.hpt c 0))]) := by
 refine ok_hmk hd hok hdO hfree fun w0 m0 o0 G a w m o I => ?_
 have hcp : zC4 (litA z) = some l := by
  revert hl
  generalize litA z = y
  intro hl
  cases y with
  | t y => cases y <;> first | exact hl | cases hl
  | _ => cases hl
 obtain ⟨k1, k2, k3⟩ := zCZ hcp (zB7 (m := m) (w := w) (o := o) (S := S) 0 z)
 refine ⟨_, z.cells, E, ?_, by simpa using Nat.le_of_eq k1.symm, fun i x hx => ?_, rfl⟩
 ·
  unfold execOp
  rw [hop]
  simp [Instr.alloc, zeroValue, typeInfo, hi, hz, newVar, newRow]
 ·
  obtain ⟨q1, u, q2, q3⟩ := k3 i x hx
  exact ⟨zCt hcp x (List.mem_of_getElem? hx), u, by simpa using q2, q3 _ _ (zAq.refl w)⟩
end
end Go.Proofs.YtmgafkpkpmjieaaDoor

/-
 Structs built with addresses in them; local objects that become the heap's; objects of the heap that nobody knows any more.
-/
namespace Go.Proofs.YtmgafkpkpmjieaaDoor
open Go Go.RowKit
set_option linter.unusedVariables false
section
variable {w0 : World} {m0 : Mem} {o0 : OwnM} {G : GD} {pins : List Nat} {S M : Nat → A} {a : Act} {w : World} {m : Mem} {o : OwnM} {P : Program} {N : Nat} {f : Nat → A}
end
end Go.Proofs.YtmgafkpkpmjieaaDoor

/-
 Contracts of functions that read and write the heap; calls of them.
-/
namespace Go.Proofs.YtmgafkpkpmjieaaDoor
open Go Go.RowKit
set_option linter.unusedVariables false
def posN : List Nat → Nat → Option Nat
 | [], _ => none
 | x :: r, j => if x = j then some 0 else (posN r j).map (· + 1)
theorem zH5 : ∀ {σ : List Nat} {j i : Nat}, posN σ j = some i → σ[i]? = some j
 | [], _, _, h => by cases h
 | x :: r, j, i, h => by
  unfold posN at h
  split at h
  · rename_i e; injection h with h; subst h e; rfl
  ·
   cases hq : posN r j with
   | none => rw [hq] at h; cases h
   | some q => rw [hq] at h; injection h with h; subst h; simpa using zH5 hq
theorem zEy : ∀ {σ : List Nat} {j i : Nat}, σ.Nodup → σ[i]? = some j → posN σ j = some i
 | [], _, _, _, h => by simp at h
 | x :: r, j, i, hn, h => by
  unfold posN
  rw [List.nodup_cons] at hn
  cases i with
  | zero => injection h with h; rw [if_pos h]
  | succ i =>
   have h : r[i]? = some j := by simpa using h
   rw [if_neg (fun e => hn.1 (by rw [e]; exact List.mem_of_getElem? h)), zEy hn.2 h]
   rfl
def zDz (σ : List Nat) (t : Nat) : Prop := OB ≤ t ∧ t - OB ∈ σ
instance (σ : List Nat) (t : Nat) : Decidable (zDz σ t) := by unfold zDz; exact inferInstance
theorem zDm {σ : List Nat} {j : Nat} (h : j ∈ σ) : zDz σ (OB + j) := ⟨by omega, by rw [Nat.add_sub_cancel_left]; exact h⟩
theorem zEB {σ : List Nat} {j : Nat} : zDz σ (OB + j) ↔ j ∈ σ := ⟨fun h => by have := h.2; rwa [Nat.add_sub_cancel_left] at this, zDm⟩
def zCg : List Nat → List A → Eff
 | j :: σ, l :: r => (OB + j, l) :: zCg σ r
 | _, _ => []
theorem zDK : ∀ {σ : List Nat} {ls : List A} {S : Nat → A} {s : Nat}, ¬ zDz σ s → app S (zCg σ ls) s = S s
 | [], ls, S, s, _ => by cases ls <;> rfl
 | j :: σ, [], S, s, _ => rfl
 | j :: σ, l :: r, S, s, h => by
  show app (upd S (OB + j) l) (zCg σ r) s = _
  rw [zDK (fun e => h ⟨e.1, List.mem_cons_of_mem _ e.2⟩), zI]
  intro e
  subst e
  exact h (zDm (by simp))
theorem zHw : ∀ {σ : List Nat} {ls : List A} {S : Nat → A} {i j : Nat} {l : A}, σ.Nodup → σ[i]? = some j → ls[i]? = some l → app S (zCg σ ls) (OB + j) = l
 | [], ls, S, i, j, l, _, h, _ => by simp at h
 | x :: σ, [], S, i, j, l, _, _, h => by simp at h
 | x :: σ, y :: r, S, i, j, l, hn, h1, h2 => by
  rw [List.nodup_cons] at hn
  show app (upd S (OB + x) y) (zCg σ r) (OB + j) = _
  cases i with
  | zero =>
   injection h1 with h1
   injection h2 with h2
   subst h1 h2
   rw [zDK (fun e => hn.1 (zEB.1 e)), zU]
  | succ i => exact zHw hn.2 (by simpa using h1) (by simpa using h2)
theorem zEv (S : Nat → A) (e e' : Eff) : app S (e ++ e') = app (app S e) e' := by unfold app; rw [List.foldl_append]
def argH (args : List A) (ins : List A) (f : Nat → A) : Nat → A := fun s => if s < OB then args.getD s .any else if OB2 ≤ s then san (f (s - OB2)) else match ins[s - OB]? with
 | some x => x
 | none => .free
def zIU (n : Nat) : List Nat := (List.range n).map (OB + ·)
def FCK (K : Array Value → World → (Ending → World → Prop) → Prop) (args : List A) (ins outs : List A) (f f' : Nat → A) (r : A) : Prop :=
 ∀ (w : World) (m : Mem) (o : OwnM) (vals : Array Value), (∀ b p u, m b p = some u → w.cell? ⟨b, p, none⟩ = some u) → Mle TBL m → (∀ g l, o g = some l → g < w.heap.size) → (∀ g g' l, o g = some l → o g' = some l → g = g') → vals.size = args.length →
  (∀ s, RepA m w o (argH args ins f) s (argH args ins f s) (vals.getD s undef)) →
  K vals w fun e w' => ∃ (u : Value) (m' : Mem) (o' : OwnM) (S' : Nat → A) (a' : Act) (ρ : Nat), e = .returned u ∧ Inv w m o ⟨fun g => o g ≠ none, []⟩ (zIU ins.length) S' a' w' m' o' ∧ RepA m' w' o' S' ρ r u ∧ (∀ (i : Nat) (x : A), outs[i]? = some x → S' (OB + i) = x) ∧ (∀ c, S' (OB + (OB + c)) = san (f' c)) ∧ ρ < OB
def FCH (P : Program) (fn : FuncId) (args : List A) (ins outs : List A) (f f' : Nat → A) (r : A) : Prop := FCK (Calls P fn) args ins outs f f' r
def T.isLoc : T → Bool | .ptr _ _ | .view _ _ _ _ _ => true | .mpt j => Nat.blt j OB | _ => false
def zDy (f : Nat → A) : Prop := ∀ c l, f c = .box l → ∀ x ∈ l, x.isLoc = false
theorem zGP {f : Nat → A} (h : zDy f) (c : Nat) : ∀ l, san (f c) = .box l → ∀ x ∈ l, x.isLoc = false := by
 intro l hl
 cases hf : f c <;> rw [hf] at hl <;> cases hl
 exact h c _ hf
def movH (σ : List Nat) (o : OwnM) : OwnM := fun g => match o g with
 | some (s, k) => if OB2 ≤ s then some (s, k) else if OB ≤ s then (posN σ (s - OB)).map fun i => (OB + i, k) else none
 | none => none
theorem zDp {σ : List Nat} (hn : σ.Nodup) (hl : σ.length ≤ OB) (hs : ∀ j ∈ σ, j < OB) {o : OwnM} {g : Nat} {l : Nat × Nat} : movH σ o g = some l ↔ (∃ c, l.1 = OB + (OB + c) ∧ o g = some l) ∨ ∃ i j, l.1 = OB + i ∧ i < OB ∧ σ[i]? = some j ∧ o g = some (OB + j, l.2) := by
 unfold movH
 constructor
 ·
  intro h
  split at h
  ·
   rename_i s k hg
   split at h
   ·
    rename_i h2
    injection h with h
    subst h
    exact .inl ⟨s - OB2, by rw [← zBO]; show s = _; omega, hg⟩
   ·
    split at h
    ·
     rename_i h2 hs'
     cases hq : posN σ (s - OB) with
     | none => rw [hq] at h; cases h
     | some i =>
      rw [hq] at h
      injection h with h
      subst h
      have hi := zH5 hq
      exact .inr ⟨i, s - OB, rfl, by have := (List.getElem?_eq_some_iff.1 hi).1; omega, hi, by rw [show OB + (s - OB) = s by omega]; exact hg⟩
    · cases h
  · cases h
 ·
  rintro (⟨c, h1, h2⟩ | ⟨i, j, h1, hi, h2, h3⟩)
  ·
   obtain ⟨s, k⟩ := l
   have h1 : s = OB + (OB + c) := h1
   rw [h2]
   simp only
   rw [if_pos (by rw [h1, ← zBO]; omega)]
  ·
   obtain ⟨a, b⟩ := l
   have h1 : a = OB + i := h1
   subst h1
   have hj := hs j (List.mem_of_getElem? h2)
   rw [h3]
   simp only
   rw [if_neg (by unfold OB OB2 at *; omega), if_pos (by omega), Nat.add_sub_cancel_left, zEy hn h2]
   rfl
def inH (τ : List Nat) (t : Nat) : Prop := OB2 ≤ t ∨ zDz τ t
instance (τ : List Nat) (t : Nat) : Decidable (inH τ t) := by unfold inH; exact inferInstance
def keptH (o : OwnM) (d : Nat) (τ : List Nat) : OwnM := fun g => match o g with
 | some (t, k) => if t = d ∨ inH τ t then none else some (t, k)
 | none => none
theorem zEk {o : OwnM} {d : Nat} {τ : List Nat} {g : Nat} {l : Nat × Nat} : keptH o d τ g = some l ↔ l.1 ≠ d ∧ ¬ inH τ l.1 ∧ o g = some l := by
 unfold keptH
 constructor
 ·
  intro h
  split at h
  ·
   rename_i t k hg
   split at h
   · cases h
   ·
    rename_i hn
    injection h with h
    subst h
    exact ⟨fun e => hn (.inl e), fun e => hn (.inr e), hg⟩
  · cases h
 ·
  rintro ⟨h1, h2, h⟩
  obtain ⟨t, j⟩ := l
  rw [h]
  simp only
  rw [if_neg]
  rintro (e | e)
  · exact h1 e
  · exact h2 e
def mixH (o o' : OwnM) (d ρ : Nat) (τ : List Nat) : OwnM := fun g => match o' g with
 | some (t, k) => if t = ρ then some (d, k) else if OB2 ≤ t then some (t, k) else if OB ≤ t then (match τ[t - OB]? with
   | some j => some (OB + j, k)
   | none => keptH o d τ g) else keptH o d τ g
 | none => keptH o d τ g
inductive PtR (τ : List Nat) : T → T → Prop
 | flat {x : T} (h : x.isPt = false) : PtR τ x x
 | hpt (c off : Nat) : PtR τ (.hpt c off) (.hpt c off)
 | hvw (c off E k n : Nat) : PtR τ (.hvw c off E k n) (.hvw c off E k n)
 | view {i j off E k n : Nat} (h : τ[i]? = some j) : PtR τ (.view i off E k n) (.view j off E k n)
inductive PtRs (τ : List Nat) : List T → List T → Prop
 | nil : PtRs τ [] []
 | cons {x y : T} {l l' : List T} (h : PtR τ x y) (t : PtRs τ l l') : PtRs τ (x :: l) (y :: l')
theorem PtRs.get {τ : List Nat} {l l' : List T} (h : PtRs τ l l') : l'.length = l.length ∧ ∀ (j : Nat) (y : T), l'[j]? = some y → ∃ x, l[j]? = some x ∧ PtR τ x y := by
 induction h with
 | nil => exact ⟨rfl, fun j y h => by simp at h⟩
 | cons hx ht ih =>
  refine ⟨by simp [ih.1], fun j y hj => ?_⟩
  cases j with
  | zero => injection hj with hj; subst hj; exact ⟨_, rfl, hx⟩
  | succ j => simpa using ih.2 j y (by simpa using hj)
theorem PtRs.refl {τ : List Nat} : ∀ {l : List T}, l.all (fun x => !x.isPt) = true → PtRs τ l l
 | [], _ => .nil
 | x :: l, h => by
  simp only [List.all_cons, Bool.and_eq_true] at h
  exact .cons (.flat (by simpa using h.1)) (PtRs.refl h.2)
inductive ResH (τ : List Nat) : A → A → Prop
 | t {x y : T} (h : PtR τ x y) : ResH τ (.t x) (.t y)
 | tup {l l' : List T} (h : PtRs τ l l') : ResH τ (.tup l) (.tup l')
 | plain {x : A} (h : x.plain = true) : ResH τ x x
 | cl {f : FuncId} {caps : List (List T)} (h : ∀ l ∈ caps, ∀ x ∈ l, PtR τ x x) : ResH τ (.cl f caps) (.cl f caps)
inductive ArgH (σ : List Nat) : A → A → Prop
 | plain {x y : A} (h : WkA x y) (hp : y.plain = true) : ArgH σ x y
 | hpt (c off : Nat) : ArgH σ (.t (.hpt c off)) (.t (.hpt c off))
 | hvw (c off E k n : Nat) : ArgH σ (.t (.hvw c off E k n)) (.t (.hvw c off E k n))
 | view {i j off E k n : Nat} (h : σ[i]? = some j) : ArgH σ (.t (.view j off E k n)) (.t (.view i off E k n))
 | ck (f : FuncId) (cs : List CkE) : ArgH σ (.ck f cs) (.ck f cs)
 | view0 {i j off E k n : Nat} (h : σ[i]? = some j) : ArgH σ (.t (.view j off E k n)) (.t (.view i off 0 k n))
inductive zFg (σ : List Nat) : List A → List A → Prop
 | nil : zFg σ [] []
 | cons {x y : A} {l l' : List A} (h : ArgH σ x y) (t : zFg σ l l') : zFg σ (x :: l) (y :: l')
def A.flatO : A → Bool
 | .box l => noPt l
 | .any => true
 | .free => true
 | _ => false
section
variable {m : Mem} {w : World} {o o' : OwnM}
theorem zEr {τ : List Nat} (hh : ∀ g c, o g = some (OB + (OB + c), 0) → o' g = some (OB + (OB + c), 0)) (hl : ∀ g i j, τ[i]? = some j → o g = some (OB + i, 0) → o' g = some (OB + j, 0)) {loc loc' : Nat × Nat} (ho : ∀ g, o g = some loc → o' g = some loc') {x y : T} (hx : PtR τ x y) {v : Value} (h : RepT m w o loc x v) : RepT m w o' loc' y v := by
 cases hx with
 | flat hx => exact h.reloc ho hx |> fun h => h
 | hpt c off => obtain ⟨g, h1, h2⟩ := h; exact ⟨g, hh g c h1, h2⟩
 | hvw c off E k n =>
  obtain ⟨A', q, h1, h2, h3, h4⟩ := h
  exact ⟨A', q, h1, h2, h3, h4.imp id fun ⟨g, cs, E1, k1, k2⟩ => ⟨g, cs, E1, hh g c k1, k2⟩⟩
 | view hi =>
  obtain ⟨A', q, h1, h2, h3, h4⟩ := h
  exact ⟨A', q, h1, h2, h3, h4.imp id fun ⟨g, cs, E1, k1, k2⟩ => ⟨g, cs, E1, hl g _ _ hi k1, k2⟩⟩
theorem loc_rep (hh : ∀ g c, o g = some (OB + (OB + c), 0) → o' g = some (OB + (OB + c), 0)) {loc loc' : Nat × Nat} (ho : ∀ g, o g = some loc → o' g = some loc') {x : T} (hx : x.isLoc = false) {v : Value} (h : RepT m w o loc x v) : RepT m w o' loc' x v := by
 cases x with
 | ptr j off => cases hx
 | view j off E k n => cases hx
 | hpt c off => exact zEr (τ := []) hh (fun g i j h => by simp at h) ho (.hpt c off) h
 | mpt j =>
  have hj : ¬ j < OB := by have hx : Nat.blt j OB = false := hx; intro h; rw [show Nat.blt j OB = true by simpa using h] at hx; cases hx
  obtain ⟨c, rfl⟩ : ∃ c, j = OB + c := ⟨j - OB, by omega⟩
  obtain ⟨g, h1, h2⟩ := h
  exact ⟨g, hh g c h1, h2⟩
 | hvw c off E k n => exact zEr (τ := []) hh (fun g i j h => by simp at h) ho (.hvw c off E k n) h
 | d x => exact h
 | any => exact h
 | agg l => exact h
 | own E k l => exact zEr (τ := []) hh (fun g i j h => by simp at h) ho (.flat rfl) h
end
end Go.Proofs.YtmgafkpkpmjieaaDoor
