/-
  Texts joined: see the remark at the head of each part.
-/
import Derived.Test.YtjomnccladjpgaaD02
set_option linter.unusedVariables false
set_option linter.unusedSimpArgs false
/-
 Regions, code, functions, told by data: rules by which a walk goes.
-/
namespace Go.Proofs.Ytjomnccladjpgaa
open Go Go.RowKit
set_option linter.unusedVariables false
def takenF (P : Program) (tk : Bool) (M : Nat → A) (d : Nat) (t : TypeId) (x : Operand) : Option Eff := match tk with
 | false => none
 | true => match cpO M x, tyA P t with
  | .ref b off, some (false, _) => match M b with
   | .box l => match l[off]? with
    | some (.own E k ls) => if decide (b ≠ d) then some [(b, .box (l.set off (.d (.seq k ls)))), (d, .t (.own E k ls))] else none
    | _ => none
   | _ => none
  | _, _ => none
abbrev SL := List (Nat × A)
def gt : SL → Nat → A
 | [], _ => .any
 | (s, x) :: r, t => bif Nat.beq t s then x else gt r t
theorem qH (L : SL) (d : Nat) (x : A) : gt ((d, x) :: L) = upd (gt L) d x := by
 funext t
 unfold upd
 by_cases e : t = d
 ·
  subst e
  have : Nat.beq t t = true := Nat.beq_refl t
  simp [gt, this]
 ·
  have h : Nat.beq t d = false := by
   cases hb : Nat.beq t d with
   | false => rfl
   | true => exact absurd (Nat.eq_of_beq_eq_true hb) e
  simp [gt, h, e]
def setL (L : SL) : Eff → SL
 | [] => L
 | x :: r => setL (x :: L) r
theorem gt_setL (L : SL) (e : Eff) : gt (setL L e) = app (gt L) e := by
 induction e generalizing L with
 | nil => rfl
 | cons x r ih =>
  obtain ⟨d, y⟩ := x
  unfold setL app
  rw [List.foldl_cons, ih, qH]
  rfl
def opF (P : Program) (pins : List Nat) (tk : Bool) (M : Nat → A) (d : Nat) : Op → Option (Prop × Eff)
 | .move (.tmp s) => match M s with
  | .t (.own E k l) => if tk && decide (s ≠ d) && !pins.contains s then some (True, [(s, .t (.d (.seq k l))), (d, .t (.own E k l))]) else some (True, [(d, .t (.d (.seq k l)))])
  | _ => (valF P M (.move (.tmp s))).map fun y => (True, [(d, y)])
 | .assign (.tmp s) => match M s with
  | .t (.own E k l) => if decide (s ≠ d) && !pins.contains s then some (True, [(s, .t (.d (.seq k l))), (d, .t (.own E k l))]) else some (True, [(d, .t (.d (.seq k l)))])
  | _ => (valF P M (.assign (.tmp s))).map fun y => (True, [(d, y)])
 | .box E x => (zEL (cpO M x)).map fun l => (True, [(d, .box l)])
 | .alloc E => match P.info? E with
  | some i => match i.zero with
   | some z => (zEL (litA z)).map fun l => (True, [(d, .box l)])
   | none => none
  | none => none
 | .buildSlice t n ⟨parts⟩ => match elF P t with
  | some (e, sz, nb) => match zJw M sz 0 parts with
   | some l => if n = parts.length ∧ 0 < parts.length ∧ parts.length * sz ≤ 16777216 then some (True, [(d, .t (.own e sz l))]) else none
   | none => none
  | none => none
 | .convert src dst x => match vO M x, P.underlying src, P.underlying dst with
  | some (.string s), some .string, some (.slice e) => match P.underlying e with
   | some (.int .u8) => some (s.size ≤ maxLen, [(d, .t (.d (.seq 1 (qE s.data.toList))))])
   | _ => none
  | _, _, _ => match slD 1 (dO M x), P.underlying src, P.underlying dst with
   | some l, some (.slice e), some .string => match P.underlying e with
    | some (.int .u8) => some (isB l, [(d, .t (.d (.lit (.string (strD l)))))])
    | _ => none
   | _, _, _ => (valF P M (.convert src dst x)).map fun y => (True, [(d, y)])
 | .slice t x lo hi mx => match bndO M lo, bndO M hi, bndO M mx, P.underlying t with
  | some l0, some h0, some m0, some (.slice e) => match P.info? e with
   | some ie => match slD ie.size (dO M x) with
    | some l => some (cutOK l.length l0 h0 m0, [(d, .t (.d (.seq ie.size (cutL l l0 h0))))])
    | none => none
   | none => none
  | some l0, some h0, some none, some .string => match vO M x, mx with
   | some (.string s), none => some (0 ≤ l0.getD 0 ∧ l0.getD 0 ≤ h0.getD s.size ∧ h0.getD s.size ≤ s.size, [(d, .t (.d (.lit (.string (s.extract (l0.getD 0).toNat (h0.getD s.size).toNat)))))])
   | _, _ => none
  | _, _, _, _ => none
 | .index t x i => match vO M x, vO M i, P.underlying t with
  | some (.string s), some (.int _ n), some .string => some (0 ≤ n ∧ n < s.size, [(d, .t (.d (.lit (.int .u8 ((s.data.toList.getD n.toNat 0).toNat : Int)))))])
  | _, _, _ => none
 | .indexAddr t x i => match vO M i, P.underlying t with
  | some (.int _ n), some (.slice e) => match P.info? e with
   | some ie => match slD ie.size (dO M x) with
    | some l => some (0 ≤ n ∧ n < l.length, [(d, .imm (l.getD n.toNat []))])
    | none => none
   | none => none
  | _, _ => (valF P M (.indexAddr t x i)).map fun y => (True, [(d, y)])
 | .call { callee := .builtin .append, args := ⟨[x, y]⟩, argTypes := ⟨[t, t']⟩ } => if t = t' then match elF P t with
   | some (e, sz, nb) => match slD sz (dO M y) with
    | some l' => match x with
     | .tmp s => match M s with
      | .t (.own e' k l) => if e' = e ∧ k = sz ∧ s ≠ d ∧ pins.contains s = false then some ((l.length + l'.length) * nb ≤ 140737488355328, [(s, .t (.d (.seq sz l))), (d, .t (.own e sz (l ++ l')))]) else none
      | .t (.d (.lit (.slice none 0 0))) => some (l'.length * nb ≤ 140737488355328, [(d, .t (.own e sz l'))])
      | _ => none
     | .const (.slice none 0 0) => some (l'.length * nb ≤ 140737488355328, [(d, .t (.own e sz l'))])
     | _ => none
    | none => none
   | none => none
  else none
 | .build t ⟨parts⟩ => (bdF P M t parts).map fun y => (True, [(d, y)])
 | .load t x => match takenF P tk M d t x with
  | some e => some (True, e)
  | none => (valF P M (.load t x)).map fun y => (True, [(d, y)])
 | op => (valF P M op).map fun y => (True, [(d, y)])
section
variable {P : Program} {pins : List Nat} {N : Nat} {S M : Nat → A}
theorem Mk.get (hM : Mk M S) {s : Nat} {x : A} (h : M s = x) (hx : x ≠ .any) : S s = x := by
 rcases hM s with k | k
 · rw [k] at h; exact absurd h.symm hx
 · rw [← k]; exact h
theorem zG4 {op : Oper} {d : Nat} (hM : Mk M S) (hd : op.dst = some d) (hok : okD N pins S d = true) {C : Prop} {eff : Eff} (h : (valF P M op.op).map (fun y => (True, [(d, y)])) = some (C, eff)) : OpOK P pins N op S (app S eff) := by
 cases hy : valF P M op.op with
 | none => rw [hy] at h; cases h
 | some y =>
  rw [hy] at h
  injection h with h
  injection h with h1 h2
  subst h2
  exact zFE hM hd hok hy
theorem seq_val {d s k E : Nat} {l : List (List D)} {op : Oper} (hM : Mk M S) (hop : op.op = .move (.tmp s) ∨ op.op = .assign (.tmp s)) (hd : op.dst = some d) (hok : okD N pins S d = true) (hs : M s = .t (.own E k l)) : OpOK P pins N op S (upd S d (.t (.d (.seq k l)))) := by
 refine zFE hM hd hok ?_
 rcases hop with e | e <;> (rw [e]; simp [valF, cpO, hs, cpA, cpT])
theorem opF_ok {tk : Bool} {op : Oper} {d : Nat} (hM : Mk M S) (hd : op.dst = some d) (hok : okD N pins S d = true) {C : Prop} {eff : Eff} (h : opF P pins tk M d op.op = some (C, eff)) (hC : C) : OpOK P pins N op S (app S eff) := by
 generalize hop : op.op = o at h
 unfold opF at h
 split at h
 ·
  rename_i s
  split at h
  ·
   rename_i E k l hs
   split at h
   ·
    rename_i hc
    injection h with h; injection h with h1 h2; subst h2
    simp only [Bool.and_eq_true, decide_eq_true_eq, Bool.not_eq_true', List.contains_eq_mem, decide_eq_false_iff_not] at hc
    exact ok_take (.inl hop) hd hok (hM.get hs (by simp)) hc.1.2 hc.2
   ·
    injection h with h; injection h with h1 h2; subst h2
    exact seq_val hM (.inl hop) hd hok hs
  · rw [← hop] at h; exact zG4 hM hd hok h
 ·
  rename_i s
  split at h
  ·
   rename_i E k l hs
   split at h
   ·
    rename_i hc
    injection h with h; injection h with h1 h2; subst h2
    simp only [Bool.and_eq_true, decide_eq_true_eq, Bool.not_eq_true', List.contains_eq_mem, decide_eq_false_iff_not] at hc
    exact ok_take (.inr hop) hd hok (hM.get hs (by simp)) hc.1 hc.2
   ·
    injection h with h; injection h with h1 h2; subst h2
    exact seq_val hM (.inr hop) hd hok hs
  · rw [← hop] at h; exact zG4 hM hd hok h
 ·
  rename_i E x
  cases hl : zEL (cpO M x) with
  | none => rw [hl] at h; cases h
  | some l =>
   rw [hl] at h
   injection h with h; injection h with h1 h2; subst h2
   exact ok_box hM hop hd hok hl
 ·
  rename_i E
  split at h
  case h_2 => cases h
  rename_i i hi
  split at h
  case h_2 => cases h
  rename_i z hz
  cases hl : zEL (litA z) with
  | none => rw [hl] at h; cases h
  | some l =>
   rw [hl] at h
   injection h with h; injection h with h1 h2; subst h2
   exact ok_alloc hop hd hok hi hz hl
 ·
  rename_i t n parts
  split at h
  case h_2 => cases h
  rename_i e sz nb hE
  split at h
  case h_2 => cases h
  rename_i l hl
  split at h
  case isFalse => cases h
  rename_i hc
  injection h with h; injection h with h1 h2; subst h2
  exact ok_bsl hM hop hc.1 hd hok hE hl (List.length_pos_iff.1 hc.2.1) hc.2.2
 ·
  rename_i src dst x
  split at h
  ·
   rename_i s e h1 h2 h3
   split at h
   ·
    rename_i h4
    injection h with h; injection h with h5 h6; subst h5 h6
    exact ok_str hM hop hd hok h2 h3 h4 h1 hC
   · cases h
  ·
   split at h
   ·
    rename_i l e h1 h2 h3
    split at h
    ·
     rename_i h4
     injection h with h; injection h with h5 h6; subst h5 h6
     refine zV fun w0 m0 o0 G a w m o hN I => ?_
     obtain ⟨k1, k2, k3⟩ := qA hok
     refine ⟨.string (strD l), w, m, o, ?_, by rw [hd]; exact I.set d _ _ (by omega) k2 (.lit _ rfl)⟩
     unfold execOp
     rw [hop]
     simp only [Sem.run_bind]
     rw [cvB_run I.sat (zFD h1 fun d hd => zD1 hM I hd) hC h2 h4 h3]
     rfl
    · cases h
   · rw [← hop] at h; exact zG4 hM hd hok h
 ·
  rename_i t x lo hi mx
  split at h
  ·
   rename_i l0 h0 m0 e b1 b2 b3 hu
   split at h
   case h_2 => cases h
   rename_i ie hie
   split at h
   case h_2 => cases h
   rename_i l hl
   injection h with h; injection h with h5 h6; subst h5 h6
   refine zV fun w0 m0' o0 G a w m o hN I => ?_
   obtain ⟨k1, k2, k3⟩ := qA hok
   obtain ⟨kl, e1⟩ := zDQ hM I b1
   obtain ⟨kh, e2⟩ := zDQ hM I b2
   obtain ⟨km, e3⟩ := zDQ hM I b3
   obtain ⟨v', hr, hrep⟩ := cut_run (P := P) I.sat hu hie (zFD hl fun d hd => zD1 hM I hd) hC (kl := kl) (kh := kh) (km := km)
   refine ⟨v', w, m, o, ?_, by rw [hd]; exact I.set d _ _ (by omega) k2 hrep⟩
   unfold execOp
   rw [hop]
   simp only [Sem.run_bind]
   rw [e1, e2, e3, hr]
   rfl
  ·
   rename_i l0 h0 b1 b2 b3 hu
   split at h
   ·
    rename_i s hs
    injection h with h; injection h with h5 h6; subst h5 h6
    refine zV fun w0 m0' o0 G a w m o hN I => ?_
    obtain ⟨k1, k2, k3⟩ := qA hok
    obtain ⟨kl, e1⟩ := zDQ hM I b1
    obtain ⟨kh, e2⟩ := zDQ hM I b2
    have hr := cutS_run (P := P) (w := w) hu s hC.1 hC.2.1 hC.2.2 (kl := kl) (kh := kh)
    refine ⟨_, w, m, o, ?_, by rw [hd]; exact I.set d _ _ (by omega) k2 (.lit (.string _) rfl)⟩
    unfold execOp
    rw [hop]
    simp only [Sem.run_bind]
    rw [e1, e2, zB1 hM I hs]
    show Result.andThen (Sem.run P (Instr.sliceAt t (.string s) _ _ none) w) _ = _
    rw [hr]
    rfl
   · cases h
  · cases h
 ·
  rename_i t x i
  split at h
  ·
   rename_i s k n h1 h2 h3
   injection h with h; injection h with h5 h6; subst h5 h6
   refine zV fun w0 m0' o0 G a w m o hN I => ?_
   obtain ⟨k1, k2, k3⟩ := qA hok
   refine ⟨_, w, m, o, ?_, by rw [hd]; exact I.set d _ _ (by omega) k2 (.lit (.int .u8 _) rfl)⟩
   unfold execOp
   rw [hop]
   simp only [Sem.run_bind]
   rw [zB1 hM I h1, zB1 hM I h2, idxS_run h3 s hC.1 hC.2]
   rfl
  · cases h
 ·
  rename_i t x i
  split at h
  ·
   rename_i kk n e h1 h2
   split at h
   case h_2 => cases h
   rename_i ie h3
   split at h
   case h_2 => cases h
   rename_i l h4
   injection h with h; injection h with h5 h6; subst h5 h6
   refine zFE hM hd hok ?_
   rw [hop]
   show ixF P M t x i = _
   unfold ixF
   simp only [h1, h2, h3, h4]
   rw [if_pos hC]
   have hlt : n.toNat < l.length := by omega
   rw [List.getElem?_eq_getElem hlt, List.getD_eq_getElem?_getD, List.getElem?_eq_getElem hlt]
   rfl
  · rw [← hop] at h; exact zG4 hM hd hok h
 ·
  rename_i x y t t'
  split at h
  case isFalse => cases h
  rename_i e0
  subst e0
  split at h
  case h_2 => cases h
  rename_i e sz nb hE
  split at h
  case h_2 => cases h
  rename_i l' hl'
  split at h
  ·
   rename_i s
   split at h
   ·
    rename_i e' k l hs
    split at h
    case isFalse => cases h
    rename_i hc
    obtain ⟨rfl, rfl, h3, h4⟩ := hc
    injection h with h; injection h with h5 h6; subst h5 h6
    exact ok_app hM hop hd hok hE hs h3 (by simpa using h4) hl' hC
   ·
    rename_i hs
    injection h with h; injection h with h5 h6; subst h5 h6
    exact ok_app0 hM hop hd hok hE (by simp [vO, dO, cpO, hs, cpA, cpT]) hl' hC
   · cases h
  ·
   injection h with h; injection h with h5 h6; subst h5 h6
   exact ok_app0 hM hop hd hok hE rfl hl' hC
  · cases h
 ·
  rename_i t parts
  cases hy : bdF P M t parts with
  | none => rw [hy] at h; cases h
  | some y =>
   rw [hy] at h
   injection h with h; injection h with h5 h6; subst h6
   exact ok_build hM hop hd hok hy
 ·
  rename_i t x
  split at h
  ·
   rename_i e he
   injection h with h; injection h with h5 h6; subst h6
   unfold takenF at he
   split at he
   · cases he
   split at he
   ·
    rename_i b off n hx ht
    split at he
    ·
     rename_i l hb
     split at he
     ·
      rename_i E k ls hl
      split at he
      ·
       rename_i hc
       injection he with he; subst he
       exact zIr hM hop ht hx (hM.get hb (by simp)) hl (by simpa using hc) hd hok
      · cases he
     · cases he
    · cases he
   · cases he
  · rw [← hop] at h; exact zG4 hM hd hok h
 · rw [← hop] at h; exact zG4 hM hd hok h
end
def san : A → A
 | .box l => .box l
 | .free => .free
 | .mp l => .mp l
 | .rcd b u mE oE => .rcd b u mE oE
 | _ => .any
def hx (S : Nat → A) : Nat → A := fun t => match S t with
 | .any => if OB2 ≤ t then (match S HK with | .hp f => san (f (t - OB2)) | _ => .any) else .any
 | x => x
theorem zBq {S : Nat → A} {t : Nat} {x : A} (h : S t = x) (hx' : x ≠ .any) : hx S t = x := by
 unfold hx
 rw [h]
 cases x <;> first | rfl | exact absurd rfl hx'
theorem zDZ {S : Nat → A} {t : Nat} (h : t < OB2) : hx S t = S t := by
 unfold hx
 cases hs : S t <;> first | rfl | (simp only; rw [if_neg (by omega)])
theorem hx_ref {S : Nat → A} {t b off : Nat} (h : hx S t = .ref b off) : S t = .ref b off := by
  unfold hx at h
  cases hs : S t <;> rw [hs] at h <;> first
    | exact h
    | (simp only at h
       split at h
       · cases hk : S HK <;> rw [hk] at h <;> first
           | (cases h; done)
           | (rename_i f; simp only at h; cases hf : f (t - OB2) <;> rw [hf] at h <;> cases h)
       · cases h)
theorem Mk_hx (S : Nat → A) : Mk S (hx S) := fun t => by
 cases hs : S t <;> first | exact .inl rfl | exact .inr (zBq hs (by simp)).symm
theorem Mk.hx {M S : Nat → A} (h : Mk M S) : Mk M (hx S) := fun t => by
 rcases h t with e | e
 · exact .inl e
 ·
  rcases Mk_hx S t with e2 | e2
  · exact .inl (e.trans e2)
  · exact .inr (e.trans e2)
def A.stb : A → Bool
 | .any | .hp _ => false
 | _ => true
def zHX (S : Nat → A) (e : Eff) : Prop := ∀ x ∈ e, x.1 < OB ∨ ((S x.1).stb = true ∧ x.2.stb = true)
theorem zGv {S : Nat → A} {d : Nat} {x : A} (h : d < OB ∨ ((S d).stb = true ∧ x.stb = true)) : hx (upd S d x) = upd (hx S) d x := by
 funext t
 by_cases e : t = d
 ·
  subst e
  rw [zZ]
  rcases h with h | ⟨h1, h2⟩
  · rw [zDZ (by unfold OB at h; unfold OB2; omega), zZ]
  · exact zBq (zZ _ _ _) (by intro e; rw [e] at h2; cases h2)
 ·
  rw [zH e]
  have hk : (match upd S d x HK with | .hp f => san (f (t - OB2)) | _ => .any) = (match S HK with | .hp f => san (f (t - OB2)) | _ => A.any) := by
   by_cases e2 : HK = d
   ·
    subst e2
    rw [zZ]
    rcases h with h | ⟨h1, h2⟩
    · unfold HK OB at h; omega
    · cases hs : S HK <;> rw [hs] at h1 <;> first | (cases h1; done) | (cases x <;> first | rfl | cases h2)
   · rw [zH e2]
  unfold hx
  rw [zH e, hk]
theorem hx_app {S : Nat → A} {e : Eff} (h : zHX S e) : hx (app S e) = app (hx S) e := by
 induction e generalizing S with
 | nil => rfl
 | cons x r ih =>
  obtain ⟨d, y⟩ := x
  have h1 := h (d, y) (by simp)
  show hx (app (upd S d y) r) = app (upd (hx S) d y) r
  rw [ih, zGv h1]
  intro z hz
  rcases h z (List.mem_cons_of_mem _ hz) with h2 | ⟨h2, h3⟩
  · exact .inl h2
  ·
   by_cases e : z.1 = d
   ·
    rcases h1 with h1 | ⟨_, h1⟩
    · exact .inl (by rw [e]; exact h1)
    · exact .inr ⟨by rw [e, zZ]; exact h1, h3⟩
   · exact .inr ⟨by rw [zH e]; exact h2, h3⟩
theorem lt2 {s : Nat} (h : s < OB) : s < OB2 := by unfold OB at h; unfold OB2; omega
def Low (S : Nat → A) : Prop := ∀ t, OB2 ≤ t → S t = .any
theorem Low.upd {S : Nat → A} (h : Low S) {d : Nat} {x : A} (hd : d < OB2) : Low (upd S d x) := fun t ht => by rw [zH (by omega)]; exact h t ht
theorem Low.app {S : Nat → A} (h : Low S) {e : Eff} (he : zHX S e) : Low (app S e) := by
 induction e generalizing S with
 | nil => exact h
 | cons x r ih =>
  obtain ⟨d, y⟩ := x
  have key : ∀ {s : Nat}, s < OB ∨ ((S s).stb = true ∧ y.stb = true) → s < OB2 := fun {s} hs => by
   rcases hs with hs | ⟨hs, _⟩
   · unfold OB at hs; unfold OB2; omega
   ·
    rcases Nat.lt_or_ge s OB2 with h2 | h2
    · exact h2
    · rw [h s h2] at hs; cases hs
  have h1 := key (he (d, y) (by simp))
  refine ih (S := Go.Proofs.Ytjomnccladjpgaa.upd S d y) (h.upd h1) fun z hz => ?_
  rcases he z (List.mem_cons_of_mem _ hz) with h2 | ⟨h2, h3⟩
  · exact .inl h2
  ·
   by_cases e : z.1 = d
   ·
    rcases he (d, y) (by simp) with h1 | ⟨_, h1⟩
    · exact .inl (by rw [e]; exact h1)
    · exact .inr ⟨by rw [e, zZ]; exact h1, h3⟩
   · exact .inr ⟨by rw [zH e]; exact h2, h3⟩
def OpH (P : Program) (pins : List Nat) (N : Nat) (op : Oper) (S S' : Nat → A) : Prop := N ≤ OB → Low S → OpOK P pins N op (hx S) (hx S') ∧ Low S'
section
variable {P : Program} {pins : List Nat} {N : Nat} {S M : Nat → A} {op : Oper} {e : Eff} {d : Nat}
theorem OpOK.lo {S S' : Nat → A} (h : N ≤ OB → OpOK P pins N op S S') : OpOK P pins N op S S' := fun w0 m0 o0 G a w m o hN I => h (by rw [← hN]; exact I.wide) w0 m0 o0 G a w m o hN I
theorem OpH.of (h : N ≤ OB → OpOK P pins N op (hx S) (app (hx S) e) ∧ zHX S e) : OpH P pins N op S (app S e) :=
 fun hN hl => by
  obtain ⟨h1, h2⟩ := h hN
  rw [hx_app h2]
  exact ⟨h1, hl.app h2⟩
theorem qX (hN : N ≤ OB) (h : okD N pins S d = true) : okD N pins (hx S) d = true := by
 have := (qA h).1
 unfold okD at h ⊢
 rw [zDZ (by unfold OB at hN; unfold OB2; omega)]
 exact h
theorem qN (hN : N ≤ OB) (h : okD N pins S d = true) : d < OB := by have := (qA h).1; omega
theorem zBU {x : A} (hd : d < OB) : zHX S [(d, x)] := fun y hy => by
 simp at hy
 subst hy
 exact .inl hd
theorem eff_2 {s : Nat} {x z : A} (hs : (S s).stb = true) (hz : z.stb = true) (hd : d < OB) : zHX S [(s, z), (d, x)] := fun y hy => by
 simp at hy
 rcases hy with rfl | rfl
 · exact .inr ⟨hs, hz⟩
 · exact .inl hd
theorem zG2 {s : Nat} {x : A} (hM : Mk M S) (h : M s = x) (hx' : x.stb = true) : (S s).stb = true := by
 rcases hM s with e | e
 · rw [e] at h; subst h; cases hx'
 · rw [← e, h]; exact hx'
theorem eff_x {s : Nat} {x z : A} {y : Nat × A} (hM : Mk M S) (h : M s = x) (hx' : x.stb = true) (hz : z.stb = true) (hd : d < OB) {u : A} (hy : y ∈ [(s, z), (d, u)]) : y.1 < OB ∨ ((S y.1).stb = true ∧ y.2.stb = true) := eff_2 (zG2 hM h hx') hz hd y hy
theorem opF_eff {tk : Bool} (hM : Mk M S) (hd : d < OB) {o : Op} {C : Prop} {eff : Eff} (h : opF P pins tk M d o = some (C, eff)) : zHX S eff := by
  have key : ∀ {α : Type} {z : Option α} {f : α → A}, (z.map fun y => (True, [(d, f y)])) = some (C, eff) → zHX S eff := by
    intro α z f hz
    cases z with
    | none => cases hz
    | some y => injection hz with hz; injection hz with _ hz; subst hz; exact zBU hd
  unfold opF takenF at h
  repeat' split at h
  all_goals first
    | (cases h; done)
    | exact key (f := id) h
    | exact key h
    | (injection h with h; injection h with _ h; subst h; exact zBU hd)
    | (injection h with h; injection h with _ h; subst h; exact eff_2 (zG2 hM (by assumption) rfl) rfl hd)
    | (rename_i he; repeat' split at he
       all_goals first
         | (cases he; done)
         | (injection h with h; injection h with _ h; injection he with he; subst h he; exact eff_2 (zG2 hM (by assumption) rfl) rfl hd))
theorem stF_eff {t : TypeId} {x y : Operand} (hM : Mk M S) {eff : Eff} (h : stF P pins M t x y = some eff) : zHX S eff := by
  unfold stF at h
  repeat' split at h
  all_goals first
    | (cases h; done)
    | (injection h with h; subst h
       intro z hz
       simp at hz
       first
         | (subst hz; exact .inr ⟨zG2 hM (by assumption) rfl, rfl⟩)
         | (rcases hz with rfl | rfl <;> exact .inr ⟨zG2 hM (by assumption) rfl, rfl⟩))
end
def St (w0 : World) (m0 : Mem) (o0 : OwnM) (G : GD) (pins : List Nat) (N : Nat) (L : SL) (a : Act) (w : World) : Prop :=
 a.tmps.size = N ∧ Low (gt L) ∧ ∃ m o, Inv w0 m0 o0 G pins (hx (gt L)) a w m o
def yes (ops : Array Oper) (op : Oper) (L : SL) (b : Bool) : Prop := match op.guard with
 | none => b = true
 | some (j, want) => ∃ t, (ops[j]?).bind (·.dst) = some t ∧ ((∃ c, gt L t = .t (.d (.lit (.bool c))) ∧ b = (c == want)) ∨ (gt L t = .tup [] ∧ b = false))
def OpY (P : Program) (pins : List Nat) (N : Nat) (op : Oper) (S S' : Nat → A) : Prop := N ≤ OB → Low S → (∀ (F : Fence) (n : Nat), zE2 F → ∀ (w0 : World) (m0 : Mem) (o0 : OwnM) (G : GD) (a : Act) (w : World) (m : Mem) (o : OwnM), a.tmps.size = N → Inv w0 m0 o0 G pins (hx S) a w m o →
  ∀ (K : Act → World → Prop) (Q : Exit → Act → World → Prop), (∀ a' w' m' o', a'.tmps.size = N → Inv w0 m0 o0 G pins (hx S') a' w' m' o' → K a' w') → op.wpIn F n P a w K Q) ∧ Low S'
theorem OpH.y {P : Program} {pins : List Nat} {N : Nat} {op : Oper} {S S' : Nat → A} (h : OpH P pins N op S S') : OpY P pins N op S S' := fun hN hl =>
 ⟨fun F n hF w0 m0 o0 G a w m o hNa I K Q hK => op_in hF ((h hN hl).1 w0 m0 o0 G a w m o hNa I _ _ fun a' w' m' o' hN' I' => ⟨I'.defers.trans I.defers.symm, hK a' w' m' o' hN' I'⟩), (h hN hl).2⟩
def yF (P : Program) (pins : List Nat) (N : Nat) (ops : Array Oper) (Q : SL → Prop) : List Oper → SL → Prop
 | [], L => Q L
 | op :: r, L => ∃ b, yes ops op L b ∧ if b = true then ∃ L', OpY P pins N op (gt L) (gt L') ∧ yF P pins N ops Q r L' else ∃ d, op.dst = some d ∧ okD N pins (gt L) d = true ∧ yF P pins N ops Q r ((d, .tup []) :: L)
section
variable {P : Program} {pins : List Nat} {N : Nat} {ops : Array Oper} {Q : SL → Prop} {r : List Oper} {op : Oper} {L : SL}
theorem ops_no {j t d : Nat} {c want : Bool} (hg : op.guard = some (j, want)) (ht : (ops[j]?).bind (·.dst) = some t) (hc : gt L t = .t (.d (.lit (.bool c)))) (hw : c ≠ want) (hd : op.dst = some d) (hok : okD N pins (gt L) d = true) (k : yF P pins N ops Q r ((d, .tup []) :: L)) : yF P pins N ops Q (op :: r) L :=
 ⟨false, by unfold yes; rw [hg]; exact ⟨t, ht, .inl ⟨c, hc, by simp [hw]⟩⟩, by rw [if_neg (by simp)]; exact ⟨d, hd, hok, k⟩⟩
theorem ops_un {j t d : Nat} {want : Bool} (hg : op.guard = some (j, want)) (ht : (ops[j]?).bind (·.dst) = some t) (hc : gt L t = .tup []) (hd : op.dst = some d) (hok : okD N pins (gt L) d = true) (k : yF P pins N ops Q r ((d, .tup []) :: L)) : yF P pins N ops Q (op :: r) L :=
 ⟨false, by unfold yes; rw [hg]; exact ⟨t, ht, .inr ⟨hc, rfl⟩⟩, by rw [if_neg (by simp)]; exact ⟨d, hd, hok, k⟩⟩
end
section
variable {w0 : World} {m0 : Mem} {o0 : OwnM} {G : GD} {pins : List Nat} {N : Nat} {P : Program}
theorem zG3 {ops : Array Oper} {op : Oper} {L : SL} {b : Bool} {a : Act} {w : World} (hy : yes ops op L b) (hS : St w0 m0 o0 G pins N L a w) : Region.wanted op (yielded ops a.tmps) = b := by
 obtain ⟨hN, hlo, m, o, I⟩ := hS
 unfold yes at hy
 unfold Region.wanted
 split at hy
 ·
  rename_i hg
  rw [hg, hy]
 ·
  rename_i j want hg
  obtain ⟨t, h1, ⟨c, h2, h3⟩ | ⟨h2, h3⟩⟩ := hy
  rotate_left
  ·
   have h4 := I.slots t
   rw [zBq h2 (by simp)] at h4
   obtain ⟨vs, h5, h6, _⟩ := h4
   have h7 : yielded ops a.tmps j = none := by
    unfold yielded
    rw [h1]
    rw [Array.getD_eq_getD_getElem?] at h5
    show (match a.tmps[t]? with | some (.bool b) => some b | _ => none) = none
    cases hq : a.tmps[t]? with
    | none => rfl
    | some q =>
     rw [hq] at h5
     have h5 : q = .tuple vs := h5
     rw [h5]
   rw [hg, h3]
   show (yielded ops a.tmps j == some want) = false
   rw [h7]
   rfl
  rw [hg, h3]
  have h4 := I.slots t
  rw [zBq h2 (by simp)] at h4
  have h5 : a.tmps.getD t undef = .bool c := by
   have h4 : RepD m (.lit (.bool c)) (a.tmps.getD t undef) := h4
   generalize a.tmps.getD t undef = v at h4
   cases h4
   rfl
  have h6 : a.tmps[t]? = some (.bool c) := by
   rw [Array.getD_eq_getD_getElem?] at h5
   cases hq : a.tmps[t]? with
   | none => rw [hq] at h5; cases h5
   | some q => rw [hq] at h5; simpa using h5
  have h7 : yielded ops a.tmps j = some c := by
   unfold yielded
   rw [h1]
   simp [h6]
  show (yielded ops a.tmps j == some want) = (c == want)
  rw [h7]
  cases c <;> cases want <;> rfl
theorem ops_sound {F : Fence} {n : Nat} (hF : zE2 F) {ops : Array Oper} {Q : SL → Prop} {R : Exit → Act → World → Prop} (hQ : ∀ L a w, Q L → St w0 m0 o0 G pins N L a w → R .normal a w) : ∀ (l : List Oper) (L : SL) (a : Act) (w : World), yF P pins N ops Q l L → St w0 m0 o0 G pins N L a w → wpListIn F n P ops R l a w := by
 intro l
 induction l with
 | nil => intro L a w h hS; exact hQ L a w h hS
 | cons op r ih =>
  intro L a w h hS
  obtain ⟨b, hy, hb⟩ := h
  refine wpListIn_step fun K hK => ?_
  rw [zG3 hy hS]
  cases b with
  | true =>
   rw [if_pos rfl] at hb ⊢
   obtain ⟨L', hop, hr⟩ := hb
   obtain ⟨hN, hlo, m, o, I⟩ := hS
   obtain ⟨hop, hlo'⟩ := hop (by rw [← hN]; exact I.wide) hlo
   exact hop F n hF w0 m0 o0 G a w m o hN I _ _ fun a' w' m' o' hN' I' => hK _ _ (ih L' a' w' hr ⟨hN', hlo', m', o', I'⟩)
  | false =>
   rw [if_neg (by simp)] at hb ⊢
   obtain ⟨d, hd, hok, hr⟩ := hb
   obtain ⟨hN, hlo, m, o, I⟩ := hS
   have hNO : N ≤ OB := by rw [← hN]; exact I.wide
   obtain ⟨h1, h2, h3⟩ := qA (qX hNO hok)
   refine ⟨fun f _ => hF.fn f, hK _ _ (ih _ _ w hr ⟨by rw [zA6, hN], by rw [qH]; exact hlo.upd (by have := qN hNO hok; unfold OB at this; unfold OB2; omega), m, o, ?_⟩)⟩
   rw [hd, qH, zGv (.inl (qN hNO hok))]
   exact I.set d (.tup []) undef (by omega) h2 ⟨#[], rfl, rfl, fun j x h => by simp at h⟩
def DK : Nat := 4398046511104
def StX (e : Exit) (w0 : World) (m0 : Mem) (o0 : OwnM) (G : GD) (pins : List Nat) (N : Nat) (L : SL) (a : Act) (w : World) : Prop := match e with
 | .ret => St w0 m0 o0 G pins N L a w ∨ DK ∈ pins ∧ ∃ D, a.defers = { target := .collected D, args := #[] } :: G.ds ∧ w.heap[D]? = some (.deferred (some [])) ∧ w0.heap.size ≤ D ∧ a.tmps.size = N ∧ Low (gt L) ∧ ∃ m o, o D = none ∧ Inv w0 m0 o0 ⟨G.p, a.defers⟩ pins (hx (gt L)) a w m o
 | _ => St w0 m0 o0 G pins N L a w
theorem box_lt : ∀ (args : List A) (i s : Nat), s ∈ zEN i args → s < i + args.length
 | [], i, s, h => by cases h
 | x :: r, i, s, h => by
  have key : s ∈ zEN (i + 1) r → s < i + (x :: r).length := fun h => by
   have := box_lt r (i + 1) s h
   rw [List.length_cons]
   omega
  cases x with
  | box l =>
   rcases List.mem_cons.1 h with rfl | h
   · rw [List.length_cons]; omega
   · exact key h
  | _ => exact key h
theorem box_nodk (args : List A) (h : args.length ≤ OB) : DK ∉ zEN 0 args := fun hm => by
 have := box_lt args 0 DK hm
 unfold DK at this
 unfold OB at h
 omega
theorem StX.st {e : Exit} {w0 : World} {m0 : Mem} {o0 : OwnM} {G : GD} {pins : List Nat} {N : Nat} {L : SL} {a : Act} {w : World} (h : StX e w0 m0 o0 G pins N L a w) (hp : DK ∉ pins) : St w0 m0 o0 G pins N L a w := by
 cases e with
 | ret => exact h.resolve_right fun h => hp h.1
 | _ => exact h
structure WideP (pins : List Nat) (F : Fence) : Prop where
 w : zE2 F
 out : DK ∈ pins → F = Fence.wide
def qI (P : Program) (pins : List Nat) (N : Nat) (c : Code) (Q : Exit → SL → Prop) (L : SL) : Prop :=
 ∀ (Fe : Fence) (ne : Nat), WideP pins Fe → ∀ (w0 : World) (m0 : Mem) (o0 : OwnM) (G : GD) (a : Act) (w : World), St w0 m0 o0 G pins N L a w → c.wpIn Fe ne P (fun e a' w' => ∃ L', Q e L' ∧ StX e w0 m0 o0 G pins N L' a' w') a w
def zEg (K : SL → Prop) (Q : Exit → SL → Prop) : Exit → SL → Prop
 | .normal, L => K L
 | e, L => Q e L
def zFJ (id : Nat) (Q : Exit → SL → Prop) : Exit → SL → Prop
 | .exit id', L => if id' = id then Q .normal L else Q (.exit id') L
 | e, L => Q e L
variable {Q : Exit → SL → Prop} {L : SL}
theorem zL {x y : Code} (h : qI P pins N x (zEg (qI P pins N y Q) Q) L) : qI P pins N (.seq x y) Q L := by
 intro Fe ne hF w0 m0 o0 G a w hS
 refine wpIn_seq (wpIn_mono (h Fe ne hF w0 m0 o0 G a w hS) ?_)
 rintro e a' w' ⟨L', hq, hS'⟩
 cases e <;> first | exact hq Fe ne hF w0 m0 o0 G a' w' hS' | exact ⟨L', hq, hS'⟩
theorem zS {id : Nat} {l : List Oper} (h : yF P pins N l.toArray (Q .normal) l L) : qI P pins N (.region id l.toArray false) Q L := by
 intro Fe ne hF w0 m0 o0 G a w hS
 exact wpIn_region_lit (ops_sound hF.w (fun L a w hq hS => ⟨L, hq, hS⟩) l L a w h hS)
theorem zJ (h : Q .ret L) : qI P pins N .ret Q L := fun Fe ne hF w0 m0 o0 G a w hS => wpIn_ret ⟨L, h, .inl hS⟩
theorem zK (h : Q .normal L) : qI P pins N .skip Q L := fun Fe ne hF w0 m0 o0 G a w hS => wpIn_skip ⟨L, h, hS⟩
theorem zAs {id : Nat} (h : Q (.exit id) L) : qI P pins N (.exit id) Q L := fun Fe ne hF w0 m0 o0 G a w hS => wpIn_exit ⟨L, h, hS⟩
theorem qC {id : Nat} {c : Code} (h : qI P pins N c (zFJ id Q) L) : qI P pins N (.block id c) Q L := by
 intro Fe ne hF w0 m0 o0 G a w hS
 refine wpIn_block (wpIn_mono (h Fe ne hF w0 m0 o0 G a w hS) ?_)
 rintro e a' w' ⟨L', hq, hS'⟩
 cases e with
 | exit id' =>
  simp only [zFJ] at hq
  by_cases e : id' = id
  ·
   rw [if_pos e] at hq
   simp only [Exit.inBlock]
   rw [if_pos e]
   exact ⟨L', hq, hS'⟩
  ·
   rw [if_neg e] at hq
   simp only [Exit.inBlock]
   rw [if_neg e]
   exact ⟨L', hq, hS'⟩
 | _ => exact ⟨L', hq, hS'⟩
theorem zJM {c : Nat} {x y : Code} {b : Bool} (hc : gt L c = .t (.d (.lit (.bool b)))) (hx : b = true → qI P pins N x Q L) (hy : b = false → qI P pins N y Q L) : qI P pins N (.cond (.tmp c) x y) Q L := by
 intro Fe ne hF w0 m0 o0 G a w hS
 have hS2 := hS
 obtain ⟨hN, hlo, m, o, I⟩ := hS
 have h4 := I.slots c
 rw [zBq hc (by simp)] at h4
 have h5 : a.eval (.tmp c) = .bool b := by
  have h4 : RepD m (.lit (.bool b)) (a.tmps.getD c undef) := h4
  show a.tmps.getD c undef = _
  generalize a.tmps.getD c undef = v at h4
  cases h4
  rfl
 exact wpIn_cond_split h5 (fun h => hx h Fe ne hF w0 m0 o0 G a w hS2) (fun h => hy h Fe ne hF w0 m0 o0 G a w hS2)
theorem zIh {c : Code} (R : Nat → SL → Prop) (n0 : Nat) (h0 : R n0 L) (round : ∀ n L, R n L → qI P pins N c (zEg (fun L' => ∃ n' L2, n' < n ∧ R n' L2 ∧ ∀ w0 m0 o0 G a w, St w0 m0 o0 G pins N L' a w → St w0 m0 o0 G pins N L2 a w) Q) L) : qI P pins N (.loop c) Q L := by
 intro Fe ne hF w0 m0 o0 G a w hS
 have key : ∀ k n L a w, n ≤ k → R n L → St w0 m0 o0 G pins N L a w → Code.roundsIn Fe ne P c (fun e a' w' => ∃ L', Q e L' ∧ StX e w0 m0 o0 G pins N L' a' w') (k + 1) a w := by
  intro k
  induction k with
  | zero =>
   intro n L a w hn hR hS
   refine wpIn_mono (round n L hR Fe ne hF w0 m0 o0 G a w hS) ?_
   rintro e a' w' ⟨L', hq, hS'⟩
   cases e with
   | normal =>
    obtain ⟨n', L2, hlt, _⟩ := hq
    omega
   | _ => exact ⟨L', hq, hS'⟩
  | succ k ih =>
   intro n L a w hn hR hS
   refine wpIn_mono (round n L hR Fe ne hF w0 m0 o0 G a w hS) ?_
   rintro e a' w' ⟨L', hq, hS'⟩
   cases e with
   | normal =>
    obtain ⟨n', L2, hlt, hR', hw⟩ := hq
    exact ih n' L2 a' w' (by omega) hR' (hw _ _ _ _ _ _ hS')
   | _ => exact ⟨L', hq, hS'⟩
 exact wpIn_loop_rounds _ (key n0 n0 L a w (Nat.le_refl _) h0 hS)
def zBx : Nat → List A → SL
 | _, [] => []
 | i, x :: r => (i, x) :: zBx (i + 1) r
theorem zFT : ∀ (args : List A) (i s : Nat), gt (zBx i args) s = if i ≤ s then argS args (s - i) else .any
 | [], i, s => by
  unfold zBx gt argS
  split <;> simp
 | x :: r, i, s => by
  unfold zBx
  rw [qH, upd, zFT r (i + 1) s]
  by_cases h : s = i
  ·
   subst h
   simp [argS]
  ·
   by_cases h2 : i ≤ s
   ·
    rw [if_neg h, if_pos (by omega), if_pos h2]
    unfold argS
    rw [show s - i = (s - (i + 1)) + 1 by omega]
    simp
   · rw [if_neg h, if_neg (by omega), if_neg h2]
def resT (P : Program) (S : Nat → A) : ResultVar → Option T
 | .tmp t => match S t with
  | .t x => some (cpT x)
  | .ref b off => if OB ≤ b then some (.ptr (b - OB) off) else none
  | _ => none
 | .cell b t => match S b, tyA P t with
  | .box l, some (true, n) => if n = l.length ∧ noPt l = true ∧ b < OB then some (.agg (l.map toD)) else none
  | .box l, some (false, _) => if b < OB then (l[0]?).map cpT else none
  | _, _ => none
def resA (P : Program) (S : Nat → A) : List ResultVar → Option A
 | [.tmp t] => some (S t)
 | [r] => (resT P S r).map .t
 | rs => (rs.mapM (resT P S)).map .tup
def resS (tmps : Array Value) : ResultVar → Sem Value
 | .tmp t => pure (tmps.getD t undef)
 | .cell b t => do loadVar t (← asAddr (tmps.getD b undef))
theorem zHH {S : Nat → A} {a : Act} {w : World} {m0 m : Mem} {o0 o : OwnM} {w0 : World} {G : GD} {pins : List Nat} (I : Inv w0 m0 o0 G pins S a w m o) {r : ResultVar} {x : T} (h : resT P S r = some x) (loc : Nat × Nat) :
  ∃ v, (resS a.tmps r).run P w = .ok v w ∧ RepT m w o loc x v := by
 cases r with
 | tmp t =>
  unfold resT at h
  simp only at h
  have hs := I.slots t
  split at h
  ·
   rename_i y hy
   injection h with h
   subst h
   rw [hy] at hs
   exact ⟨_, rfl, zC1 I.sat hs⟩
  ·
   rename_i b off hy
   split at h
   case isFalse => cases h
   rename_i hb
   injection h with h
   subst h
   rw [hy] at hs
   obtain ⟨g, h1, h2, _⟩ := hs
   exact ⟨_, rfl, g, by rw [show OB + (b - OB) = b by omega]; exact h1, h2⟩
  · cases h
 | cell b t =>
  have hcp : ∀ l, S b = .box l → b < OB → cpO S (.tmp b) = .ref b 0 := by
   intro l hb hbO
   unfold cpO
   simp only [hb]
   rw [show Nat.blt b OB = true by simpa using hbO]
   rfl
  unfold resT at h
  simp only at h
  have hs := I.slots b
  split at h
  ·
   rename_i l n hb ht
   split at h
   ·
    rename_i hn
    obtain ⟨hn, hpt, hbO⟩ := hn
    injection h with h
    subst h hn
    have hld : ldF P S t (.tmp b) = some (.t (.agg (l.map toD))) := by
     unfold ldF
     simp only [hcp l hb hbO, hb, ht]
     rw [if_pos (by simpa using hpt), if_pos ⟨trivial, trivial⟩]
    obtain ⟨v, h1, h2⟩ := zIz (P := P) (Mk.refl S) I hld loc.1
    rw [hb] at hs
    obtain ⟨g, hv, _⟩ := hs
    have hv := hv hbO
    have h2 : RepT m w o (loc.1, 0) (.agg (l.map toD)) v := h2
    refine ⟨v, ?_, h2⟩
    rw [show a.eval (.tmp b) = _ from hv] at h1
    simp only [resS, hv, asAddr, Sem.run_bind, Sem.run_pure, Result.andThen_ok]
    simpa [Instr.loadAt, Instr.sureAddr] using h1
   · cases h
  ·
   rename_i l n hb ht
   split at h
   case isFalse => cases h
   rename_i hbO
   cases hd : l[0]? with
   | none => rw [hd] at h; cases h
   | some z =>
    rw [hd] at h
    injection h with h
    subst h
    have hld : ldF P S t (.tmp b) = some (norA z) := by
     unfold ldF
     simp only [hcp l hb hbO, hb, ht, hd]
     rfl
    obtain ⟨v, h1, h2⟩ := zIz (P := P) (Mk.refl S) I hld loc.1
    rw [hb] at hs
    obtain ⟨g, hv, _⟩ := hs
    have hv := hv hbO
    refine ⟨v, ?_, ?_⟩
    ·
     rw [show a.eval (.tmp b) = _ from hv] at h1
     simp only [resS, hv, asAddr, Sem.run_bind, Sem.run_pure, Result.andThen_ok]
     simpa [Instr.loadAt, Instr.sureAddr] using h1
    ·
     cases z with
     | ptr j off => obtain ⟨g', k1, k2, _⟩ := h2; exact ⟨g', k1, k2⟩
     | _ => exact h2
  · cases h
theorem zHY {S : Nat → A} {a : Act} {w : World} {m0 m : Mem} {o0 o : OwnM} {w0 : World} {G : GD} {pins : List Nat} (I : Inv w0 m0 o0 G pins S a w m o) (ρ : Nat) : ∀ (rs : List ResultVar) (l : List T) (n : Nat), rs.mapM (resT P S) = some l →
  ∃ vs : List Value, (rs.mapM (resS a.tmps)).run P w = .ok vs w ∧ vs.length = l.length ∧ l.length = rs.length ∧ ∀ (j : Nat) (x : T), l[j]? = some x → ∃ u, vs[j]? = some u ∧ RepT m w o (ρ, n + j) x u
 | [], l, n, h => by
  simp at h
  subst h
  exact ⟨[], rfl, rfl, rfl, fun j x hj => by simp at hj⟩
 | r :: rs, l, n, h => by
  simp only [List.mapM_cons, Option.bind_eq_bind, Option.pure_def] at h
  cases h1 : resT P S r with
  | none => rw [h1] at h; cases h
  | some x =>
   cases h2 : rs.mapM (resT P S) with
   | none => rw [h1, h2] at h; cases h
   | some t =>
    rw [h1, h2] at h
    injection h with h
    subst h
    obtain ⟨v, h3, h4⟩ := zHH (P := P) I h1 (ρ, n)
    obtain ⟨vs, h5, h6, h8, h7⟩ := zHY I ρ rs t (n + 1) h2
    refine ⟨v :: vs, ?_, by simp [h6], by simp [h8], fun j y hj => ?_⟩
    ·
     rw [List.mapM_cons, Sem.run_bind]
     rw [h3, Result.andThen_ok, Sem.run_bind, h5, Result.andThen_ok]
     rfl
    ·
     cases j with
     | zero => injection hj with hj; subst hj; exact ⟨v, rfl, h4⟩
     | succ j =>
      obtain ⟨u, k1, k2⟩ := h7 j y (by simpa using hj)
      exact ⟨u, by simpa using k1, by rw [show n + (j + 1) = n + 1 + j by omega]; exact k2⟩
theorem resT_hx {S : Nat → A} {r : ResultVar} {x : T} (h : resT P S r = some x) : resT P (hx S) r = some x := by
 cases r with
 | tmp t =>
  unfold resT at h ⊢
  simp only at h ⊢
  cases hs : S t <;> rw [hs] at h <;> first | (cases h; done) | (rw [zBq hs (by simp)]; exact h)
 | cell b t =>
  unfold resT at h ⊢
  simp only at h ⊢
  cases hs : S b <;> rw [hs] at h <;> first | (split at h <;> first | (cases h; done) | (rename_i e _; cases e; done)) | (rw [zBq hs (by simp)]; exact h)
theorem zJd {S : Nat → A} : ∀ (rs : List ResultVar) (l : List T), rs.mapM (resT P S) = some l → rs.mapM (resT P (hx S)) = some l
 | [], l, h => h
 | r :: rs, l, h => by
  simp only [List.mapM_cons, Option.bind_eq_bind, Option.pure_def] at h ⊢
  cases h1 : resT P S r with
  | none => rw [h1] at h; cases h
  | some x =>
   cases h2 : rs.mapM (resT P S) with
   | none => rw [h1, h2] at h; cases h
   | some t =>
    rw [resT_hx h1, zJd rs t h2]
    rw [h1, h2] at h
    exact h
theorem resA_hx {S : Nat → A} {rs : List ResultVar} {y : A} (h : resA P S rs = some y) : ∃ y', resA P (hx S) rs = some y' ∧ (y' = y ∨ y = .any) := by
 unfold resA at h ⊢
 split at h
 ·
  rename_i t
  injection h with h
  refine ⟨hx S t, rfl, ?_⟩
  rcases Mk_hx S t with e | e
  · exact .inr (h.symm.trans e)
  · exact .inl (e.symm.trans h)
 ·
  rename_i r _
  cases hx : resT P S r with
  | none => rw [hx] at h; cases h
  | some x => rw [hx] at h; exact ⟨y, by simp only [resT_hx hx]; exact h, .inl rfl⟩
 ·
  cases hx : rs.mapM (resT P S) with
  | none => rw [hx] at h; cases h
  | some l => rw [hx] at h; exact ⟨y, by simp only [zJd rs l hx]; exact h, .inl rfl⟩
theorem fresh_nat (l : List Nat) : ∃ z : Nat, z ∉ l := by
 have : ∃ z, ∀ x ∈ l, x < z := by
  induction l with
  | nil => exact ⟨0, fun x h => by cases h⟩
  | cons y r ih =>
   obtain ⟨z, hz⟩ := ih
   refine ⟨max z (y + 1), fun x hx => ?_⟩
   rcases List.mem_cons.1 hx with rfl | hx
   · omega
   · have := hz x hx; omega
 obtain ⟨z, hz⟩ := this
 exact ⟨z, fun h => absurd (hz z h) (by omega)⟩
theorem resA_run {S : Nat → A} {a : Act} {w : World} {m0 m : Mem} {o0 o : OwnM} {w0 : World} {G : GD} {pins : List Nat} (I : Inv w0 m0 o0 G pins S a w m o) {fn : Func} {rs : List ResultVar} (hrs : fn.results = rs.toArray) {y : A} (h : resA P S rs = some y) (outs : List Nat) (hout : ∀ t, rs = [.tmp t] → t ∉ outs) :
  ∃ v ρ, (results fn a.tmps).run P w = .ok v w ∧ RepA m w o S ρ y v ∧ ρ ∉ outs := by
 obtain ⟨z, hz⟩ : ∃ z : Nat, z ∉ outs := fresh_nat outs
 have many : ∀ l, rs.mapM (resT P S) = some l → rs.length ≠ 1 → ∃ v ρ, (results fn a.tmps).run P w = .ok v w ∧ RepA m w o S ρ (.tup l) v ∧ ρ ∉ outs := by
  intro l hl hne
  obtain ⟨vs, h5, h6, h8, h7⟩ := zHY (P := P) I z rs l 1 hl
  have hlen : vs.length ≠ 1 := by omega
  refine ⟨.tuple vs.toArray, z, ?_, ⟨vs.toArray, rfl, by simpa using h6, fun j x hj => ?_⟩, hz⟩
  ·
   show (do let vs ← fn.results.mapM (resS a.tmps); pure (if h : vs.size = 1 then vs[0] else .tuple vs) : Sem Value).run P w = _
   rw [hrs, Sem.run_bind, List.mapM_toArray, Sem.run_map, h5, Result.andThen_ok, Result.andThen_ok, Sem.run_pure]
   rw [dif_neg (by simpa using hlen)]
  ·
   obtain ⟨u, k1, k2⟩ := h7 j x hj
   exact ⟨u, by simpa using k1, by rw [Nat.add_comm]; exact k2⟩
 have one : ∀ r x, rs = [r] → resT P S r = some x → ∃ v ρ, (results fn a.tmps).run P w = .ok v w ∧ RepA m w o S ρ (.t x) v ∧ ρ ∉ outs := by
  intro r x e hx
  subst e
  obtain ⟨v, h3, h4⟩ := zHH (P := P) I hx (z, 0)
  refine ⟨v, z, ?_, h4, hz⟩
  show (do let vs ← fn.results.mapM (resS a.tmps); pure (if h : vs.size = 1 then vs[0] else .tuple vs) : Sem Value).run P w = _
  rw [hrs, Sem.run_bind, List.mapM_toArray, Sem.run_map, List.mapM_cons, Sem.run_bind, h3]
  simp
 unfold resA at h
 split at h
 ·
  rename_i t
  injection h with h
  subst h
  exact ⟨_, t, results_tmp hrs _ _ _, I.slots t, hout t rfl⟩
 ·
  rename_i r _
  cases hx : resT P S r with
  | none => rw [hx] at h; cases h
  | some x =>
   rw [hx] at h
   injection h with h
   subst h
   exact one r x rfl hx
 ·
  rename_i h1 h2
  cases hx : rs.mapM (resT P S) with
  | none => rw [hx] at h; cases h
  | some l =>
   rw [hx] at h
   injection h with h
   subst h
   refine many l hx fun e => ?_
   match rs, e with
   | [r], _ => exact h2 r rfl
def frL : List Nat → SL
 | [] => []
 | j :: r => (OB + j, .free) :: frL r
def zFs (fr : List Nat) (args : List A) : SL := frL fr ++ zBx 0 args
theorem zGS (fr : List Nat) (args : List A) (s : Nat) : gt (zFs fr args) s = argS args s ∨ (OB ≤ s ∧ gt (zFs fr args) s = .free) := by
 unfold zFs
 induction fr with
 | nil => refine .inl ?_; show gt (zBx 0 args) s = _; rw [zFT]; simp
 | cons j r ih =>
  show gt ((OB + j, .free) :: (frL r ++ zBx 0 args)) s = _ ∨ (_ ∧ gt ((OB + j, .free) :: (frL r ++ zBx 0 args)) s = _)
  rw [qH, upd]
  by_cases h : s = OB + j
  · rw [if_pos h]; exact .inr ⟨by omega, rfl⟩
  · rw [if_neg h]; exact ih
def endQ (P : Program) (rs : List ResultVar) (outs : List (Nat × List T)) (r : A) : Exit → SL → Prop
 | .normal, L | .ret, L => (∃ y, resA P (gt L) rs = some y ∧ WkA y r) ∧ ∀ x ∈ outs, gt L x.1 = .box x.2
 | _, _ => False
theorem zHF {fr : List Nat} {args : List A} {n : Nat} (hn : args.length ≤ n) (hw : n ≤ OB) (hfr : fr.all (fun j => Nat.blt j OB) = true) : Low (gt (zFs fr args)) := by
 intro t ht
 unfold zFs
 induction fr with
 | nil =>
  show gt (zBx 0 args) t = _
  rw [zFT, if_pos (Nat.zero_le _)]
  unfold argS
  rw [List.getD_eq_getElem?_getD, List.getElem?_eq_none (by unfold OB2 at ht; unfold OB at hw; omega)]
  rfl
 | cons j r ih =>
  simp only [List.all_cons, Bool.and_eq_true] at hfr
  show gt ((OB + j, .free) :: (frL r ++ zBx 0 args)) t = _
  have h1 : j < OB := by simpa using hfr.1
  rw [qH, zH (by unfold OB at *; unfold OB2 at ht; omega)]
  exact ih hfr.2
theorem hx_none {S : Nat → A} (h : ∀ f, S HK ≠ .hp f) : hx S = S := by
 funext t
 unfold hx
 cases hs : S t <;> try rfl
 cases hk : S HK <;> first | (simp; done) | exact absurd hk (h _)
theorem fc_of {f : FuncId} {fn : Func} {c : Code} {args : List A} {rs : List ResultVar} {outs : List (Nat × List T)} {r : A} (hf : P.funcs[f]? = some fn) (hb : fn.body = some c) (hn : args.length ≤ fn.ntmps) (hres : fn.results = rs.toArray) (hout : (match rs with | [.tmp t] => outs.all fun x => x.1 != t | _ => true) = true) (hw : fn.ntmps ≤ OB) (fr : List Nat) (hfr : fr.all (fun j => Nat.blt j OB) = true) (hc : qI P (zEN 0 args) fn.ntmps c (endQ P rs outs r) (zFs fr args)) : FC P f args outs r := by
 intro w m o vals hsat htbl hlt hinj hsz hrep
 refine calls_of_wp hf hb (wpIn_wide.1 (wpIn_mono (hc Fence.wide 0 ⟨.wide, fun _ => rfl⟩ w m o ⟨fun g => o g ≠ none, []⟩ _ w ⟨?_, ?_, m, o, ?_⟩) ?_))
 · simp [hsz]; omega
 · exact zHF hn hw hfr
 ·
  refine ⟨Same.refl _ _, hsat, Mle.refl _, fun _ _ _ => rfl, fun g l h => .inl (by show o g ≠ none; rw [h]; simp), fun g l h => (hlt g l h).1, hinj, fun s hs g hg => hg, fun s => ?_, rfl, htbl, by simp [hsz]; omega, fun g j h => absurd (hlt g _ h).2 (by show ¬ OB + j < OB; omega)⟩
  have hget : (vals ++ Array.replicate (fn.ntmps - vals.size) undef).getD s undef = vals.getD s undef := by
   simp only [Array.getD_eq_getD_getElem?, Array.getElem?_append, Array.getElem?_replicate]
   by_cases h : s < vals.size
   · simp [h]
   ·
    rw [if_neg h, Array.getElem?_eq_none (by omega)]
    split <;> rfl
  rw [hx_none fun f he => ?hk]
  case hk =>
   rcases zGS fr args HK with e | ⟨_, e⟩
   ·
    rw [e] at he
    unfold argS at he
    rw [List.getD_eq_getElem?_getD, List.getElem?_eq_none (by unfold HK; unfold OB at hw; omega)] at he
    cases he
   · rw [e] at he; cases he
  show RepA m w o (gt (zFs fr args)) s (gt (zFs fr args) s) ((vals ++ Array.replicate (fn.ntmps - vals.size) undef).getD s undef)
  rw [hget]
  rcases zGS fr args s with e | ⟨e1, e2⟩
  ·
   rw [e]
   have h := hrep s
   cases hx : argS args s with
   | ref b off =>
    rw [hx] at h
    obtain ⟨g, h1, h2, h3⟩ := h
    refine ⟨g, h1, h2, fun hb => ?_⟩
    rcases zGS fr args b with e | ⟨e1, _⟩
    · rw [e]; exact h3 hb
    · omega
   | _ => rw [hx] at h; exact h
  ·
   rw [e2]
   intro g k hg
   have := (hlt g _ hg).2
   omega
 ·
  rintro e a' w' ⟨L', hq, hS⟩
  obtain ⟨hN, _, m', o', I⟩ := hS.st (box_nodk args (by omega))
  have fin : ((∃ y, resA P (gt L') rs = some y ∧ WkA y r) ∧ ∀ x ∈ outs, gt L' x.1 = .box x.2) → a'.defers = [] ∧ ∃ v, (results fn a'.tmps).run P w' = .ok v w' ∧ ∃ (u : Value) (m' : Mem) (o' : OwnM) (S' : Nat → A) (a' : Act) (ρ : Nat), Ending.returned v = .returned u ∧ Inv w m o ⟨fun g => o g ≠ none, []⟩ (zEN 0 args) S' a' w' m' o' ∧ RepA m' w' o' S' ρ r u ∧ ∀ i l, (i, l) ∈ outs → S' i = .box l ∧ i ≠ ρ := by
   rintro ⟨⟨y, hy, hw⟩, ho⟩
   obtain ⟨y', hy', hyy⟩ := resA_hx hy
   obtain ⟨v, ρ, h1, h2, h3⟩ := resA_run (P := P) I hres hy' (outs.map (·.1)) (fun t ht hm => by
    subst ht
    obtain ⟨x, hx, rfl⟩ := List.mem_map.1 hm
    have := List.all_eq_true.1 hout x hx
    simp at this)
   exact ⟨I.defers, v, h1, v, m', o', hx (gt L'), a', ρ, rfl, I, hw.rep I.sat (by rcases hyy with rfl | rfl; exact h2; exact trivial), fun i l h => ⟨zBq (ho (i, l) h) (by simp), fun e => h3 (by rw [← e]; exact List.mem_map.2 ⟨(i, l), h, rfl⟩)⟩⟩
  cases e <;> first | exact fin hq | exact hq.elim
end
end Go.Proofs.Ytjomnccladjpgaa

/-
 A call that is handed what slot s owns: a slice that may grow, or the address of a variable.
-/
namespace Go.Proofs.Ytjomnccladjpgaa
open Go Go.RowKit
set_option linter.unusedVariables false
section
variable {w0 : World} {m0 : Mem} {o0 : OwnM} {G : GD} {pins : List Nat} {S M : Nat → A} {a : Act} {w : World} {m : Mem} {o : OwnM} {P : Program}
theorem zJ7 (hM : Mk M S) (I : Inv w0 m0 o0 G pins S a w m o) : ∀ (xs : List Operand) (args : List A), zCw (xs.map (cpO M)) args → (xs.map a.eval).length = args.length ∧ ∀ (i : Nat) (x : A), args[i]? = some x → ∃ s, RepA m w o S s x ((xs.map a.eval).getD i undef) := by
 intro xs
 induction xs with
 | nil => intro args h; cases h; exact ⟨rfl, fun i x h => by simp at h⟩
 | cons y ys ih =>
  intro args h
  cases h with
  | cons hx ht =>
   obtain ⟨k1, k2⟩ := ih _ ht
   refine ⟨by simpa using k1, fun i x hi => ?_⟩
   cases i with
   | zero => injection hi with hi; subst hi; exact ⟨0, hx.rep I.sat (qG hM I y 0)⟩
   | succ i => simpa using k2 i x (by simpa using hi)
end
end Go.Proofs.Ytjomnccladjpgaa

/-
 The rules of the walk over data, as a proof uses them: each side condition is closed by rfl.
-/
namespace Go.Proofs.Ytjomnccladjpgaa
open Go Go.RowKit
set_option linter.unusedVariables false
section
variable {P : Program} {pins : List Nat} {N : Nat} {ops : Array Oper} {Q : SL → Prop} {r : List Oper} {op : Oper} {L L' : SL}
theorem o_no {d j t : Nat} {c want : Bool} (hg : op.guard = some (j, want)) (ht : (ops[j]?).bind (·.dst) = some t) (hc : gt L t = .t (.d (.lit (.bool c)))) (hw : c = !want) (hd : op.dst = some d) (hok : okD N pins (gt L) d = true) (hL : (d, .tup []) :: L = L') (k : yF P pins N ops Q r L') : yF P pins N ops Q (op :: r) L := by
 subst hL
 exact ops_no hg ht hc (by rw [hw]; cases want <;> simp) hd hok k
theorem zB (h : Q L) : yF P pins N ops Q [] L := h
theorem yG {K : SL → Prop} {Q : Exit → SL → Prop} (h : K L) : zEg K Q .normal L := h
theorem zCH {K : SL → Prop} {Q : Exit → SL → Prop} {i : Nat} (h : Q (.exit i) L) : zEg K Q (.exit i) L := h
theorem zI6 {K : SL → Prop} {Q : Exit → SL → Prop} (h : Q .ret L) : zEg K Q .ret L := h
theorem zAl {i : Nat} {Q : Exit → SL → Prop} (h : Q .normal L) : zFJ i Q .normal L := h
theorem zBR {i : Nat} {Q : Exit → SL → Prop} (h : Q .normal L) : zFJ i Q (.exit i) L := by
 show if i = i then _ else _
 rw [if_pos rfl]
 exact h
theorem zBO {i j : Nat} {Q : Exit → SL → Prop} (hne : (j == i) = false) (h : Q (.exit j) L) : zFJ i Q (.exit j) L := by
 show if j = i then _ else _
 rw [if_neg (by simpa using hne)]
 exact h
theorem zDl {f : FuncId} {fn : Func} {c : Code} {args : List A} {rs : List ResultVar} {y : A} {n : Nat} {L : SL} (hf : P.funcs[f]? = some fn) (hb : fn.body = some c) (hn : fn.ntmps = n) (hle : args.length ≤ n) (hres : fn.results = rs.toArray) (hpins : (zEN 0 args, Nat.ble n OB) = (pins, true)) (hL : zBx 0 args = L) (hc : qI P pins n c (endQ P rs [] y) L) : FC P f args [] y := by
 injection hpins with hpins hw
 subst hn hpins hL
 exact fc_of hf hb hle hres (by split <;> rfl) (Nat.le_of_ble_eq_true hw) [] rfl hc
theorem end0 {rs : List ResultVar} {r y : A} (h : resA P (gt L) rs = some y) (hw : WkA y r) : endQ P rs [] r .ret L := ⟨⟨y, h, hw⟩, fun x hx => by cases hx⟩
end
def WkS (L : SL) : SL → Prop
 | [] => True
 | (s, y) :: r => WkA (gt L s) y ∧ WkS L r
theorem WkS.get {L : SL} : ∀ {F : SL}, WkS L F → ∀ s, WkA (gt L s) (gt F s)
 | [], _, s => .any _
 | (t, y) :: r, h, s => by
  rw [qH, upd]
  by_cases e : s = t
  ·
   subst e
   rw [if_pos rfl]
   exact h.1
  ·
   rw [if_neg e]
   exact WkS.get h.2 s
def zDE (L0 : SL) : SL → Bool
 | [] => true
 | (_, x) :: r => (match x with | .ref b _ => (gt L0 b).isBox | _ => true) && zDE L0 r
def zEq (L : SL) : Bool := zDE L L
def wkOK (_ F : SL) : Bool := zEq F
theorem gt_refIn {L0 l : SL} (h : zDE L0 l = true) {s b off : Nat} (hs : gt l s = .ref b off) : (gt L0 b).isBox = true := by
 induction l with
 | nil => cases hs
 | cons x r ih =>
  obtain ⟨t, y⟩ := x
  simp only [zDE, Bool.and_eq_true] at h
  rw [qH, upd] at hs
  split at hs
  · subst hs; exact h.1
  · exact ih h.2 hs
section
variable {P : Program} {pins : List Nat} {N : Nat} {Q : Exit → SL → Prop} {L L' : SL}
theorem WkA.of_any {y : A} (h : WkA .any y) : y = .any := by cases h <;> rfl
theorem St.weaken {w0 : World} {m0 : Mem} {o0 : OwnM} {G : GD} {a : Act} {w : World} (hS : St w0 m0 o0 G pins N L a w) (hw : WkS L L') (hr : wkOK L L' = true) : St w0 m0 o0 G pins N L' a w := by
 obtain ⟨hN, hlow, m, o, I⟩ := hS
 refine ⟨hN, fun t ht => by have := hw.get t; rw [hlow t ht] at this; exact this.of_any, m, o, I.same, I.sat, I.mono, I.old, I.own, I.lt, I.inj, I.pinned, fun s => ?_, I.defers, I.tbl, I.wide, I.shps⟩
 unfold wkOK at hr
 have hs := I.slots s
 rcases Nat.lt_or_ge s OB2 with hlt | hge
 ·
  rw [zDZ hlt] at hs ⊢
  have h1 := (hw.get s).rep I.sat hs
  revert h1
  cases hx1 : gt L' s with
  | ref b off =>
   rintro ⟨g, h1, h2, _⟩
   have hb := gt_refIn hr hx1
   cases hl : gt L' b with
   | box l => exact ⟨g, h1, h2, fun _ => ⟨l, zBq hl (by simp)⟩⟩
   | _ => rw [hl] at hb; cases hb
  | _ => exact fun h => h
 ·
  have hL := hlow s hge
  cases hx1 : gt L' s with
  | any =>
   unfold hx
   rw [hx1]
   simp only
   rw [if_pos hge]
   cases hk : gt L' HK with
   | hp f =>
    have h2 := hw.get HK
    rw [hk] at h2
    have h3 : gt L HK = .hp f := by
     revert h2
     generalize gt L HK = y
     intro h2
     cases h2
     rfl
    have h4 : hx (gt L) s = san (f (s - OB2)) := by
     unfold hx
     rw [hL]
     simp only
     rw [if_pos hge, h3]
    rw [h4] at hs
    simp only
    revert hs
    cases f (s - OB2) <;> exact fun h => h
   | _ => trivial
  | _ =>
   have h2 := hw.get s
   rw [hL, hx1] at h2
   cases h2
theorem c_less {c : Code} (L' : SL) (hw : WkS L L') (hr : wkOK L L' = true) (h : qI P pins N c Q L') : qI P pins N c Q L :=
 fun Fe ne hF w0 m0 o0 G a w hS => h Fe ne hF w0 m0 o0 G a w (hS.weaken hw hr)
theorem c_round {X : Type} {c : Code} (F : X → SL) (I : X → Prop) (μ : X → Nat) (x0 : X) (h0 : I x0) (hw : WkS L (F x0)) (hr : wkOK L (F x0) = true)
  (round : ∀ x, I x → qI P pins N c (zEg (fun L' => ∃ x', I x' ∧ μ x' < μ x ∧ WkS L' (F x') ∧ wkOK L' (F x') = true) Q) (F x)) : qI P pins N (.loop c) Q L := by
 refine c_less _ hw hr (zIh (fun n L => ∃ x, I x ∧ μ x = n ∧ L = F x) (μ x0) ⟨x0, h0, rfl, rfl⟩ ?_)
 rintro n L ⟨x, hI, rfl, rfl⟩
 intro Fe ne hF w0 m0 o0 G a w hS
 refine wpIn_mono (round x hI Fe ne hF w0 m0 o0 G a w hS) ?_
 rintro e a' w' ⟨L', hq, hS'⟩
 refine ⟨L', ?_, hS'⟩
 cases e with
 | normal =>
  obtain ⟨x', hI', hlt, hw', hr'⟩ := hq
  exact ⟨μ x', F x', hlt, ⟨x', hI', rfl, rfl⟩, fun _ _ _ _ _ _ h => h.weaken hw' hr'⟩
 | _ => exact hq
theorem c_cut {X : Type} {x y : Code} (F : X → SL) (I : X → Prop) (h : qI P pins N x (zEg (fun L' => ∃ x', I x' ∧ WkS L' (F x') ∧ wkOK L' (F x') = true) Q) L) (h2 : ∀ x', I x' → qI P pins N y Q (F x')) : qI P pins N (.seq x y) Q L := by
 refine zL fun Fe ne hF w0 m0 o0 G a w hS => wpIn_mono (h Fe ne hF w0 m0 o0 G a w hS) ?_
 rintro e a' w' ⟨L', hq, hS'⟩
 cases e with
 | normal =>
  obtain ⟨x', hI, hw, hr⟩ := hq
  exact ⟨F x', h2 x' hI, hS'.weaken hw hr⟩
 | _ => exact ⟨L', hq, hS'⟩
end
end Go.Proofs.Ytjomnccladjpgaa

/-
 A law for a region that draws its order: one condition on what has been listed, shown anew behind each operation, once an operation (not once an order).
-/
namespace Go.Proofs.Ytjomnccladjpgaa
open Go Go.RowKit
variable {F : Fence} {n : Nat} {P : Program} {ops : Array Oper} {Q : Exit → Act → World → Prop}
def zJ6 (n : Nat) (L : Array Bool) : Nat := ((List.range n).filter fun j => !L.getD j true).length
theorem left_set {n i : Nat} {L : Array Bool} (hi : i < n) (h : L.getD i true = false) : zJ6 n (L.setIfInBounds i true) < zJ6 n L := by
 unfold zJ6
 have hs : ((List.range n).filter fun j => !(L.setIfInBounds i true).getD j true) = ((List.range n).filter fun j => !L.getD j true).filter (fun j => j != i) := by
  rw [List.filter_filter]
  refine List.filter_congr fun j _ => ?_
  by_cases hj : i = j
  ·
   subst hj
   have hlt : i < L.size := by
    rcases Nat.lt_or_ge i L.size with g | g
    · exact g
    · rw [Array.getD_eq_getD_getElem?, Array.getElem?_eq_none (by omega)] at h; cases h
   simp [Array.getD_eq_getD_getElem?, hlt]
  ·
   rw [getD_set_ne true hj]
   have : (j != i) = true := by simpa using Ne.symm hj
   simp [this]
 rw [hs]
 have hm : i ∈ (List.range n).filter fun j => !L.getD j true := List.mem_filter.2 ⟨List.mem_range.2 hi, by rw [h]; rfl⟩
 generalize ((List.range n).filter fun j => !L.getD j true) = l at hm
 clear hs
 induction l with
 | nil => cases hm
 | cons y r ih =>
  by_cases hy : y = i
  ·
   subst hy
   simp
   exact Nat.lt_succ_of_le (List.length_filter_le _ _)
  ·
   have h2 : i ∈ r := by
    cases hm with
    | head => exact absurd rfl hy
    | tail _ h => exact h
   have := ih h2
   simp [hy] at this ⊢
   exact this
theorem wpAny_inv {J : Array Bool → Act → World → Prop}
  (step : ∀ i o L a w, J L a w → ops[i]? = some o → L.getD i true = false → (∀ e ∈ o.after, Region.binds .any e = true → L.getD e.on false = true) → wpOpIn F n P ops Q i (fun a' w' => J (L.setIfInBounds i true) a' w') a w)
  (done : ∀ L a w, J L a w → Region.ready .any ops L = [] → Q .normal a w) :
  ∀ (fuel : Nat) (L : Array Bool) (a : Act) (w : World), J L a w → zJ6 ops.size L ≤ fuel → wpAnyIn F n P .any ops Q fuel L a w := by
 intro fuel
 induction fuel with
 | zero =>
  intro L a w hJ hl
  have hr : Region.ready .any ops L = [] := by
   rw [List.eq_nil_iff_forall_not_mem]
   intro j hj
   obtain ⟨h1, o, ho, _⟩ := mem_ready.1 hj
   have hlt : j < ops.size := (Array.getElem?_eq_some_iff.1 ho).1
   have hm : j ∈ (List.range ops.size).filter fun j => !L.getD j true := List.mem_filter.2 ⟨List.mem_range.2 hlt, by rw [h1]; rfl⟩
   have : 0 < zJ6 ops.size L := List.length_pos_of_mem hm
   omega
  exact ⟨hr, done L a w hJ hr⟩
 | succ fuel ih =>
  intro L a w hJ hl
  refine ⟨fun hr => done L a w hJ hr, fun i hi => ?_⟩
  obtain ⟨h1, o, ho, hd⟩ := mem_ready.1 hi
  have hlt : i < ops.size := (Array.getElem?_eq_some_iff.1 ho).1
  refine wpOpIn_mono (fun a' w' h => ih _ a' w' h ?_) (step i o L a w hJ ho h1 hd)
  have := left_set hlt h1
  omega
theorem zJp {J : Array Bool → Act → World → Prop} {id : Nat} {a : Act} {w : World} (hm : P.follows .mixedOrders = true)
  (h0 : J (Array.replicate ops.size false) a w.drew)
  (step : ∀ i o L a w, J L a w → ops[i]? = some o → L.getD i true = false → (∀ e ∈ o.after, Region.binds .any e = true → L.getD e.on false = true) → wpOpIn F n P ops Q i (fun a' w' => J (L.setIfInBounds i true) a' w') a w)
  (done : ∀ L a w, J L a w → Region.ready .any ops L = [] → Q .normal a w) : (Code.region id ops true).wpIn F n P Q a w := by
 refine wpIn_region_any hm (wpAny_inv step done _ _ _ _ h0 ?_)
 unfold zJ6
 exact Nat.le_trans (List.length_filter_le _ _) (by simp)
def backB (ops : Array Oper) : Bool := (List.range ops.size).all fun i => match ops[i]? with | some o => o.after.all fun e => !Region.binds .any e || decide (e.on < i) | none => true
theorem zJt {L : Array Bool} (hb : backB ops = true) (hL : L.size = ops.size) (hr : Region.ready .any ops L = []) : ∀ i, i < ops.size → L.getD i true = true := by
 intro i
 induction i using Nat.strongRecOn with
 | _ i ih =>
  intro hi
  cases h : L.getD i true with
  | true => rfl
  | false =>
   exfalso
   have hm : i ∈ Region.ready .any ops L := by
    refine mem_ready.2 ⟨h, ops[i], Array.getElem?_eq_getElem hi, fun e he hbd => ?_⟩
    unfold backB at hb
    have := List.all_eq_true.1 hb i (List.mem_range.2 hi)
    rw [Array.getElem?_eq_getElem hi] at this
    have := Array.all_eq_true_iff_forall_mem.1 this e he
    have hlt : e.on < i := by simpa [hbd] using this
    have := ih e.on hlt (by omega)
    rw [Array.getD_eq_getD_getElem?, Array.getElem?_eq_getElem (by omega)] at this ⊢
    exact this
   rw [hr] at hm
   cases hm
end Go.Proofs.Ytjomnccladjpgaa
