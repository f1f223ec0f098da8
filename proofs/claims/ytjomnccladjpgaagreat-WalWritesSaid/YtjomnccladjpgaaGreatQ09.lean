/-
  Texts joined: see the remark at the head of each part.
-/
import Derived.Test.YtjomnccladjpgaaGreatQ08
import Derived.Test.YtjomnccladjpgaaGreatQ07
import Derived.Test.YtjomnccladjpgaaGreatQ00
import Derived.Test.YtjomnccladjpgaaGreatQ04
import Derived.Test.YtjomnccladjpgaaGreatProg
set_option linter.unusedVariables false
set_option linter.unusedSimpArgs false
/-
 Calls that only look at what is handed over; slices of slices of objects; own slices in the heap's cells; cells told otherwise.
-/
namespace Go.Proofs.YtjomnccladjpgaaGreat
open Go Go.RowKit
set_option linter.unusedVariables false
section
variable {w0 : World} {m0 : Mem} {o0 : OwnM} {G : GD} {pins : List Nat} {S M : Nat → A} {a : Act} {w : World} {m : Mem} {o : OwnM} {P : Program} {N : Nat} {op : Oper} {d c : Nat} {f f' : Nat → A}
def vwsO (M : Nat → A) : Nat → List (Nat × Operand) → Option (List T)
 | _, [] => some []
 | n, (i, x) :: r => if i = n then match cpO M x, vwsO M (n + 1) r with
   | .t (.view j off E k q), some t => some (.view j off E k q :: t)
   | _, _ => none
  else none
theorem zKZ (hM : Mk M S) (I : Inv w0 m0 o0 G pins S a w m o) : ∀ (n : Nat) (parts : List (Nat × Operand)) (l : List T), vwsO M n parts = some l →
  (parts.map fun x => (x.1, a.eval x.2)) = ((parts.map fun x => a.eval x.2).zipIdx n).map (fun x => (x.2, x.1)) ∧ (∀ v ∈ parts.map (fun x => a.eval x.2), v.cells = #[v] ∧ v.oneCell' = true) ∧ l.length = parts.length ∧
   ∀ (i : Nat) (x : T), l[i]? = some x → ∃ u, (parts.map fun x => a.eval x.2)[i]? = some u ∧ ∃ j off E k q, x = .view j off E k q ∧ RepT m w o (0, 0) x u
 | n, [], l, h => by
  injection h with h
  subst h
  exact ⟨rfl, by simp, rfl, fun i x h => by simp at h⟩
 | n, (i, x) :: r, l, h => by
  unfold vwsO at h
  split at h
  case isFalse => cases h
  rename_i e
  subst e
  split at h
  ·
   rename_i j off E k q t hx ht
   injection h with h
   subst h
   obtain ⟨h1, h2, h3, h4⟩ := zKZ hM I (i + 1) r t ht
   have hxr := qS hM I x 0
   rw [hx] at hxr
   have hxr : RepT m w o (0, 0) (.view j off E k q) (a.eval x) := hxr
   obtain ⟨A', c', k1, k2, k3, k4⟩ := id hxr
   refine ⟨by simp [h1, List.zipIdx_cons], fun v hv => ?_, by simp [h3], fun p y hp => ?_⟩
   ·
    simp only [List.map_cons, List.mem_cons] at hv
    rcases hv with rfl | hv
    · rw [k3]; exact ⟨rfl, rfl⟩
    · exact h2 v hv
   ·
    cases p with
    | zero =>
     injection hp with hp
     subst hp
     exact ⟨_, rfl, j, off, E, k, q, rfl, hxr⟩
    | succ p => simpa using h4 p y (by simpa using hp)
  · cases h
theorem ok_bsv (hM : Mk M S) {t e nb n : Nat} {parts : List (Nat × Operand)} (hop : op.op = .buildSlice t n parts.toArray) (hn : n = parts.length) (hd : op.dst = some d) (hok : okD N pins S d = true) (hE : elF P t = some (e, 1, nb)) {l : List T} (h : vwsO M 0 parts = some l) (hne : parts ≠ []) (hb : parts.length ≤ 16777216) : OpOK P pins N op S (upd S d (.lst l)) := by
 subst hn
 refine zW fun w0 m0 o0 G a w m o hN I => ?_
 obtain ⟨h1, h2, h3⟩ := qH hok
 have E := zH3 hE
 obtain ⟨i, z, hi, hz, hsz, rfl, hzs⟩ := E.info
 obtain ⟨k1, k2, k3, k4⟩ := zKZ hM I 0 parts l h
 have hlen : (parts.map fun x => a.eval x.2).length = parts.length := by simp
 have hpos : 0 < parts.length := List.length_pos_iff.2 hne
 have hflat : ∀ (vs : List Value), (∀ v ∈ vs, v.cells = #[v] ∧ v.oneCell' = true) → vs.flatMap (fun v => v.cells.toList) = vs := by
  intro vs
  induction vs with
  | nil => intro _; rfl
  | cons v r ih =>
   intro hv
   rw [List.flatMap_cons, (hv v (by simp)).1, ih fun x hx => hv x (by simp [hx])]
   rfl
 have hrun := run_buildSlice (P := P) w t e parts.length (parts.map fun x => (x.1, a.eval x.2)).toArray _ i z E.under hi hz (by first | omega | (rw [hsz]; omega)) (by first | omega | (rw [hsz]; omega)) (by
  rw [show (parts.map fun x => (x.1, a.eval x.2)).toArray.toList = _ from k1]
  exact Great.fill_whole (by rw [hsz]; omega) _ _ (fun v hv => by rw [(k2 v hv).1, hsz]; rfl) (by rw [hlen]; simp))
 rw [hflat _ k2] at hrun
 generalize hvs : (parts.map fun x => a.eval x.2) = vs at hrun k2 k4 hlen
 refine ⟨.slice (some ⟨w.heap.size, 0, none⟩) parts.length parts.length, w.alloc (.cells vs.toArray e), newM m w.heap.size (fun p => vs[p]?), o, ?_, ?_⟩
 ·
  unfold execOp
  rw [hop]
  simp only [List.map_toArray, Sem.run_bind]
  rw [hrun]
  rfl
 rw [hd]
 have hlt : ∀ {b p u}, m b p = some u → b < w.heap.size := fun {b p u} hu => by
  have := World.block_lt_of_cell? w _ (I.sat b p u hu)
  simpa using this
 have hold : ∀ g, g < w.heap.size → (w.alloc (.cells vs.toArray e)).heap[g]? = w.heap[g]? := fun g hg => (Same.alloc (fun _ => False) w (.cells vs.toArray e)).block g hg id
 refine I.put d (.lst l) _ (by omega) h2 ?_ (I.same.trans ((Same.alloc (fun _ => False) w _).weaken fun _ h => h.elim)) ?_ (zHE I (Nat.le_refl _) _) (fun b hb => ?_) (fun g hg => hold g hg) ?_
 ·
  refine ⟨w.heap.size, parts.length, by rw [k3], by omega, by unfold maxLen; omega, fun q x hq => ?_⟩
  obtain ⟨u, z1, j, off, E1, k, n, rfl, z2⟩ := k4 q x hq
  exact ⟨u, by rw [zBt]; exact z1, zDK (loc := (0, 0)) (fun _ _ h => h) (fun g j hg => .of_lt fun _ => hold g (I.lt g _ hg)) z2⟩
 ·
  intro b p u hu
  unfold newM at hu
  split at hu
  ·
   rename_i e2
   subst e2
   rw [cell_of_row _ w.heap.size p vs.toArray e _ (heap_alloc_new w _)]
   simpa using hu
  ·
   rw [World.cell?_of_block (w := w) (hold b (hlt hu))]
   exact I.sat b p u hu
 ·
  funext p
  unfold newM
  rw [if_neg (by omega)]
 · simp
theorem h_bsv (hM : Mk M S) {t e nb n : Nat} {parts : List (Nat × Operand)} (hop : op.op = .buildSlice t n ⟨parts⟩) (hn : n = parts.length) (hd : op.dst = some d) (hok : okD N pins S d = true) (hE : elF P t = some (e, 1, nb)) {l : List T} (h : vwsO M 0 parts = some l) (hne : (!parts.isEmpty && Nat.ble parts.length 16777216) = true) : OpH P pins N op S (app S [(d, .lst l)]) := by
 simp only [Bool.and_eq_true] at hne
 exact .of (e := [(d, _)]) fun hN => ⟨ok_bsv hM.hx hop hn hd (yM hN hok) hE h (fun e => by rw [e] at hne; cases hne.1) (by simpa using hne.2), zB3 (qX hN hok)⟩
def zG1 (w : World) : Mem := fun b p => w.cell? ⟨b, p, none⟩
inductive BorD (B : Nat → List T → Prop) : T → D → Prop
 | d (x : D) : BorD B (.d x) x
 | nil (k : Nat) : BorD B (.d (.lit (.slice none 0 0))) (.seq k [])
 | own (E k : Nat) (l : List (List D)) : BorD B (.own E k l) (.seq k l)
 | vw {j off E k n : Nat} {l : List T} {rs : List (List D)} (hb : B j l) (hr : ∀ r ∈ rs, r.length = k) (hn : rs.length = n) (hl : (l.drop off).take (n * k) = (rs.flatMap id).map .d) : BorD B (.view j off E k n) (.seq k rs)
 | hv {c off E k n : Nat} {l : List T} {rs : List (List D)} (hb : B (OB + c) l) (hr : ∀ r ∈ rs, r.length = k) (hn : rs.length = n) (hl : (l.drop off).take (n * k) = (rs.flatMap id).map .d) : BorD B (.hvw c off E k n) (.seq k rs)
inductive BorL (B : Nat → List T → Prop) : List T → List (List D) → Prop
 | nil : BorL B [] []
 | cons {x : T} {y : D} {l : List T} {r : List (List D)} (h : BorD B x y) (t : BorL B l r) : BorL B (x :: l) ([y] :: r)
inductive BorA (B : Nat → List T → Prop) : A → A → Prop
 | d {x : T} {y : D} (h : BorD B x y) : BorA B (.t x) (.t (.d y))
 | lst {l : List T} {rs : List (List D)} (h : BorL B l rs) : BorA B (.lst l) (.t (.d (.seq 1 rs)))
 | pl {x : A} (h : x.plain = true) : BorA B x x
inductive zHS (B : Nat → List T → Prop) : List A → List A → Prop
 | nil : zHS B [] []
 | cons {x y : A} {l l' : List A} (h : BorA B x y) (t : zHS B l l') : zHS B (x :: l) (y :: l')
theorem zFI (I : Inv w0 m0 o0 G pins S a w m o) : Mle m (zG1 w) := fun b p u h => I.sat b p u h
theorem bor_vw (I : Inv w0 m0 o0 G pins S a w m o) {j off E k n : Nat} {l : List T} {rs : List (List D)} (hb : S (OB + j) = .box l) (hr : ∀ r ∈ rs, r.length = k) (hn : rs.length = n) (hl : (l.drop off).take (n * k) = (rs.flatMap id).map .d) {loc : Nat × Nat} {v : Value} (h : RepT m w o loc (.view j off E k n) v) : RepD (zG1 w) (.seq k rs) v := by
 obtain ⟨A', q, h1, h2, rfl, h4⟩ := h
 subst hn
 have hs := I.slots (OB + j)
 rw [hb] at hs
 obtain ⟨g, _, p1, p2, cs, E2, p3, p4, p5⟩ := hs
 refine .seq k rs A' q g off (fun i q => (cs[off + i * k + q]?).getD undef) h1 h2 (fun hne => ?_) (fun i r hi => hr r (List.mem_of_getElem? hi)) (fun i r q dd hi hq => ?_) (fun i r q dd hi hq => ?_)
 ·
  obtain ⟨g', cs', E', q1, q2, _⟩ := h4.resolve_left fun e => by have := List.length_pos_iff.2 hne; omega
  have := I.inj _ _ _ p1 q1
  subst this
  exact q2
 all_goals
  have hrl := hr r (List.mem_of_getElem? hi)
  have hqk : q < k := by rw [← hrl]; exact (List.getElem?_eq_some_iff.1 hq).1
  have hir : i < rs.length := (List.getElem?_eq_some_iff.1 hi).1
  have hc : ((rs.flatMap id).map T.d)[i * k + q]? = some (.d dd) := by rw [List.getElem?_map, zD1 hr hi hqk, hq]; rfl
  have hlt : i * k + q < rs.length * k := mul_lt hir hqk
  rw [← hl, List.getElem?_take, if_pos hlt, List.getElem?_drop, ← Nat.add_assoc] at hc
  obtain ⟨_, u, k1, k2⟩ := p5 _ _ hc
 ·
  show w.cell? ⟨g, off + i * k + q, none⟩ = some ((cs[off + i * k + q]?).getD undef)
  rw [cell_of_row w g _ cs E2 _ p3, k1]
  rfl
 ·
  rw [k1]
  exact RepD.mono (zFI I) k2
theorem BorD.rep (I : Inv w0 m0 o0 G pins S a w m o) {x : T} {y : D} {B : Nat → List T → Prop} (hB : ∀ j l, B j l → S (OB + j) = .box l) (h : BorD B x y) {loc : Nat × Nat} {v : Value} (hr : RepT m w o loc x v) : RepD (zG1 w) y v := by
 cases h with
 | d x => exact RepD.mono (zFI I) hr
 | nil k =>
  have hr : RepD m (.lit (.slice none 0 0)) v := hr
  cases hr
  exact RepD.nilSeq _ k
 | own E k l => exact RepD.mono (zFI I) (zEl I.sat hr)
 | vw hb h1 hn hl => exact bor_vw I (hB _ _ hb) h1 hn hl hr
 | @hv c off E k n l rs hb h1 hn hl => exact bor_vw (j := OB + c) I (hB _ _ hb) h1 hn hl (loc := loc) hr
theorem BorL.get {B : Nat → List T → Prop} {l : List T} {rs : List (List D)} (h : BorL B l rs) : rs.length = l.length ∧ ∀ (i : Nat) (r : List D), rs[i]? = some r → ∃ x y, l[i]? = some x ∧ r = [y] ∧ BorD B x y := by
 induction h with
 | nil => exact ⟨rfl, fun i r h => by simp at h⟩
 | cons h t ih =>
  refine ⟨by simp [ih.1], fun i r hi => ?_⟩
  cases i with
  | zero => injection hi with hi; exact ⟨_, _, rfl, hi.symm, h⟩
  | succ i => simpa using ih.2 i r (by simpa using hi)
theorem BorA.rep (I : Inv w0 m0 o0 G pins S a w m o) {x y : A} {B : Nat → List T → Prop} (hB : ∀ j l, B j l → S (OB + j) = .box l) (h : BorA B x y) {s : Nat} {v : Value} (hr : RepA m w o S s x v) (S' : Nat → A) (s' : Nat) : RepA (zG1 w) w (fun _ => none) S' s' y v := by
 cases h with
 | d h => exact h.rep I hB (loc := (s, 0)) hr
 | pl h =>
  cases x with
  | t x => cases x with
   | d x => exact RepD.mono (zFI I) hr
   | agg l => obtain ⟨vs, e, k⟩ := hr; exact ⟨vs, e, k.mono (zFI I)⟩
   | _ => cases h
  | imm l =>
   obtain ⟨g, p, e, k⟩ := hr
   exact ⟨g, p, e, fun j d hj => let ⟨u, k1, k2⟩ := k j d hj; ⟨u, zFI I _ _ _ k1, k2.mono (zFI I)⟩⟩
  | any => trivial
  | _ => cases h
 | @lst l rs h =>
  obtain ⟨g, cap, rfl, h1, h2, h3⟩ := hr
  obtain ⟨k1, k2⟩ := h.get
  show RepD (zG1 w) (.seq 1 rs) _
  rw [← k1]
  refine .seq 1 rs _ cap g 0 (fun i q => (w.cell? ⟨g, i, none⟩).getD undef) (by omega) h2 (fun _ => rfl) (fun i r hi => ?_) (fun i r q dd hi hq => ?_) (fun i r q dd hi hq => ?_)
  ·
   obtain ⟨x, y, _, rfl, _⟩ := k2 i r hi
   rfl
  all_goals
   obtain ⟨x, y, q1, rfl, q2⟩ := k2 i r hi
   have hq0 : q = 0 ∧ dd = y := by
    cases q with
    | zero => injection hq with hq; exact ⟨rfl, hq.symm⟩
    | succ q => simp at hq
   obtain ⟨rfl, rfl⟩ := hq0
   obtain ⟨u, z1, z2⟩ := h3 i x q1
   have hcell := I.sat _ _ _ z1
  ·
   show w.cell? ⟨g, 0 + i * 1 + 0, none⟩ = some ((w.cell? ⟨g, i, none⟩).getD undef)
   rw [show 0 + i * 1 + 0 = i by omega, hcell]
   rfl
  ·
   show RepD (zG1 w) dd ((w.cell? ⟨g, i, none⟩).getD undef)
   rw [hcell]
   exact q2.rep I hB z2
theorem zHS.rep (hM : Mk M S) (I : Inv w0 m0 o0 G pins S a w m o) {B : Nat → List T → Prop} (hB : ∀ j l, B j l → S (OB + j) = .box l) : ∀ (xs : List Operand) (args : List A), zHS B (xs.map (cpO M)) args → (xs.map a.eval).length = args.length ∧ ∀ (i : Nat) (x : A), args[i]? = some x → ∀ S' s', RepA (zG1 w) w (fun _ => none) S' s' x ((xs.map a.eval).getD i undef)
 | [], args, h => by cases h; exact ⟨rfl, fun i x h => by simp at h⟩
 | x :: r, args, h => by
  cases h with
  | cons h t =>
   obtain ⟨k1, k2⟩ := zHS.rep hM I hB r _ t
   refine ⟨by simp [← k1], fun i y hi S' s' => ?_⟩
   cases i with
   | zero =>
    injection hi with hi
    subst hi
    exact h.rep I hB (qS hM I x 0) S' s'
   | succ i => simpa using k2 i y (by simpa using hi) S' s'
def A.isLits : A → Bool
 | .t (.d (.lit _)) => true
 | .tup l => l.all fun x => match x with | .d (.lit _) => true | _ => false
 | _ => false
theorem lits_rep {r : A} (h : r.isLits = true) {m : Mem} {w w' : World} {o o' : OwnM} {S S' : Nat → A} {s s' : Nat} {v : Value} (hr : RepA m w o S s r v) (m' : Mem) : RepA m' w' o' S' s' r v := by
 cases r with
 | t x => cases x with
  | d x => cases x with
   | lit u => cases hr; exact .lit _ (by assumption)
   | _ => cases h
  | _ => cases h
 | tup l =>
  obtain ⟨vs, e, h1, h2⟩ := hr
  refine ⟨vs, e, h1, fun j x hj => ?_⟩
  obtain ⟨u, k1, k2⟩ := h2 j x hj
  have := List.all_eq_true.1 h x (List.mem_of_getElem? hj)
  refine ⟨u, k1, ?_⟩
  cases x with
  | d x => cases x with
   | lit u => cases k2; exact .lit _ (by assumption)
   | _ => cases this
  | _ => cases this
 | _ => cases h
theorem zI0 (I : Inv w0 m0 o0 G pins S a w m o) {fn : FuncId} {args : List A} {r : A} (hf : FC P fn args [] r) {vals : Array Value} (hv : vals.size = args.length) (hr : ∀ i x, args[i]? = some x → ∀ S' s', RepA (zG1 w) w (fun _ => none) S' s' x (vals.getD i undef)) :
  Calls P fn vals w fun e w' => ∃ (u : Value) (m' : Mem) (o' : OwnM) (S' : Nat → A) (a' : Act) (ρ : Nat), e = .returned u ∧ Inv w (zG1 w) (fun _ => none) ⟨fun g => (fun _ => none : OwnM) g ≠ none, []⟩ (zER 0 args) S' a' w' m' o' ∧ RepA m' w' o' S' ρ r u ∧ ∀ (i : Nat) (l : List T), (i, l) ∈ ([] : List (Nat × List T)) → S' i = .box l ∧ i ≠ ρ :=
 hf w (zG1 w) (fun _ => none) vals (fun _ _ _ h => h) ((I.tbl.trans I.mono).trans (zFI I)) (fun _ _ h => by cases h) (fun _ _ _ h => by cases h) hv (fun s => by
  unfold argS
  rw [List.getD_eq_getElem?_getD]
  cases hx : args[s]? with
  | none => trivial
  | some x => exact hr s x hx _ _)
theorem call_lits (I : Inv w0 m0 o0 G pins S a w m o) {fn : FuncId} {args : List A} {r : A} (hf : FC P fn args [] r) (hl : r.isLits = true) {vals : Array Value} (hv : vals.size = args.length) (hr : ∀ i x, args[i]? = some x → ∀ S' s', RepA (zG1 w) w (fun _ => none) S' s' x (vals.getD i undef))
  {d : Nat} (hd : d < a.tmps.size) (hbox : (S d).isBox = false) :
  Calls P fn vals w fun e w' => ∃ u, e = .returned u ∧ Inv w0 m0 o0 G pins (upd S d r) (a.put (some d) u) w' m o := by
 refine (zI0 I hf hv hr).mono ?_
 rintro e w' ⟨u, m', o', S', a', ρ, rfl, J, hr, _⟩
 have hS : Same (fun _ => False) w w' := J.same.weaken fun g h => h rfl
 refine ⟨u, rfl, I.put d r u hd hbox (lits_rep hl hr m) (I.same.trans (hS.weaken fun _ h => h.elim)) (fun b p v h => ?_) (Mle.refl _) (fun _ _ => rfl) (fun g hg => hS.block g hg id) hS.size⟩
 have hb : b < w.heap.size := by
  have := World.block_lt_of_cell? w _ (I.sat b p v h)
  simpa using this
 rw [World.cell?_of_block (w := w) (hS.block b hb id)]
 exact I.sat b p v h
theorem call_lobj (I : Inv w0 m0 o0 G pins S a w m o) {f : FuncId} {args : List A} {E k j : Nat} {rs : List (List D)} (hf : FC P f args [] (.t (.own E k rs))) {vals : Array Value} (hv : vals.size = args.length) (hr : ∀ i x, args[i]? = some x → ∀ S' s', RepA (zG1 w) w (fun _ => none) S' s' x (vals.getD i undef))
  {d : Nat} (hd : d < a.tmps.size) (hdO : d < OB) (hbox : (S d).isBox = false) (hfree : S (OB + j) = .free) (hne : rs ≠ []) (hk : 0 < k) (hlit : ∀ r ∈ rs, ∀ x ∈ r, x.isLit = true) :
  Calls P f vals w fun e w' => ∃ u o', e = .returned u ∧ Inv w0 m0 o0 G pins (upd (upd S (OB + j) (.box ((rs.flatMap id).map .d))) d (.t (.view j 0 E k rs.length))) (a.put (some d) u) w' m o' := by
 refine (zI0 I hf hv hr).mono ?_
 rintro e w' ⟨u, m', o', S', a', ρ, rfl, J, hr, _⟩
 have hS : Same (fun _ => False) w w' := J.same.weaken fun g h => h rfl
 have hnew : ∀ g l, o' g = some l → w.heap.size ≤ g := fun g l h => (J.own g l h).resolve_left fun h => h rfl
 have hlow : ∀ b p u, m b p = some u → b < w.heap.size := fun b p u h => by
  have := World.block_lt_of_cell? w _ (I.sat b p u h)
  simpa using this
 obtain ⟨A', cap, xs, rfl, hown, hblk, hwid, hel⟩ := hr
 have hlen0 : rs.length ≠ 0 := fun e => hne (List.eq_nil_of_length_eq_zero e)
 obtain ⟨g, cap', cur, e1, -, hg, hcap, hmax, hsz, htk⟩ := hown.2.resolve_left fun h => hlen0 h.2
 injection e1 with e1 _ e2
 subst e1 e2
 obtain ⟨ho', hmg⟩ := hblk g rfl
 have hgn := hnew g _ ho'
 have J1 := I.put (w' := w') (m' := m) d .any (.slice (some ⟨g, 0, none⟩) rs.length cap) hd hbox trivial (I.same.trans (hS.weaken fun _ h => h.elim)) (fun b p v h => by
  have hb := hlow b p v h
  rw [World.cell?_of_block (w := w) (hS.block b hb id)]
  exact I.sat b p v h) (Mle.refl _) (fun _ _ => rfl) (fun g hg => hS.block g hg id) hS.size
 have hrl : ∀ r ∈ rs, r.length = k := fun r hr => by
  obtain ⟨i, hi⟩ := List.getElem?_of_mem hr
  exact hwid i r hi
 have hlen : ((rs.flatMap id).map T.d).length = rs.length * k := by rw [List.length_map, zFT hrl]
 have J2 := J1.adopt (j := j) (g := g) (l := (rs.flatMap id).map T.d) (cs := cur) (cs' := cur) (E := E) (by rw [zK (by omega)]; exact hfree) hg rfl (by
  cases h : o g with
  | none => rfl
  | some l => exact absurd (I.lt g l h) (by omega)) (.inr (Nat.le_trans I.same.size hgn)) (fun p => by
  cases h : m g p with
  | none => rfl
  | some u => exact absurd (hlow g p u h) (by omega)) (by rw [hlen, hsz]; exact Nat.mul_le_mul_right _ hcap) (fun i x hi => by
  have hlt : i < rs.length * k := by rw [← hlen]; exact (List.getElem?_eq_some_iff.1 hi).1
  have hi1 : i / k < rs.length := Nat.div_lt_of_lt_mul (by rw [Nat.mul_comm]; exact hlt)
  have hi2 : i % k < k := Nat.mod_lt _ hk
  have he : i / k * k + i % k = i := by rw [Nat.mul_comm]; exact Nat.div_add_mod i k
  obtain ⟨r, hr⟩ : ∃ r, rs[i / k]? = some r := ⟨_, List.getElem?_eq_getElem hi1⟩
  have hrm := List.mem_of_getElem? hr
  obtain ⟨dd, hdd⟩ : ∃ dd, r[i % k]? = some dd := ⟨_, List.getElem?_eq_getElem (by rw [hrl r hrm]; exact hi2)⟩
  have h2 := zD1 hrl hr hi2
  rw [he, hdd] at h2
  rw [List.getElem?_map, h2] at hi
  injection hi with hi
  subst hi
  obtain ⟨u, k1, k2⟩ := hel _ r _ dd hr hdd
  rw [he, ← htk, List.getElem?_take, if_pos hlt] at k1
  refine ⟨dd, rfl, u, by simpa using k1, ?_⟩
  have hl := hlit r hrm dd (List.mem_of_getElem? hdd)
  cases k2 with
  | lit u hu => exact .lit u hu
  | seq => cases hl
  | clo => cases hl)
 rw [setRow_self w' g cur E _ hg] at J2
 have J3 := J2.set d (.t (.view j 0 E k rs.length)) (.slice (some ⟨g, 0, none⟩) rs.length cap) (by rw [zBT]; exact hd) (by rw [zK (by omega), zY]; rfl) ⟨_, cap, hcap, hmax, rfl, .inr ⟨g, cur, E, zAt _ _ _, rfl, hg, by rw [hsz]; omega, .inr rfl⟩⟩
 refine ⟨_, newO o (OB + j) g, rfl, ?_⟩
 have ea : ((a.put (some d) (.slice (some ⟨g, 0, none⟩) rs.length cap)).put (some d) (.slice (some ⟨g, 0, none⟩) rs.length cap)) = a.put (some d) (.slice (some ⟨g, 0, none⟩) rs.length cap) := by
  simp [Act.put]
 rw [ea] at J3
 have eS : upd (upd (upd S d .any) (OB + j) (.box ((rs.flatMap id).map .d))) d (.t (.view j 0 E k rs.length)) = upd (upd S (OB + j) (.box ((rs.flatMap id).map .d))) d (.t (.view j 0 E k rs.length)) := by
  rw [zF2 (s := d) (t := OB + j) (by omega), zHO]
 rw [eS] at J3
 exact J3
theorem zGI (hM : Mk M S) (I : Inv w0 m0 o0 G pins S a w m o) {fn : FuncId} {xs : List Operand} {ts : Array TypeId} {fx : Operand} (hop : op.op = .call { callee := .value fx, args := xs.toArray, argTypes := ts }) (hfx : vO M fx = some (.func (.func fn) #[] #[])) {F : Func} (hfn : P.funcs[fn]? = some F) (hbody : F.body.isNone = false) (hname : (F.name == "runtime.NumGoroutine") = false) :
  (execOp a.eval op).run P w = .ok (.enter fn (xs.map a.eval).toArray) w := by
 unfold execOp
 rw [hop]
 simp only [resolve, zCS hM I hfx, Deferred.ofValue, List.map_toArray]
 have hb : F.body ≠ none := fun e => by rw [e] at hbody; cases hbody
 have hn : F.name ≠ "runtime.NumGoroutine" := fun e => by rw [e] at hname; simp at hname
 simp [invoke, callFunc, hfn, hn, hb]
def zJc (M : Nat → A) (f : Nat → A) (j : Nat) (l : List T) : Prop := M (OB + j) = .box l ∨ ∃ c, j = OB + c ∧ f c = .box l
theorem zKU (hM : Mk M S) (hlo : Low S) (hk : S HK = .hp f) (j : Nat) (l : List T) (h : zJc M f j l) : hx S (OB + j) = .box l := by
 rcases h with h | ⟨c, rfl, h⟩
 · exact zJh hM h
 · exact zFx hlo hk h
theorem h_look (hM : Mk M S) (hk : S HK = .hp f) {fn : Nat} {xs : List Operand} {ts : Array TypeId} {fx : Operand} {r : A} {args : List A} (hop : op.op = .call { callee := .value fx, args := xs.toArray, argTypes := ts }) (hfx : vO M fx = some (.func (.func fn) #[] #[])) (hd : op.dst = some d) (hok : okD N pins S d = true) {F : Func} (hfn : P.funcs[fn]? = some F) (hbody : F.body.isNone = false) (hname : (F.name == "runtime.NumGoroutine") = false)
  (hf : FC P fn args [] r) (hargs : zHS (zJc M f) (xs.map (cpO M)) args) (hl : r.isLits = true) : OpH P pins N op S (app S [(d, r)]) := by
 refine .of' (e := [(d, _)]) fun hN hlo => ⟨?_, zB3 (qX hN hok)⟩
 intro w0 m0 o0 G a w m o hNa I K Q hK
 obtain ⟨h1, h2, h3⟩ := qH (yM hN hok)
 obtain ⟨k1, k2⟩ := zHS.rep hM.hx I (zKU hM hlo hk) xs args hargs
 unfold Oper.wp
 rw [zGI hM.hx I hop hfx hfn hbody hname]
 refine Calls.mono (call_lits I hf hl (vals := (xs.map a.eval).toArray) (by simpa using k1) (fun i x hi S' s' => by simpa using k2 i x hi S' s') (d := d) (by omega) h2) ?_
 rintro e w' ⟨u, rfl, J⟩
 rw [← hd] at J
 exact hK _ _ _ _ (by rw [zBT, hNa]) J
theorem ok_lobj (hM : Mk M S) {j E k : Nat} {fn : Nat} {xs : List Operand} {ts : Array TypeId} {fx : Operand} {args : List A} {rs : List (List D)} {B : Nat → List T → Prop} (hB : ∀ j l, B j l → S (OB + j) = .box l) (hop : op.op = .call { callee := .value fx, args := xs.toArray, argTypes := ts }) (hfx : vO M fx = some (.func (.func fn) #[] #[])) (hd : op.dst = some d) (hok : okD N pins S d = true) (hdO : d < OB) {F : Func} (hfn : P.funcs[fn]? = some F) (hbody : F.body.isNone = false) (hname : (F.name == "runtime.NumGoroutine") = false)
  (hf : FC P fn args [] (.t (.own E k rs))) (hargs : zHS B (xs.map (cpO M)) args) (hfree : S (OB + j) = .free) (hne : rs ≠ []) (hk : 0 < k) (hlit : ∀ r ∈ rs, ∀ x ∈ r, x.isLit = true) : OpOK P pins N op S (upd (upd S (OB + j) (.box ((rs.flatMap id).map .d))) d (.t (.view j 0 E k rs.length))) := by
 intro w0 m0 o0 G a w m o hNa I K Q hK
 obtain ⟨h1, h2, h3⟩ := qH hok
 obtain ⟨k1, k2⟩ := zHS.rep hM I hB xs args hargs
 unfold Oper.wp
 rw [zGI hM I hop hfx hfn hbody hname]
 refine Calls.mono (call_lobj I hf (vals := (xs.map a.eval).toArray) (by simpa using k1) (fun i x hi S' s' => by simpa using k2 i x hi S' s') (d := d) (by omega) hdO h2 hfree hne hk hlit) ?_
 rintro e w' ⟨u, o', rfl, J⟩
 rw [← hd] at J
 exact hK _ _ _ _ (by rw [zBT, hNa]) J
theorem h_lookH {α : Type} {cc : α → List D} {l : List α} (hM : Mk M S) (hk : S HK = .hp f) {fn E k : Nat} {xs : List Operand} {ts : Array TypeId} {fx : Operand} {args : List A} (hop : op.op = .call { callee := .value fx, args := xs.toArray, argTypes := ts }) (hfx : vO M fx = some (.func (.func fn) #[] #[])) (hd : op.dst = some d) (hok : okD N pins S d = true) {F : Func} (hfn : P.funcs[fn]? = some F) (hbody : F.body.isNone = false) (hname : (F.name == "runtime.NumGoroutine") = false)
  (hf : FC P fn args [] (.t (.own E k (l.map cc)))) (hargs : zHS (zJc M f) (xs.map (cpO M)) args) (hne : (!l.isEmpty) = true) (hkp : Nat.blt 0 k = true) (hlit : ∀ a, (cc a).all D.isLit = true) (hfr : f c = .free) (hf' : f' = updF f c (.box (fl (dT cc) l))) : OpH P pins N op S (app S [(HK, .hp f'), (d, .t (.hvw c 0 E k l.length))]) := by
 refine h_mk hk hf' hok fun hN hlo => ?_
 have hl : l ≠ [] := fun e => by rw [e] at hne; cases hne
 have h := ok_lobj (j := OB + c) hM.hx (zKU hM hlo hk) hop hfx hd (yM hN hok) (qX hN hok) hfn hbody hname hf hargs (zJy hlo hk hfr) (by simpa using hl) (by simpa using hkp) (fun r hr x hx => by
  obtain ⟨a, _, rfl⟩ := List.mem_map.1 hr
  exact List.all_eq_true.1 (hlit a) x hx)
 refine h.post fun w0 m0 o0 G a w m o I => ?_
 have h2 := I.slots d
 rw [zY] at h2
 have J := I.tell d (.t (.hvw c 0 E k (l.map cc).length)) (by rw [zY]; rfl) h2
 rw [zHO, ← zEM, List.length_map] at J
 exact J
theorem h_htake (hM : Mk M S) (hk : S HK = .hp f) {off t n E k : Nat} {x : Operand} {l l' : List T} {ls : List (List D)} (hop : op.op = .load t x) (ht : tyA P t = some (false, n)) (hx : cpO M x = .t (.hpt c off)) (hb : f c = .box l) (hl : l[off]? = some (.own E k ls)) (hl' : l.set off (.d (.seq k ls)) = l') (hd : op.dst = some d) (hok : okD N pins S d = true) (hf' : f' = updF f c (.box l')) :
  OpH P pins N op S (app S [(HK, .hp f'), (d, .t (.own E k ls))]) := by
 subst hl'
 refine h_mk hk hf' hok fun hN hlo => ?_
 refine zW fun w0 m0 o0 G a w m o hNa I => ?_
 obtain ⟨h1, h2, h3⟩ := qH (yM hN hok)
 have hxr := qS hM.hx I x 0
 rw [hx] at hxr
 obtain ⟨g, q1, q2⟩ := hxr
 have hdO := qX hN hok
 obtain ⟨g', u, m', o', p1, p2, J⟩ := zGq (b := OB + (OB + c)) (d := d) I (zFx hlo hk hb) hl (by omega) (by omega) h2 h3
 have := I.inj _ _ _ q1 p1
 subst this
 refine ⟨u, w, m', o', ?_, by rw [hd]; exact J⟩
 unfold execOp
 rw [hop]
 simp only [Sem.run_bind]
 rw [q2]
 have e1 : (Instr.loadAt t (.pointer (some ⟨g, off, none⟩))).run P w = (loadVar t ⟨g, off, none⟩).run P w := rfl
 rw [e1, zCX ht p2]
 rfl
theorem h_hsto (hM : Mk M S) (hk : S HK = .hp f) {off t s E' k : Nat} {x : Operand} {l l' : List T} {ls : List (List D)} {i : TypeInfo} (hop : op.op = .store t x (.tmp s)) (hd : op.dst = none) (hi : P.info? t = some i) (hsz : i.size = 1) (hx : cpO M x = .t (.hpt c off)) (hb : f c = .box l) (hs : M s = .t (.own E' k ls)) (hoff : Nat.blt off l.length = true) (hl' : l.set off (.own E' k ls) = l') (hok : okD N pins S s = true) (hf' : f' = updF f c (.box l')) :
  OpH P pins N op S (app S [(HK, .hp f'), (s, .t (.d (.seq k ls)))]) := by
 subst hl'
 refine h_mk hk hf' hok fun hN hlo => ?_
 have hdO := qX hN hok
 obtain ⟨h1, h2, h3⟩ := qH (yM hN hok)
 have := zGF (N := N) (b := OB + (OB + c)) (s := s) hM.hx hop hd hi hsz (fun {w0 m0 o0 G a w m o} I => by
  have h := qS hM.hx I x 0
  rw [hx] at h
  obtain ⟨g, q1, q2⟩ := h
  exact ⟨g, q1, q2⟩) (zFx hlo hk hb) hs (by simpa using hoff) (by omega) h3
 rw [zF2 (by omega)] at this
 exact this
theorem Inv.wkbox {b : Nat} {l l' : List T} (I : Inv w0 m0 o0 G pins (upd S b (.box l)) a w m o) (h : WkTs l l') (ha : l'.all (fun x => !x.isAgg) = true) : Inv w0 m0 o0 G pins (upd S b (.box l')) a w m o := by
 refine ⟨I.same, I.sat, I.mono, I.old, I.own, I.lt, I.inj, I.pinned, fun s => ?_, I.defers, I.tbl, I.wide, I.shps⟩
 have hs := I.slots s
 by_cases e : s = b
 ·
  subst e
  rw [zY] at hs ⊢
  exact ((WkA.box h ha).rep I.sat hs).turn fun b2 l2 hb => by
   by_cases e : b2 = s
   · subst e; exact ⟨_, zY ..⟩
   · rw [zK e] at hb; exact ⟨l2, by rw [zK e, hb]⟩
 ·
  rw [zK e] at hs ⊢
  refine hs.turn fun b2 l2 hb => ?_
  by_cases e : b2 = b
  · subst e; exact ⟨_, zY ..⟩
  · rw [zK e] at hb; exact ⟨l2, by rw [zK e, hb]⟩
theorem h_stw (hM : Mk M S) (hk : S HK = .hp f) {t off : Nat} {x y : Operand} (hop : op.op = .store t x y) (hd : op.dst = none) {i : TypeInfo} (hi : P.info? t = some i) (hx : cpO M x = .t (.hpt c off)) {l l' : List T} (hf : f c = .box l) {q : List T} (hc : zDU (cpO M y) = some q) (hsz : q.length = i.size) (hle : off + i.size ≤ l.length) (hw : WkTs (yA l off q) l') (ha : l'.all (fun x => !x.isAgg) = true) (hf' : f' = updF f c (.box l')) : OpH P pins N op S (app S [(HK, .hp f')]) :=
 h_put hk hf' fun hN hl => (ok_hst hM.hx hop hd hi hx (zFx hl hk hf) hc hsz hle).post fun w0 m0 o0 G a w m o I => I.wkbox hw ha
end
section
variable {P : Program} {pins : List Nat} {N : Nat} {Q : Exit → SL → Prop} {L L' : SL}
theorem WkTs.rfl' : ∀ (l : List T), WkTs l l
 | [] => .nil
 | x :: l => .cons (.refl x) (WkTs.rfl' l)
theorem pbE {g f2 : Nat → A} {j c : Nat} {la : List T} (hp : ∀ k, rnA j c (g k) = g k) (h2 : f2 = updF g c (.box la)) (k : Nat) : f2 k = if k = c then .box la else rnA j c (g k) := by
 rw [h2, hp]
 rfl
theorem c_pubw {cd : Code} (j : Nat) {c : Nat} {f1 f2 : Nat → A} {la la' : List T} (hk : gt L HK = .hp f1) (hb : gt L (OB + j) = .box la) (hc : (Nat.blt (j + 1) OB && !pins.contains (OB + j)) = true) (hla : la.map (rnT j c) = la) (hfree : f1 c = .free) (hw : WkTs la la') (ha : la'.all (fun x => !x.isAgg) = true) (hf2 : ∀ k, f2 k = if k = c then .box la' else rnA j c (f1 k)) (hL : (HK, .hp f2) :: (OB + j, .free) :: renL j c L = L') (h : zAN P pins N cd Q L') : zAN P pins N cd Q L := by
 subst hL
 simp only [Bool.and_eq_true, Bool.not_eq_true', List.contains_eq_mem, decide_eq_false_iff_not] at hc
 obtain ⟨c2, c3⟩ := hc
 have c2 : j + 1 < OB := by simpa using c2
 have e1 : OB + j < OB2 := by unfold OB OB2 at *; omega
 have e2 : OB + j ≠ HK := by unfold HK; unfold OB at *; omega
 intro Fe ne hF w0 m0 o0 G a w hS
 obtain ⟨hN, hlo, m, o, I⟩ := hS
 have hlr : Low (gt (renL j c L)) := fun t ht => by rw [zHF, hlo t ht]; rfl
 have hl2 : Low (gt ((HK, .hp f2) :: (OB + j, .free) :: renL j c L)) := by
  rw [qV, qV]
  exact (hlr.upd e1).upd zHu
 have hkk : gt ((HK, .hp f2) :: (OB + j, .free) :: renL j c L) HK = .hp f2 := by rw [qV, zY]
 have he : hx (gt ((HK, .hp f2) :: (OB + j, .free) :: renL j c L)) = upd (upd (fun t => if t = OB + j then .free else if t = OB + (OB + c) then .box la else rnA j c (hx (gt L) t)) (OB + (OB + c)) (.box la')) HK (.hp f2) := by
  funext t
  by_cases e : t = HK
  ·
   subst e
   rw [zY]
   exact zCe hkk (by simp)
  ·
   rw [zK e]
   rcases Nat.lt_or_ge t OB2 with h2 | h2
   ·
    have hne : t ≠ OB + (OB + c) := by unfold OB OB2 at *; omega
    rw [zEP h2, qV, zK e, qV, zK hne]
    unfold upd
    by_cases e3 : t = OB + j
    · rw [if_pos e3, if_pos e3]
    · rw [if_neg e3, if_neg e3, if_neg hne, zHF, zEP h2]
   ·
    obtain ⟨k, rfl⟩ : ∃ k, t = OB2 + k := ⟨t - OB2, by omega⟩
    rw [zCZ, zE3 hl2 hkk, hf2]
    by_cases e3 : k = c
    · subst e3; rw [if_pos rfl, zY]; rfl
    · rw [if_neg e3, zK (by omega), if_neg (by unfold OB OB2 at *; omega), if_neg (by omega), zE3 hlo hk, san_rn]
 obtain ⟨o2, J⟩ := I.pub (j := j) (c := c) (la := la) (by omega) c3 (by rw [zE3 hlo hk, hfree]; rfl) (zCe hb (by simp)) hla (S' := fun t => if t = OB + j then .free else if t = OB + (OB + c) then .box la else rnA j c (hx (gt L) t)) (if_pos rfl) (by
  show (if OB + (OB + c) = OB + j then _ else _) = _
  rw [if_neg (by omega), if_pos rfl]) (fun t h1 h2 => by
  show (if t = OB + j then _ else _) = _
  rw [if_neg h1, if_neg h2])
 have e5 : (fun t => if t = OB + j then A.free else if t = OB + (OB + c) then .box la else rnA j c (hx (gt L) t)) = upd (fun t => if t = OB + j then A.free else if t = OB + (OB + c) then .box la else rnA j c (hx (gt L) t)) (OB + (OB + c)) (.box la) := by
  funext t
  unfold upd
  by_cases e6 : t = OB + (OB + c)
  · subst e6; rw [if_neg (by omega), if_pos rfl, if_pos rfl]
  · simp only [if_neg e6]
 rw [e5] at J
 have J2 := (J.wkbox hw ha).hk (f := f1) (by
  rw [zK (by unfold HK OB; omega)]
  show (if HK = OB + j then _ else if HK = OB + (OB + c) then _ else rnA j c (hx (gt L) HK)) = _
  rw [if_neg (Ne.symm e2), if_neg (by unfold HK OB; omega), zCe hk (by simp)]
  rfl) f2
 rw [← he] at J2
 exact h Fe ne hF w0 m0 o0 G a w ⟨hN, hl2, m, o2, J2⟩
theorem c_pub {cd : Code} (j : Nat) {c : Nat} {f1 f2 : Nat → A} {la : List T} (hk : gt L HK = .hp f1) (hb : gt L (OB + j) = .box la) (hc : (Nat.blt (j + 1) OB && !pins.contains (OB + j)) = true) (hla : noPt la = true) (ha : la.all (fun x => !x.isAgg) = true) (hfree : f1 c = .free) (hf2 : ∀ k, f2 k = if k = c then .box la else rnA j c (f1 k)) (hL : (HK, .hp f2) :: (OB + j, .free) :: renL j c L = L') (h : zAN P pins N cd Q L') : zAN P pins N cd Q L :=
 c_pubw j hk hb hc (zIa hla) hfree (WkTs.rfl' la) ha hf2 hL h
theorem fl_noAg {α : Type} (c : α → List D) (l : List α) : (fl (dT c) l).all (fun x => !x.isAgg) = true := by
 rw [zEM, List.all_map]
 exact List.all_eq_true.2 fun _ _ => rfl
end
section
theorem zIH {M : Nat → A} {σ : List Nat} {s i j off E k n : Nat} (h : M s = .t (.view j off E k n)) (hi : σ[i]? = some j) : ArgH σ (cpO M (.tmp s)) (.t (.view i off 0 k n)) := by
 have : cpO M (.tmp s) = .t (.view j off E k n) := by unfold cpO; simp only [h]; rfl
 rw [this]
 exact .view0 hi
variable {α : Type} {c : α → List D} {k : Nat}
theorem zJN {x y : List α} {off n : Nat} (h : zE0 x off n = some y) : (y.map c).length = n := by
 obtain ⟨h1, rfl⟩ := zIL h
 rw [List.length_map, List.length_take, List.length_drop]
 omega
theorem zHJ {x y : List α} {off n : Nat} (hc : ∀ a, (c a).length = 1) (h : zE0 x off n = some y) : ((fl (dT c) x).drop off).take (n * 1) = ((y.map c).flatMap id).map .d := by
 obtain ⟨h1, rfl⟩ := zIL h
 rw [Nat.mul_one, zIR (zEV hc), zIc (zEV hc), zEM]
theorem zJs {x : List α} {n : Nat} (hc : ∀ a, (c a).length = k) (h : x.length = n) : ((fl (dT c) x).drop 0).take (n * k) = ((x.map c).flatMap id).map .d := by
 subst h
 rw [List.drop_zero, ← zF7 (zEV hc) x, List.take_length, zEM]
variable {P : Program} {pins : List Nat} {N : Nat} {S M : Nat → A} {op : Oper} {d : Nat}
theorem h_min (hM : Mk M S) {ts : Array TypeId} {x y : Operand} {k ky : IntKind} {a b : Int} (hop : op.op = .call { callee := .builtin .min, args := #[x, y], argTypes := ts }) (hx : vO M x = some (.int k a)) (hy : vO M y = some (.int ky b)) (hd : op.dst = some d) (hok : okD N pins S d = true) : OpH P pins N op S (app S [(d, .t (.d (.lit (.int k (if b < a then b else a)))))]) := by
 refine .of (e := [(d, _)]) fun hN => ⟨?_, zB3 (qX hN hok)⟩
 refine zW fun w0 m0 o0 G ac w m o hN' I => ?_
 obtain ⟨h1, h2, h3⟩ := qH (yM hN hok)
 refine ⟨.int k (if b < a then b else a), w, m, o, ?_, by rw [hd]; exact I.set d _ _ (by omega) h2 (.lit _ rfl)⟩
 unfold execOp
 rw [hop]
 simp only [resolve, invoke, builtin, Sem.run_bind, Sem.run_pure, Result.andThen_ok, List.map_toArray, List.map_cons, List.map_nil]
 rw [zCS hM.hx I hx, zCS hM.hx I hy]
 simp [Builtin.min_, Builtin.min2]
theorem app_same {S : Nat → A} {t : Nat} {x : A} (h : S t = x) : upd S t x = S := by
 funext k
 unfold upd
 split
 · rename_i e; rw [e, h]
 · rfl
theorem zE6 {f : Nat → A} (hM : Mk M S) (hk : S HK = .hp f) {fn : Nat} {xs : List Operand} {ts : Array TypeId} {fx : Operand} (hop : op.op = .call { callee := .value fx, args := xs.toArray, argTypes := ts }) (hfx : vO M fx = some (.func (.func fn) #[] #[])) (hd : op.dst = some d) (hok : okD N pins S d = true) {F : Func} (hfn : P.funcs[fn]? = some F) (hbody : F.body.isNone = false) (hname : (F.name == "runtime.NumGoroutine") = false)
  {args : List A} {ins outs : List A} {r r' : A} {σ fr : List Nat} (hf : FCH P fn args ins outs f f r) (hp : zGM f) (hb : callB M σ fr outs = true) (b3 : ins.all A.flatO = true) (b4 : outs.all A.flatO = true) (hin : σ.map (fun j => S (OB + j)) = ins) (hargs : zGK σ (xs.map (cpO M)) args) (hle : Nat.ble args.length OB = true) (hres : ResH (σ ++ fr) r r') :
  OpH P pins N op S (app S (zDR (σ ++ fr) outs ++ [(d, r')])) := by
 have h := h_call hM hk hop hfx hd hok hfn hbody hname hf hp hp hb b3 b4 hin hargs hle hres
 have hj : ∀ j ∈ σ ++ fr, j + 1 < OB := fun j h => by
  unfold callB at hb
  simp only [Bool.and_eq_true] at hb
  have := List.all_eq_true.1 hb.1.1.1.2 j h
  simpa using this
 have e : app S (zDR (σ ++ fr) outs ++ [(HK, .hp f), (d, r')]) = app S (zDR (σ ++ fr) outs ++ [(d, r')]) := by
  rw [zFa, zFa]
  show upd (upd (app S (zDR (σ ++ fr) outs)) HK (.hp f)) d r' = upd (app S (zDR (σ ++ fr) outs)) d r'
  have e1 : upd (app S (zDR (σ ++ fr) outs)) HK (.hp f) = app S (zDR (σ ++ fr) outs) := app_same (by
   rw [zD0, hk]
   rintro ⟨h1, h2⟩
   have := hj _ h2
   unfold HK OB at this
   omega)
  rw [e1]
 rw [e] at h
 exact h
theorem ok_slim {α : Type} {c : α → List D} {p v : List α} (hM : Mk M S) {t n e : Nat} {x : Operand} {lo hi : Option Operand} {l0 h0 : Option Int} {ie : TypeInfo} {l : List D} (hop : op.op = .slice t x lo hi none) (hx : cpO M x = .imm l) (hlp : l = fl c p) (hc1 : ∀ a, (c a).length = 1) (hlo : bndO M lo = some l0) (hhi : bndO M hi = some h0) (hu : P.underlying t = some (.array n e)) (hie : P.info? e = some ie) (hs1 : ie.size = 1) (hpn : p.length = n) (hn : n ≤ 65536) (hv : cutI p (l0.getD 0) (h0.getD n) = some v) (hd : op.dst = some d) (hok : okD N pins S d = true) :
  OpOK P pins N op S (upd S d (.t (.d (.seq 1 (v.map c))))) := by
 obtain ⟨⟨b1, b2, b3⟩, hv⟩ := zEk hv
 rw [hpn] at b3
 refine zW fun w0 m0 o0 G a w m o hN I => ?_
 obtain ⟨h1, h2, h3⟩ := qH hok
 have hxr := qS hM I x 0
 rw [hx] at hxr
 obtain ⟨g, q, k1, k2⟩ := hxr
 obtain ⟨kl, e1⟩ := zDa hM I hlo
 obtain ⟨kh, e2⟩ := zDa hM I hhi
 generalize hL : (l0.getD 0).toNat = lo' at *
 generalize hH : (h0.getD n).toNat = hi' at *
 have hlo' : lo' ≤ hi' := by omega
 have hhi' : hi' ≤ n := by omega
 have hvl : v.length = hi' - lo' := by rw [hv, List.length_drop, List.length_take]; omega
 refine ⟨.slice (some (if n = lo' then ⟨g, q, none⟩ else ⟨g, q + lo' * ie.size, none⟩)) (hi' - lo') (n - lo'), w, m, o, ?_, ?_⟩
 ·
  unfold execOp
  rw [hop]
  simp only [Sem.run_bind]
  rw [e1, e2, k1]
  show Result.andThen (Sem.run P (Instr.sliceAt t _ _ _ none) w) _ = _
  rw [sla_run hu hie ⟨b1, b2, b3⟩, hL, hH]
  rfl
 ·
  rw [hd]
  refine I.set d _ _ (by omega) h2 ?_
  show RepD m (.seq 1 (v.map c)) _
  have hvm : (v.map c).length = hi' - lo' := by rw [List.length_map, hvl]
  rw [← hvm]
  have cell : ∀ (i : Nat) (r : List D) (j : Nat) (dd : D), (v.map c)[i]? = some r → r[j]? = some dd → ∃ u, m g (q + lo' * ie.size + i * 1 + j) = some u ∧ RepD m dd u := by
   intro i r j dd hi hj
   rw [List.getElem?_map] at hi
   cases hvi : v[i]? with
   | none => rw [hvi] at hi; cases hi
   | some y =>
    rw [hvi] at hi
    injection hi with hi
    subst hi
    have hj1 : j < 1 := by rw [← hc1 y]; exact (List.getElem?_eq_some_iff.1 hj).1
    have hpi : p[lo' + i]? = some y := by
     have hlt := (List.getElem?_eq_some_iff.1 hvi).1
     rw [hv, List.getElem?_drop, List.getElem?_take, if_pos (by omega)] at hvi
     exact hvi
    have h5 := zJq hc1 hpi hj1
    rw [hj, ← hlp] at h5
    obtain ⟨u, z1, z2⟩ := k2 _ dd h5
    refine ⟨u, ?_, z2⟩
    rw [hs1, show q + lo' * 1 + i * 1 + j = q + ((lo' + i) * 1 + j) by omega]
    exact z1
  refine .seq 1 _ _ (n - lo') g (q + lo' * ie.size) (fun i j => (m g (q + lo' * ie.size + i * 1 + j)).getD undef) (by rw [hvm]; omega) (by unfold maxLen; omega) (fun hne => ?_) (fun i r hi => ?_) (fun i r j dd hi hj => ?_) (fun i r j dd hi hj => ?_)
  ·
   rw [if_neg]
   intro e
   refine hne (List.eq_nil_of_length_eq_zero ?_)
   rw [hvm]
   omega
  ·
   rw [List.getElem?_map] at hi
   cases hvi : v[i]? with
   | none => rw [hvi] at hi; cases hi
   | some y => rw [hvi] at hi; injection hi with hi; subst hi; exact hc1 y
  ·
   obtain ⟨u, z1, _⟩ := cell i r j dd hi hj
   rw [z1]
   rfl
  ·
   obtain ⟨u, z1, z2⟩ := cell i r j dd hi hj
   rw [z1]
   exact z2
theorem h_slim {α : Type} {c : α → List D} {z : α} {y v : List α} (hM : Mk M S) {t n e : Nat} {x : Operand} {lo hi : Option Operand} {l0 h0 : Option Int} {ie : TypeInfo} {z1 z2 : Int} (hop : op.op = .slice t x lo hi none) (hx : cpO M x = .imm (ar c z y 0 n)) (hc1 : ∀ a, (c a).length = 1) (hlo : bndO M lo = some l0) (hhi : bndO M hi = some h0) (hu : P.underlying t = some (.array n e)) (hie : P.info? e = some ie) (hs1 : ie.size = 1) (hn : Nat.ble n 65536 = true) (hz1 : l0.getD 0 = z1) (hz2 : h0.getD n = z2) (hv : cutI (padA z y 0 n) z1 z2 = some v) (hd : op.dst = some d) (hok : okD N pins S d = true) :
  OpH P pins N op S (app S [(d, .t (.d (.seq 1 (v.map c))))]) := by
 subst hz1 hz2
 exact .of (e := [(d, _)]) fun hN => ⟨ok_slim hM.hx hop hx (zJ3 _ _ _) hc1 hlo hhi hu hie hs1 (zEg _ _ _) (by simpa using hn) hv hd (yM hN hok), zB3 (qX hN hok)⟩
theorem cpyL_len {α : Type} {x y : List α} {n : Nat} (h : n ≤ x.length) : (cpyL x 0 n y).length = x.length := by
 unfold cpyL
 simp only [List.take_zero, List.nil_append, List.length_append, List.length_take, List.length_drop]
 omega
theorem arr_cpy {α : Type} {c : α → List D} {z : α} (hc : ∀ a, (c a).length = 1) {y v : List α} {n m : Nat} (hn : n ≤ m) : yA (dT (fun x => ar c z x 0 m) y) 0 ((((v.map c).take n).flatMap id).map .d) = dT (fun x => ar c z x 0 m) (cpyL (padA z y 0 m) 0 n v) := by
 unfold dT
 rw [ar_dT, ar_dT]
 have := cpy_row hc (padA z y 0 m) v 0 n
 rw [this]
 congr 1
 exact (zJx (by rw [cpyL_len (by rw [zEg]; exact hn), zEg])).symm
theorem fl_put3 {α : Type} {c : α → List D} {l : List α} {z : Int} {y : α} {k : Nat} (h : idx l z = some y) (v : α) (hc : ∀ a, (c a).length = k) {x : List T} (hx : yA (dT c y) 0 x = dT c v) (hq : x.length ≤ k) : yA (fl (dT c) l) (0 + z.toNat * k + 0) x = fl (dT c) (l.set z.toNat v) := zHk (q := 0) h v hc hx (Nat.ble_eq.mpr (by omega))
theorem cpy_len {α : Type} {c : α → List D} (hc : ∀ a, (c a).length = 1) (v : List α) (n : Nat) : ((((v.map c).take n).flatMap id).map T.d).length ≤ n := by
 rw [List.length_map, flat1 (fun r hr => by obtain ⟨a, _, rfl⟩ := List.mem_map.1 (List.mem_of_mem_take hr); exact hc a), List.length_take]
 exact Nat.min_le_left _ _
end
end Go.Proofs.YtjomnccladjpgaaGreat

/-
 Calls, stores, picks and runs of steps told in few words.
-/
namespace Go.Proofs.YtjomnccladjpgaaGreat
open Go Go.RowKit
set_option linter.unusedVariables false
class PuH (f : Nat → A) : Prop where
 h : zGM f
theorem aR {σ : List Nat} {x : A} (h : x.plain = true) : ArgH σ x x := .plain .r h
abbrev aH {σ : List Nat} {c o : Nat} : ArgH σ (.t (.hpt c o)) (.t (.hpt c o)) := .hpt c o
theorem a1 {σ : List Nat} {x y : A} (h : ArgH σ x y) : zGK σ [x] [y] := .cons h .nil
theorem a2 {σ : List Nat} {x y x' y' : A} (h : ArgH σ x y) (h' : ArgH σ x' y') : zGK σ [x, x'] [y, y'] := .cons h (a1 h')
theorem a3 {σ : List Nat} {x y x' y' x2 y2 : A} (h : ArgH σ x y) (h' : ArgH σ x' y') (h2 : ArgH σ x2 y2) : zGK σ [x, x', x2] [y, y', y2] := .cons h (a2 h' h2)
theorem r1 {τ : List Nat} {x : T} (h : x.isPt = false) : ResH τ (.t x) (.t x) := .t (.flat h)
theorem r2 {τ : List Nat} {x y : T} (h : (x.isPt, y.isPt) = (false, false)) : ResH τ (.tup [x, y]) (.tup [x, y]) := .tup (.cons (.flat (Prod.mk.inj h).1) (.cons (.flat (Prod.mk.inj h).2) .nil))
theorem r3 {τ : List Nat} {x y z : T} (h : (x.isPt, y.isPt, z.isPt) = (false, false, false)) : ResH τ (.tup [x, y, z]) (.tup [x, y, z]) := .tup (.cons (.flat (Prod.mk.inj h).1) (.cons (.flat (Prod.mk.inj (Prod.mk.inj h).2).1) (.cons (.flat (Prod.mk.inj (Prod.mk.inj h).2).2) .nil)))
theorem zKg {M : Nat → A} : callB M [] [] [] = true := rfl
section
variable {P : Program} {pins : List Nat} {N : Nat} {ops : Array Oper} {Q : SL → Prop} {r : List Oper} {op : Oper} {L : SL} {f f' : Nat → A} {fn d : Nat} {args : List A} {y y' : A} {xs : List Operand} {ts : Array TypeId} {fx : Operand} {F : Func}
theorem o_cH (hf : FCH P fn args [] [] f f' y) (hy : yes ops op L true) (h : (gt L HK, op.op, vO (gt L) fx, op.dst, okD N pins (gt L) d, P.funcs[fn]?, F.body.isNone, (F.name == "runtime.NumGoroutine"), Nat.ble args.length OB) = (.hp f, .call { callee := .value fx, args := xs.toArray, argTypes := ts }, some (.func (.func fn) #[] #[]), some d, true, some F, false, false, true)) (ha : zGK [] (xs.map (cpO (gt L))) args) (hr : ResH [] y y') [p : PuH f] [p' : PuH f'] (k : yG P pins N ops Q r ((d, y') :: (HK, .hp f') :: L)) : yG P pins N ops Q (op :: r) L := by
 simp only [Prod.mk.injEq] at h
 obtain ⟨e1, e2, e3, e4, e5, e6, e7, e8, e9⟩ := h
 exact o_of (e := [(HK, .hp f'), (d, y')]) hy (h_call mR e1 (σ := []) (fr := []) e2 e3 e4 e5 e6 e7 e8 hf p.h p'.h zKg rfl rfl rfl ha e9 hr) rfl k
theorem o_cR (hf : FCH P fn args [] [] f f y) (hy : yes ops op L true) (h : (gt L HK, op.op, vO (gt L) fx, op.dst, okD N pins (gt L) d, P.funcs[fn]?, F.body.isNone, (F.name == "runtime.NumGoroutine"), Nat.ble args.length OB) = (.hp f, .call { callee := .value fx, args := xs.toArray, argTypes := ts }, some (.func (.func fn) #[] #[]), some d, true, some F, false, false, true)) (ha : zGK [] (xs.map (cpO (gt L))) args) (hr : ResH [] y y') [p : PuH f] (k : yG P pins N ops Q r ((d, y') :: L)) : yG P pins N ops Q (op :: r) L := by
 simp only [Prod.mk.injEq] at h
 obtain ⟨e1, e2, e3, e4, e5, e6, e7, e8, e9⟩ := h
 exact o_of (e := [(d, y')]) hy (zE6 mR e1 (σ := []) (fr := []) e2 e3 e4 e5 e6 e7 e8 hf p.h zKg rfl rfl rfl ha e9 hr) rfl k
theorem o_sH {t c off : Nat} {x z : Operand} {i : TypeInfo} {l l' : List T} {q : List T} (h : (op.guard, gt L HK, op.op, op.dst, P.info? t, cpO (gt L) x, zDU (cpO (gt L) z)) = (none, .hp f, .store t x z, none, some i, .t (.hpt c off), some q)) (hf : f c = .box l) (hf' : f' = updF f c (.box l')) (h2 : (Nat.beq q.length i.size, Nat.ble (off + i.size) l.length) = (true, true)) (h3 : yA l off q = l') (k : yG P pins N ops Q r ((HK, .hp f') :: L)) : yG P pins N ops Q (op :: r) L := by
 simp only [Prod.mk.injEq] at h h2
 obtain ⟨e0, e1, e2, e3, e4, e5, e6⟩ := h
 exact o_of (e := [(HK, .hp f')]) (g0 e0) (h_st mR e1 e2 e3 e4 e5 hf e6 (Nat.eq_of_beq_eq_true h2.1) (Nat.le_of_ble_eq_true h2.2) h3 hf') rfl k
theorem o_pF {d : Nat} {c : Bool} {cx x z : Operand} (u : A) (hw : c = false) (h : (op.guard, op.op, op.dst, okD N pins (gt L) d, vO (gt L) cx, cpO (gt L) z) = (none, .pick cx x z, some d, true, some (.bool c), u)) (k : yG P pins N ops Q r ((d, u) :: L)) : yG P pins N ops Q (op :: r) L := by
 simp only [Prod.mk.injEq] at h
 obtain ⟨e1, e2, e3, e4, e5, e6⟩ := h
 exact o_pk u hw (g0 e1) e2 e3 e4 e5 e6 k
theorem o_pT {d : Nat} {c : Bool} {cx x z : Operand} (u : A) (hw : c = true) (h : (op.guard, op.op, op.dst, okD N pins (gt L) d, vO (gt L) cx, cpO (gt L) x) = (none, .pick cx x z, some d, true, some (.bool c), u)) (k : yG P pins N ops Q r ((d, u) :: L)) : yG P pins N ops Q (op :: r) L := by
 simp only [Prod.mk.injEq] at h
 obtain ⟨e1, e2, e3, e4, e5, e6⟩ := h
 exact o_pk u hw (g0 e1) e2 e3 e4 e5 e6 k
abbrev kT (ops : Array Oper) (pins : List Nat) (N : Nat) (L : SL) (op : Oper) (j t d : Nat) := (op.guard, (ops[j]?).bind (·.dst), gt L t, op.dst, okD N pins (gt L) d)
abbrev kE (j : Nat) (want : Bool) (t : Nat) (c : Bool) (d : Nat) : Option (Nat × Bool) × Option Nat × A × Option Nat × Bool := (some (j, want), some t, .t (.d (.lit (.bool c))), some d, true)
abbrev tu (d : Nat) : Nat × A := (d, .tup [])
theorem o_k2 {p1 p2 : Oper} {j1 j2 t1 t2 d1 d2 : Nat} {c want : Bool} (h : (kT ops pins N L p1 j1 t1 d1, kT ops pins N (tu d1 :: L) p2 j2 t2 d2) = (kE j1 want t1 c d1, kE j2 want t2 c d2)) (hw : c = !want) (k : yG P pins N ops Q r (tu d2 :: tu d1 :: L)) : yG P pins N ops Q (p1 :: p2 :: r) L :=
 o_k1 (Prod.mk.inj h).1 hw (o_k1 (Prod.mk.inj h).2 hw k)
theorem o_k3 {p1 p2 p3 : Oper} {j1 j2 j3 t1 t2 t3 d1 d2 d3 : Nat} {c want : Bool} (h : (kT ops pins N L p1 j1 t1 d1, kT ops pins N (tu d1 :: L) p2 j2 t2 d2, kT ops pins N (tu d2 :: tu d1 :: L) p3 j3 t3 d3) = (kE j1 want t1 c d1, kE j2 want t2 c d2, kE j3 want t3 c d3)) (hw : c = !want) (k : yG P pins N ops Q r (tu d3 :: tu d2 :: tu d1 :: L)) : yG P pins N ops Q (p1 :: p2 :: p3 :: r) L :=
 o_k1 (Prod.mk.inj h).1 hw (o_k2 (Prod.mk.inj h).2 hw k)
theorem o_k4 {p1 p2 p3 p4 : Oper} {j1 j2 j3 j4 t1 t2 t3 t4 d1 d2 d3 d4 : Nat} {c want : Bool} (h : (kT ops pins N L p1 j1 t1 d1, kT ops pins N (tu d1 :: L) p2 j2 t2 d2, kT ops pins N (tu d2 :: tu d1 :: L) p3 j3 t3 d3, kT ops pins N (tu d3 :: tu d2 :: tu d1 :: L) p4 j4 t4 d4) = (kE j1 want t1 c d1, kE j2 want t2 c d2, kE j3 want t3 c d3, kE j4 want t4 c d4)) (hw : c = !want) (k : yG P pins N ops Q r (tu d4 :: tu d3 :: tu d2 :: tu d1 :: L)) : yG P pins N ops Q (p1 :: p2 :: p3 :: p4 :: r) L :=
 o_k1 (Prod.mk.inj h).1 hw (o_k3 (Prod.mk.inj h).2 hw k)
theorem o_cA (hf : FC P fn args [] y) (hy : yes ops op L true) (h : (op.op, vO (gt L) fx, op.dst, okD N pins (gt L) d, P.funcs[fn]?, F.body.isNone, (F.name == "runtime.NumGoroutine")) = (.call { callee := .value fx, args := xs.toArray, argTypes := ts }, some (.func (.func fn) #[] #[]), some d, true, some F, false, false)) (ha : zEU (xs.map (cpO (gt L))) args) (h2 : (args.all A.plain, y.noRef) = (true, true)) (k : yG P pins N ops Q r ((d, y) :: L)) : yG P pins N ops Q (op :: r) L := by
 simp only [Prod.mk.injEq] at h h2
 obtain ⟨e2, e3, e4, e5, e6, e7, e8⟩ := h
 exact o_ca hf hy e2 e3 e4 e5 e6 e7 e8 ha h2.1 h2.2 k
end
section
variable {P : Program} {pins : List Nat} {N : Nat} {l0 : List Oper} {Q : SL → Prop} {r : List Oper} {op : Oper} {L : SL} {acc : List (List Nat × List Nat)} {T : List Nat} {f f' : Nat → A} {fn d : Nat} {args : List A} {y y' : A} {xs : List Operand} {ts : Array TypeId} {fx : Operand} {F : Func}
theorem d_cH (hf : FCH P fn args [] [] f f' y) (hT : zC6 (HK :: zDS l0.toArray (gt L) op) some = some T) (hy : dyes l0 op L T) (h : (gt L HK, op.op, vO (mask T (gt L)) fx, op.dst, okD N pins (gt L) d, P.funcs[fn]?, F.body.isNone, (F.name == "runtime.NumGoroutine"), Nat.ble args.length OB, T.contains d) = (.hp f, .call { callee := .value fx, args := xs.toArray, argTypes := ts }, some (.func (.func fn) #[] #[]), some d, true, some F, false, false, true, true)) (ha : zGK [] (xs.map (cpO (mask T (gt L)))) args) (hr : ResH [] y y') [p : PuH f] [p' : PuH f'] (k : DOK P pins N l0 Q r ((T, [HK, d]) :: acc) ((d, y') :: (HK, .hp f') :: L)) : DOK P pins N l0 Q (op :: r) acc L := by
 simp only [Prod.mk.injEq] at h
 obtain ⟨e1, e2, e3, e4, e5, e6, e7, e8, e9, e10⟩ := h
 have hk : T.contains HK = true := by
  rw [zIX] at hT
  injection hT with hT
  rw [← hT]
  simp
 exact d_h (e := [(HK, .hp f'), (d, y')]) (ks := [HK, d]) hT hy rfl (by simp only [List.all_cons, List.all_nil, e10, hk]; rfl) (fun S' hM hk hok => h_call hM (hk.trans e1) (σ := []) (fr := []) e2 e3 e4 (hok _ e10 e5) e6 e7 e8 hf p.h p'.h zKg rfl rfl rfl ha e9 hr) rfl k
theorem d_cR (hf : FCH P fn args [] [] f f y) (hT : zC6 (HK :: zDS l0.toArray (gt L) op) some = some T) (hy : dyes l0 op L T) (h : (gt L HK, op.op, vO (mask T (gt L)) fx, op.dst, okD N pins (gt L) d, P.funcs[fn]?, F.body.isNone, (F.name == "runtime.NumGoroutine"), Nat.ble args.length OB, T.contains d) = (.hp f, .call { callee := .value fx, args := xs.toArray, argTypes := ts }, some (.func (.func fn) #[] #[]), some d, true, some F, false, false, true, true)) (ha : zGK [] (xs.map (cpO (mask T (gt L)))) args) (hr : ResH [] y y') [p : PuH f] (k : DOK P pins N l0 Q r ((T, [d]) :: acc) ((d, y') :: L)) : DOK P pins N l0 Q (op :: r) acc L := by
 simp only [Prod.mk.injEq] at h
 obtain ⟨e1, e2, e3, e4, e5, e6, e7, e8, e9, e10⟩ := h
 exact d_h (e := [(d, y')]) (ks := [d]) hT hy rfl (by simp only [List.all_cons, List.all_nil, e10]; rfl) (fun S' hM hk hok => zE6 hM (hk.trans e1) (σ := []) (fr := []) e2 e3 e4 (hok _ e10 e5) e6 e7 e8 hf p.h zKg rfl rfl rfl ha e9 hr) rfl k
theorem d_pF {c : Bool} {cx x z : Operand} (u : A) (hw : c = false) (hT : zC6 (zDS l0.toArray (gt L) op) some = some T) (h : (op.guard, op.op, op.dst, T.contains d, okD N pins (gt L) d, vO (mask T (gt L)) cx, cpO (mask T (gt L)) z) = (none, .pick cx x z, some d, true, true, some (.bool c), u)) (k : DOK P pins N l0 Q r ((T, [d]) :: acc) ((d, u) :: L)) : DOK P pins N l0 Q (op :: r) acc L := by
 simp only [Prod.mk.injEq] at h
 obtain ⟨e1, e2, e3, e4, e5, e6, e7⟩ := h
 exact d_pk u hw hT (dg0 e1) e2 e3 e4 e5 e6 e7 k
theorem d_pT {c : Bool} {cx x z : Operand} (u : A) (hw : c = true) (hT : zC6 (zDS l0.toArray (gt L) op) some = some T) (h : (op.guard, op.op, op.dst, T.contains d, okD N pins (gt L) d, vO (mask T (gt L)) cx, cpO (mask T (gt L)) x) = (none, .pick cx x z, some d, true, true, some (.bool c), u)) (k : DOK P pins N l0 Q r ((T, [d]) :: acc) ((d, u) :: L)) : DOK P pins N l0 Q (op :: r) acc L := by
 simp only [Prod.mk.injEq] at h
 obtain ⟨e1, e2, e3, e4, e5, e6, e7⟩ := h
 exact d_pk u hw hT (dg0 e1) e2 e3 e4 e5 e6 e7 k
end
def hpJ (js : List Nat) (L : SL) : Prop := match js with | [] => True | _ => zJW L
theorem St.fgJ {pins : List Nat} {N : Nat} {w0 : World} {m0 : Mem} {o0 : OwnM} {G : GD} {a : Act} {w : World} {js : List Nat} {L : SL} (h : St w0 m0 o0 G pins N L a w) (hb : fgtB pins js L = true) (hh : hpJ js L) : St w0 m0 o0 G pins N (fgtL js L) a w := by
 cases js with
 | nil => exact h
 | cons j r => exact h.fgt _ _ hb hh
def LpE {X R : Type} (F : X → SL) (M : X → Option R) (r : R) (pins : List Nat) (L : SL) : Prop := ∃ x js, M x = some r ∧ fgtB pins js L = true ∧ hpJ js L ∧ WkS (fgtL js L) (F x) ∧ zJK (F x) = true
theorem wkEq {L : SL} : ∀ {F : SL}, F.map (fun p => gt L p.1) = F.map (·.2) → WkS L F
 | [], _ => trivial
 | (s, y) :: r, h => by
  simp only [List.map_cons, List.cons.injEq] at h
  exact ⟨by rw [h.1]; exact .r, wkEq h.2⟩
theorem lE {X R : Type} {F : X → SL} {M : X → Option R} {r : R} {pins : List Nat} {L : SL} (x : X) (h : M x = some r) (hw : (F x).map (fun p => gt L p.1) = (F x).map (·.2)) (hr : zJK (F x) = true) : LpE F M r pins L := ⟨x, [], h, rfl, trivial, wkEq hw, hr⟩
theorem bi {α β : Type} {G : Prop} {a : Option α} {f : α → Option β} {r : β} (h : Option.bind a f = some r) (k : ∀ y, a = some y → f y = some r → G) : G := by
 obtain ⟨y, h1, h2⟩ := bind_some h
 exact k y h1 h2
theorem eR {P : Program} {rs : List ResultVar} {f' : Nat → A} {y : A} {L : SL} (h : resA P (gt L) rs = some y) (h2 : gt L HK = .hp f') : endH P rs [] f' y .ret L := ⟨⟨_, h, .r⟩, trivial, h2⟩
section
variable {P : Program} {pins : List Nat} {N : Nat} {Q : Exit → SL → Prop} {L : SL}
theorem c_if {R : Type} {b : Bool} {x' y' : Option R} {r : R} {c : Nat} {x y : Code} (h : (bif b then x' else y') = some r) (hc : gt L c = .t (.d (.lit (.bool b)))) (hx : b = true → x' = some r → zAN P pins N x Q L) (hy : b = false → y' = some r → zAN P pins N y Q L) : zAN P pins N (.cond (.tmp c) x y) Q L := by
 rcases zP h with ⟨e, h⟩ | ⟨e, h⟩
 · exact c_t e hc (hx e h)
 · exact c_f e hc (hy e h)
theorem zDM {X R : Type} {c : Code} (F : X → SL) (M : Nat → X → Option R) (n0 : Nat) (x0 : X) (js : List Nat) {r : R} (h0 : M n0 x0 = some r) (hz : ∀ x, M 0 x = none) (hb : fgtB pins js L = true) (hh : hpJ js L) (hw : WkS (fgtL js L) (F x0)) (hr : zJK (F x0) = true)
  (round : ∀ n x, M (n + 1) x = some r → zAN P pins N c (zGw (LpE F (M n) r pins) Q) (F x)) : zAN P pins N (.loop c) Q L := by
 intro Fe ne hF w0 m0 o0 G a w hS
 refine c_loopR (L := F x0) (fun n L => ∃ x, M n x = some r ∧ L = F x) n0 ⟨x0, h0, rfl⟩ ?_ Fe ne hF w0 m0 o0 G a w (St.weaken (hS.fgJ hb hh) hw hr)
 rintro n L ⟨x, hI, rfl⟩
 cases n with
 | zero => rw [hz] at hI; cases hI
 | succ n =>
  intro Fe ne hF w0 m0 o0 G a w hS
  refine wpIn_mono (round n x hI Fe ne hF w0 m0 o0 G a w hS) ?_
  rintro e a' w' ⟨L', hq, hS'⟩
  refine ⟨L', ?_, hS'⟩
  cases e with
  | normal =>
   obtain ⟨x', js, hI', q1, q2, hw', hr'⟩ := hq
   exact ⟨n, F x', Nat.lt_succ_self n, ⟨x', hI', rfl⟩, fun _ _ _ _ _ _ h => St.weaken (h.fgJ q1 q2) hw' hr'⟩
  | _ => exact hq
theorem c_lp {X R : Type} {c : Code} (F : X → SL) (M : Nat → X → Option R) (n0 : Nat) (x0 : X) {r : R} (h0 : M n0 x0 = some r) (hz : ∀ x, M 0 x = none) (hw : (F x0).map (fun p => gt L p.1) = (F x0).map (·.2)) (hr : zJK (F x0) = true)
  (round : ∀ n x, M (n + 1) x = some r → zAN P pins N c (zGw (LpE F (M n) r pins) Q) (F x)) : zAN P pins N (.loop c) Q L := zDM F M n0 x0 [] h0 hz rfl trivial (wkEq hw) hr round
theorem yY {X R : Type} {x y : Code} (r : R) (F : X → SL) (M : X → Option R) (h : zAN P pins N x (zGw (LpE F M r pins) Q) L) (h2 : ∀ x', M x' = some r → zAN P pins N y Q (F x')) : zAN P pins N (.seq x y) Q L := by
 refine zJ fun Fe ne hF w0 m0 o0 G a w hS => wpIn_mono (h Fe ne hF w0 m0 o0 G a w hS) ?_
 rintro e a' w' ⟨L', hq, hS'⟩
 cases e with
 | normal =>
  obtain ⟨x', js, hI, q1, q2, hw, hr⟩ := hq
  exact ⟨F x', h2 x' hI, St.weaken (hS'.fgJ q1 q2) hw hr⟩
 | _ => exact ⟨L', hq, hS'⟩
end
end Go.Proofs.YtjomnccladjpgaaGreat

/-
 The model of slices.Clone over sectors.
-/
namespace Go.Proofs.YtjomnccladjpgaaGreat
open Go Go.RowKit
set_option linter.unusedVariables false
def zCU {α : Type} (p0 : List α) : Option (List α) := appI 64 [] p0
end Go.Proofs.YtjomnccladjpgaaGreat

/-
 What calls hand back: bytes, in new memory.
-/
namespace Go.Proofs.YtjomnccladjpgaaGreat
open Go.RowKit
theorem el_u8 : zFn Tryz.prog 40 5 1 1 := .mk' (z := .int .u8 0) Tryz.underlying40 (by kernel_rfl) rfl (by decide) (by decide)
def New (w w' : World) (A : Option Addr) (bs : List UInt8) : Prop := Byt w' A bs ∧ ∀ ad, A = some ad → w.heap.size ≤ ad.block
theorem New.from {w w1 w' : World} {A : Option Addr} {bs : List UInt8} (h : New w1 w' A bs) (hs : w.heap.size ≤ w1.heap.size) : New w w' A bs := ⟨h.1, fun ad e => Nat.le_trans hs (h.2 ad e)⟩
def GivesB (bs : List UInt8) (w : World) (e : Ending) (w' : World) : Prop := ∃ A c, e = .returned (.slice A bs.length c) ∧ New w w' A bs ∧ (bs.length ≤ c ∧ c ≤ maxLen) ∧ Below w.heap.size w w'
def zJi (bs : List UInt8) (er : Int) (w : World) (e : Ending) (w' : World) : Prop := ∃ A c, e = .returned (.tuple #[.slice A bs.length c, .int .i64 er]) ∧ New w w' A bs ∧ (bs.length ≤ c ∧ c ≤ maxLen) ∧ Below w.heap.size w w'
theorem Own.byt {w : World} {B : Nat} {e : TypeId} {A : Option Addr} {n c : Nat} {bs : List UInt8} (h : Own w B e 1 A n c (u8s bs)) : (Byt w A bs ∧ ∀ ad, A = some ad → B ≤ ad.block) ∧ bs.length = n ∧ (bs.length ≤ c ∧ c ≤ maxLen) :=
 ⟨⟨h.row, fun ad e => (h.lt ad.block (by rw [e]; rfl)).1⟩, by have := h.len; rw [zFc] at this; omega, ⟨by have := h.len; have := h.cap; rw [zFc] at *; omega, h.capMax⟩⟩
end Go.Proofs.YtjomnccladjpgaaGreat

/-
 From contracts that name memory to contracts over data.
-/
namespace Go.Proofs.YtjomnccladjpgaaGreat
open Go Go.RowKit
set_option linter.unusedVariables false
def zGg (m : Mem) (w w' : World) : Mem := fun b p => if b < w.heap.size then m b p else w'.cell? ⟨b, p, none⟩
theorem zJG {w w' : World} {m : Mem} {o : OwnM} {pins : List Nat} (hsat : ∀ b p u, m b p = some u → w.cell? ⟨b, p, none⟩ = some u) (htbl : Mle TBL m) (hlt : ∀ g l, o g = some l → g < w.heap.size ∧ l.1 < OB) (hinj : ∀ g g' l, o g = some l → o g' = some l → g = g') (hb : Below w.heap.size w w') :
  Inv w m o ⟨fun g => o g ≠ none, []⟩ pins (fun _ => .any) { tmps := #[], defers := [] } w' (zGg m w w') o := by
 have hlow : ∀ b p u, m b p = some u → b < w.heap.size := fun b p u h => by
  have := World.block_lt_of_cell? w _ (hsat b p u h)
  simpa using this
 refine ⟨Same.of_below hb, fun b p u h => ?_, fun b p u h => ?_, fun b hb' _ => ?_, fun g l h => .inl (by show o g ≠ none; rw [h]; simp), fun g l h => Nat.lt_of_lt_of_le (hlt g l h).1 hb.size, hinj, fun s _ g hg => hg, fun s => trivial, rfl, htbl, Nat.zero_le _, fun g j h => absurd (hlt g _ h).2 (by show ¬ OB + j < OB; omega)⟩
 ·
  unfold zGg at h
  split at h
  ·
   rename_i hlt
   rw [hb.cell (p := ⟨b, p, none⟩) hlt]
   exact hsat b p u h
  · exact h
 ·
  unfold zGg
  rw [if_pos (hlow b p u h)]
  exact h
 ·
  funext p
  unfold zGg
  rw [if_pos hb']
theorem zLL {w w' : World} {m : Mem} {A' : Option Addr} {bs : List UInt8} {c : Nat} (h : New w w' A' bs) (hc : bs.length ≤ c ∧ c ≤ maxLen) : RepD (zGg m w w') (.seq 1 (zN bs)) (.slice A' bs.length c) := by
 have hl : (zN bs).length = bs.length := zIr bs
 have key : ∀ A0 : Option Addr, (zN bs ≠ [] → ∃ g p, A0 = some ⟨g, p, none⟩ ∧ w.heap.size ≤ g ∧ ∀ i (hi : i < bs.length), w'.cell? ⟨g, p + i, none⟩ = some (.int .u8 (bs[i].toNat : Int))) → RepD (zGg m w w') (.seq 1 (zN bs)) (.slice A0 (zN bs).length c) := by
  intro A0 hA0
  by_cases he : zN bs = []
  ·
   rw [he]
   exact .seq 1 [] A0 c 0 0 (fun _ _ => undef) (by simp) hc.2 (fun h => absurd rfl h) (fun i r h => by simp at h) (fun i r j d h => by simp at h) (fun i r j d h => by simp at h)
  ·
   obtain ⟨g, p, e, hg, hcell⟩ := hA0 he
   have hb : ∀ (i : Nat) (r : List D), (zN bs)[i]? = some r → ∃ hi : i < bs.length, r = [D.lit (.int .u8 (bs[i].toNat : Int))] := by
    intro i r hi
    have hlt : i < bs.length := by rw [← hl]; exact (List.getElem?_eq_some_iff.1 hi).1
    refine ⟨hlt, ?_⟩
    unfold zN at hi
    rw [List.getElem?_map, List.getElem?_eq_getElem hlt] at hi
    injection hi with hi
    exact hi.symm
   refine .seq 1 _ A0 c g p (fun i _ => if h : i < bs.length then .int .u8 (bs[i].toNat : Int) else undef) (by rw [hl]; exact hc.1) hc.2 (fun _ => e) (fun i r hi => ?_) (fun i r j d hi hj => ?_) (fun i r j d hi hj => ?_)
   ·
    obtain ⟨_, rfl⟩ := hb i r hi
    rfl
   ·
    obtain ⟨hlt, rfl⟩ := hb i r hi
    cases j with
    | succ j => simp at hj
    | zero =>
     unfold zGg
     rw [if_neg (by omega), Nat.mul_one, Nat.add_zero, hcell i hlt]
     simp [hlt]
   ·
    obtain ⟨hlt, rfl⟩ := hb i r hi
    cases j with
    | succ j => simp at hj
    | zero =>
     injection hj with hj
     subst hj
     simp only [hlt, dif_pos]
     exact .lit _ rfl
 rw [← hl]
 refine key A' fun hne => ?_
 have hpos : 0 < bs.length := by rw [← hl]; exact List.length_pos_iff.2 hne
 obtain ⟨ad, e, hc0⟩ := h.1.at_ (j := 0) hpos
 have hs : ad.spot = none := by
  have := World.cell?_spot hc0
  simpa [Addr.add] using this
 obtain ⟨g, p, sp⟩ := ad
 simp only at hs
 subst hs
 refine ⟨g, p, e, h.2 _ e, fun i hi => ?_⟩
 obtain ⟨ad', e', hci⟩ := h.1.at_ (j := i) hi
 rw [e] at e'
 injection e' with e'
 subst e'
 rwa [Addr.add_mid] at hci
theorem zIu {f : FuncId} {args : List A} {bs : List UInt8} {er : Int} (h : ∀ (w : World) (m : Mem) (o : OwnM) (vals : Array Value), vals.size = args.length → (∀ s, RepA m w o (argS args) s (argS args s) (vals.getD s undef)) → Calls Tryz.prog f vals w (zJi bs er w)) : FC Tryz.prog f args [] (.tup [.d (.seq 1 (zN bs)), .d (.lit (.int .i64 er))]) := by
 intro w m o vals hsat htbl hlt hinj hsz hrep
 refine (h w m o vals hsz hrep).mono ?_
 rintro e w' ⟨A', c, rfl, hnew, hc, hb⟩
 refine ⟨_, zGg m w w', o, _, _, 0, rfl, zJG hsat htbl hlt hinj hb, ⟨_, rfl, rfl, fun j x hj => ?_⟩, fun i l h => by cases h⟩
 match j, hj with
 | 0, hj => injection hj with hj; subst hj; exact ⟨_, rfl, zLL hnew hc⟩
 | 1, hj => injection hj with hj; subst hj; exact ⟨_, rfl, .lit _ rfl⟩
 | j + 2, hj => simp at hj
theorem vals2 {x y : Value} {vals : Array Value} (hs : vals.size = 2) (h0 : vals.getD 0 undef = x) (h1 : vals.getD 1 undef = y) : vals = #[x, y] := by
 obtain ⟨l⟩ := vals
 match l, hs with
 | [p, q], _ => simp at h0 h1; rw [h0, h1]
theorem int_of {m : Mem} {w : World} {o : OwnM} {S : Nat → A} {s : Nat} {n : Int} {v : Value} (h : RepA m w o S s (intA n) v) : v = .int .i64 n := by
 have h : RepD m (.lit (.int .i64 n)) v := h
 cases h
 rfl
end Go.Proofs.YtjomnccladjpgaaGreat
