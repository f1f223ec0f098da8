/-
  Texts joined: see the remark at the head of each part.
-/
import Derived.Test.YtjomnccladjpgaaD08
import Derived.Test.YtjomnccladjpgaaD00
import Derived.Test.YtjomnccladjpgaaD04
import Derived.Test.YtjomnccladjpgaaProg
import Derived.Test.YtjomnccladjpgaaD05
import Derived.Lib.AppendZeros
set_option linter.unusedVariables false
set_option linter.unusedSimpArgs false
/-
 Calls that only look at what is handed over; slices of slices of objects; own slices in the heap's cells; cells told otherwise.
-/
namespace Go.Proofs.Ytjomnccladjpgaa
open Go Go.RowKit
set_option linter.unusedVariables false
section
variable {w0 : World} {m0 : Mem} {o0 : OwnM} {G : GD} {pins : List Nat} {S M : Nat → A} {a : Act} {w : World} {m : Mem} {o : OwnM} {P : Program} {N : Nat} {op : Oper} {d c : Nat} {f f' : Nat → A}
def vwsO (M : Nat → A) : Nat → List (Nat × Operand) → Option (List T)
 | _, [] => some []
 | n, (i, x) :: r => if i = n then match cpO M x, vwsO M (n + 1) r with
   | .t (.view j off E k q), some t => some (.view j off E k q :: t)
   | _, _ => none
  else none
theorem zJG (hM : Mk M S) (I : Inv w0 m0 o0 G pins S a w m o) : ∀ (n : Nat) (parts : List (Nat × Operand)) (l : List T), vwsO M n parts = some l →
  (parts.map fun x => (x.1, a.eval x.2)) = ((parts.map fun x => a.eval x.2).zipIdx n).map (fun x => (x.2, x.1)) ∧ (∀ v ∈ parts.map (fun x => a.eval x.2), v.cells = #[v] ∧ v.oneCell' = true) ∧ l.length = parts.length ∧
   ∀ (i : Nat) (x : T), l[i]? = some x → ∃ u, (parts.map fun x => a.eval x.2)[i]? = some u ∧ ∃ j off E k q, x = .view j off E k q ∧ RepT m w o (0, 0) x u
 | n, [], l, h => by
  injection h with h
  subst h
  exact ⟨rfl, by simp, rfl, fun i x h => by simp at h⟩
 | n, (i, x) :: r, l, h => by
  unfold vwsO at h
  split at h
  case isFalse => cases h
  rename_i e
  subst e
  split at h
  ·
   rename_i j off E k q t hx ht
   injection h with h
   subst h
   obtain ⟨h1, h2, h3, h4⟩ := zJG hM I (i + 1) r t ht
   have hxr := qG hM I x 0
   rw [hx] at hxr
   have hxr : RepT m w o (0, 0) (.view j off E k q) (a.eval x) := hxr
   obtain ⟨A', c', k1, k2, k3, k4⟩ := id hxr
   refine ⟨by simp [h1, List.zipIdx_cons], fun v hv => ?_, by simp [h3], fun p y hp => ?_⟩
   ·
    simp only [List.map_cons, List.mem_cons] at hv
    rcases hv with rfl | hv
    · rw [k3]; exact ⟨rfl, rfl⟩
    · exact h2 v hv
   ·
    cases p with
    | zero =>
     injection hp with hp
     subst hp
     exact ⟨_, rfl, j, off, E, k, q, rfl, hxr⟩
    | succ p => simpa using h4 p y (by simpa using hp)
  · cases h
theorem ok_bsv (hM : Mk M S) {t e nb n : Nat} {parts : List (Nat × Operand)} (hop : op.op = .buildSlice t n parts.toArray) (hn : n = parts.length) (hd : op.dst = some d) (hok : okD N pins S d = true) (hE : elF P t = some (e, 1, nb)) {l : List T} (h : vwsO M 0 parts = some l) (hne : parts ≠ []) (hb : parts.length ≤ 16777216) : OpOK P pins N op S (upd S d (.lst l)) := by
 subst hn
 refine zV fun w0 m0 o0 G a w m o hN I => ?_
 obtain ⟨h1, h2, h3⟩ := qA hok
 have E := zGr hE
 obtain ⟨i, z, hi, hz, hsz, rfl, hzs⟩ := E.info
 obtain ⟨k1, k2, k3, k4⟩ := zJG hM I 0 parts l h
 have hlen : (parts.map fun x => a.eval x.2).length = parts.length := by simp
 have hpos : 0 < parts.length := List.length_pos_iff.2 hne
 have hflat : ∀ (vs : List Value), (∀ v ∈ vs, v.cells = #[v] ∧ v.oneCell' = true) → vs.flatMap (fun v => v.cells.toList) = vs := by
  intro vs
  induction vs with
  | nil => intro _; rfl
  | cons v r ih =>
   intro hv
   rw [List.flatMap_cons, (hv v (by simp)).1, ih fun x hx => hv x (by simp [hx])]
   rfl
 have hrun := run_buildSlice (P := P) w t e parts.length (parts.map fun x => (x.1, a.eval x.2)).toArray _ i z E.under hi hz (by first | omega | (rw [hsz]; omega)) (by first | omega | (rw [hsz]; omega)) (by
  rw [show (parts.map fun x => (x.1, a.eval x.2)).toArray.toList = _ from k1]
  exact Great.fill_whole (by rw [hsz]; omega) _ _ (fun v hv => by rw [(k2 v hv).1, hsz]; rfl) (by rw [hlen]; simp))
 rw [hflat _ k2] at hrun
 generalize hvs : (parts.map fun x => a.eval x.2) = vs at hrun k2 k4 hlen
 refine ⟨.slice (some ⟨w.heap.size, 0, none⟩) parts.length parts.length, w.alloc (.cells vs.toArray e), newM m w.heap.size (fun p => vs[p]?), o, ?_, ?_⟩
 ·
  unfold execOp
  rw [hop]
  simp only [List.map_toArray, Sem.run_bind]
  rw [hrun]
  rfl
 rw [hd]
 have hlt : ∀ {b p u}, m b p = some u → b < w.heap.size := fun {b p u} hu => by
  have := World.block_lt_of_cell? w _ (I.sat b p u hu)
  simpa using this
 have hold : ∀ g, g < w.heap.size → (w.alloc (.cells vs.toArray e)).heap[g]? = w.heap[g]? := fun g hg => (Same.alloc (fun _ => False) w (.cells vs.toArray e)).block g hg id
 refine I.put d (.lst l) _ (by omega) h2 ?_ (I.same.trans ((Same.alloc (fun _ => False) w _).weaken fun _ h => h.elim)) ?_ (zIg I (Nat.le_refl _) _) (fun b hb => ?_) (fun g hg => hold g hg) ?_
 ·
  refine ⟨w.heap.size, parts.length, by rw [k3], by omega, by unfold maxLen; omega, fun q x hq => ?_⟩
  obtain ⟨u, z1, j, off, E1, k, n, rfl, z2⟩ := k4 q x hq
  exact ⟨u, by rw [zCt]; exact z1, zCG (loc := (0, 0)) (fun _ _ h => h) (fun g j hg => .of_lt fun _ => hold g (I.lt g _ hg)) z2⟩
 ·
  intro b p u hu
  unfold newM at hu
  split at hu
  ·
   rename_i e2
   subst e2
   rw [cell_of_row _ w.heap.size p vs.toArray e _ (heap_alloc_new w _)]
   simpa using hu
  ·
   rw [World.cell?_of_block (w := w) (hold b (hlt hu))]
   exact I.sat b p u hu
 ·
  funext p
  unfold newM
  rw [if_neg (by omega)]
 · simp
theorem h_bsv (hM : Mk M S) {t e nb n : Nat} {parts : List (Nat × Operand)} (hop : op.op = .buildSlice t n ⟨parts⟩) (hn : n = parts.length) (hd : op.dst = some d) (hok : okD N pins S d = true) (hE : elF P t = some (e, 1, nb)) {l : List T} (h : vwsO M 0 parts = some l) (hne : (!parts.isEmpty && Nat.ble parts.length 16777216) = true) : OpH P pins N op S (app S [(d, .lst l)]) := by
 simp only [Bool.and_eq_true] at hne
 exact .of (e := [(d, _)]) fun hN => ⟨ok_bsv hM.hx hop hn hd (qX hN hok) hE h (fun e => by rw [e] at hne; cases hne.1) (by simpa using hne.2), zBU (qN hN hok)⟩
def zGO (w : World) : Mem := fun b p => w.cell? ⟨b, p, none⟩
inductive BorD (B : Nat → List T → Prop) : T → D → Prop
 | d (x : D) : BorD B (.d x) x
 | nil (k : Nat) : BorD B (.d (.lit (.slice none 0 0))) (.seq k [])
 | own (E k : Nat) (l : List (List D)) : BorD B (.own E k l) (.seq k l)
 | vw {j off E k n : Nat} {l : List T} {rs : List (List D)} (hb : B j l) (hr : ∀ r ∈ rs, r.length = k) (hn : rs.length = n) (hl : (l.drop off).take (n * k) = (rs.flatMap id).map .d) : BorD B (.view j off E k n) (.seq k rs)
 | hv {c off E k n : Nat} {l : List T} {rs : List (List D)} (hb : B (OB + c) l) (hr : ∀ r ∈ rs, r.length = k) (hn : rs.length = n) (hl : (l.drop off).take (n * k) = (rs.flatMap id).map .d) : BorD B (.hvw c off E k n) (.seq k rs)
inductive BorL (B : Nat → List T → Prop) : List T → List (List D) → Prop
 | nil : BorL B [] []
 | cons {x : T} {y : D} {l : List T} {r : List (List D)} (h : BorD B x y) (t : BorL B l r) : BorL B (x :: l) ([y] :: r)
inductive BorA (B : Nat → List T → Prop) : A → A → Prop
 | d {x : T} {y : D} (h : BorD B x y) : BorA B (.t x) (.t (.d y))
 | lst {l : List T} {rs : List (List D)} (h : BorL B l rs) : BorA B (.lst l) (.t (.d (.seq 1 rs)))
 | pl {x : A} (h : x.plain = true) : BorA B x x
inductive zIF (B : Nat → List T → Prop) : List A → List A → Prop
 | nil : zIF B [] []
 | cons {x y : A} {l l' : List A} (h : BorA B x y) (t : zIF B l l') : zIF B (x :: l) (y :: l')
theorem zEd (I : Inv w0 m0 o0 G pins S a w m o) : Mle m (zGO w) := fun b p u h => I.sat b p u h
theorem bor_vw (I : Inv w0 m0 o0 G pins S a w m o) {j off E k n : Nat} {l : List T} {rs : List (List D)} (hb : S (OB + j) = .box l) (hr : ∀ r ∈ rs, r.length = k) (hn : rs.length = n) (hl : (l.drop off).take (n * k) = (rs.flatMap id).map .d) {loc : Nat × Nat} {v : Value} (h : RepT m w o loc (.view j off E k n) v) : RepD (zGO w) (.seq k rs) v := by
 obtain ⟨A', q, h1, h2, rfl, h4⟩ := h
 subst hn
 have hs := I.slots (OB + j)
 rw [hb] at hs
 obtain ⟨g, _, p1, p2, cs, E2, p3, p4, p5⟩ := hs
 refine .seq k rs A' q g off (fun i q => (cs[off + i * k + q]?).getD undef) h1 h2 (fun hne => ?_) (fun i r hi => hr r (List.mem_of_getElem? hi)) (fun i r q dd hi hq => ?_) (fun i r q dd hi hq => ?_)
 ·
  obtain ⟨g', cs', E', q1, q2, _⟩ := h4.resolve_left fun e => by have := List.length_pos_iff.2 hne; omega
  have := I.inj _ _ _ p1 q1
  subst this
  exact q2
 all_goals
  have hrl := hr r (List.mem_of_getElem? hi)
  have hqk : q < k := by rw [← hrl]; exact (List.getElem?_eq_some_iff.1 hq).1
  have hir : i < rs.length := (List.getElem?_eq_some_iff.1 hi).1
  have hc : ((rs.flatMap id).map T.d)[i * k + q]? = some (.d dd) := by rw [List.getElem?_map, zCP hr hi hqk, hq]; rfl
  have hlt : i * k + q < rs.length * k := mul_lt hir hqk
  rw [← hl, List.getElem?_take, if_pos hlt, List.getElem?_drop, ← Nat.add_assoc] at hc
  obtain ⟨_, u, k1, k2⟩ := p5 _ _ hc
 ·
  show w.cell? ⟨g, off + i * k + q, none⟩ = some ((cs[off + i * k + q]?).getD undef)
  rw [cell_of_row w g _ cs E2 _ p3, k1]
  rfl
 ·
  rw [k1]
  exact RepD.mono (zEd I) k2
theorem BorD.rep (I : Inv w0 m0 o0 G pins S a w m o) {x : T} {y : D} {B : Nat → List T → Prop} (hB : ∀ j l, B j l → S (OB + j) = .box l) (h : BorD B x y) {loc : Nat × Nat} {v : Value} (hr : RepT m w o loc x v) : RepD (zGO w) y v := by
 cases h with
 | d x => exact RepD.mono (zEd I) hr
 | nil k =>
  have hr : RepD m (.lit (.slice none 0 0)) v := hr
  cases hr
  exact RepD.nilSeq _ k
 | own E k l => exact RepD.mono (zEd I) (zEC I.sat hr)
 | vw hb h1 hn hl => exact bor_vw I (hB _ _ hb) h1 hn hl hr
 | @hv c off E k n l rs hb h1 hn hl => exact bor_vw (j := OB + c) I (hB _ _ hb) h1 hn hl (loc := loc) hr
theorem BorL.get {B : Nat → List T → Prop} {l : List T} {rs : List (List D)} (h : BorL B l rs) : rs.length = l.length ∧ ∀ (i : Nat) (r : List D), rs[i]? = some r → ∃ x y, l[i]? = some x ∧ r = [y] ∧ BorD B x y := by
 induction h with
 | nil => exact ⟨rfl, fun i r h => by simp at h⟩
 | cons h t ih =>
  refine ⟨by simp [ih.1], fun i r hi => ?_⟩
  cases i with
  | zero => injection hi with hi; exact ⟨_, _, rfl, hi.symm, h⟩
  | succ i => simpa using ih.2 i r (by simpa using hi)
theorem BorA.rep (I : Inv w0 m0 o0 G pins S a w m o) {x y : A} {B : Nat → List T → Prop} (hB : ∀ j l, B j l → S (OB + j) = .box l) (h : BorA B x y) {s : Nat} {v : Value} (hr : RepA m w o S s x v) (S' : Nat → A) (s' : Nat) : RepA (zGO w) w (fun _ => none) S' s' y v := by
 cases h with
 | d h => exact h.rep I hB (loc := (s, 0)) hr
 | pl h =>
  cases x with
  | t x => cases x with
   | d x => exact RepD.mono (zEd I) hr
   | agg l => obtain ⟨vs, e, k⟩ := hr; exact ⟨vs, e, k.mono (zEd I)⟩
   | _ => cases h
  | imm l =>
   obtain ⟨g, p, e, k⟩ := hr
   exact ⟨g, p, e, fun j d hj => let ⟨u, k1, k2⟩ := k j d hj; ⟨u, zEd I _ _ _ k1, k2.mono (zEd I)⟩⟩
  | any => trivial
  | _ => cases h
 | @lst l rs h =>
  obtain ⟨g, cap, rfl, h1, h2, h3⟩ := hr
  obtain ⟨k1, k2⟩ := h.get
  show RepD (zGO w) (.seq 1 rs) _
  rw [← k1]
  refine .seq 1 rs _ cap g 0 (fun i q => (w.cell? ⟨g, i, none⟩).getD undef) (by omega) h2 (fun _ => rfl) (fun i r hi => ?_) (fun i r q dd hi hq => ?_) (fun i r q dd hi hq => ?_)
  ·
   obtain ⟨x, y, _, rfl, _⟩ := k2 i r hi
   rfl
  all_goals
   obtain ⟨x, y, q1, rfl, q2⟩ := k2 i r hi
   have hq0 : q = 0 ∧ dd = y := by
    cases q with
    | zero => injection hq with hq; exact ⟨rfl, hq.symm⟩
    | succ q => simp at hq
   obtain ⟨rfl, rfl⟩ := hq0
   obtain ⟨u, z1, z2⟩ := h3 i x q1
   have hcell := I.sat _ _ _ z1
  ·
   show w.cell? ⟨g, 0 + i * 1 + 0, none⟩ = some ((w.cell? ⟨g, i, none⟩).getD undef)
   rw [show 0 + i * 1 + 0 = i by omega, hcell]
   rfl
  ·
   show RepD (zGO w) dd ((w.cell? ⟨g, i, none⟩).getD undef)
   rw [hcell]
   exact q2.rep I hB z2
theorem zIF.rep (hM : Mk M S) (I : Inv w0 m0 o0 G pins S a w m o) {B : Nat → List T → Prop} (hB : ∀ j l, B j l → S (OB + j) = .box l) : ∀ (xs : List Operand) (args : List A), zIF B (xs.map (cpO M)) args → (xs.map a.eval).length = args.length ∧ ∀ (i : Nat) (x : A), args[i]? = some x → ∀ S' s', RepA (zGO w) w (fun _ => none) S' s' x ((xs.map a.eval).getD i undef)
 | [], args, h => by cases h; exact ⟨rfl, fun i x h => by simp at h⟩
 | x :: r, args, h => by
  cases h with
  | cons h t =>
   obtain ⟨k1, k2⟩ := zIF.rep hM I hB r _ t
   refine ⟨by simp [← k1], fun i y hi S' s' => ?_⟩
   cases i with
   | zero =>
    injection hi with hi
    subst hi
    exact h.rep I hB (qG hM I x 0) S' s'
   | succ i => simpa using k2 i y (by simpa using hi) S' s'
def A.isLits : A → Bool
 | .t (.d (.lit _)) => true
 | .tup l => l.all fun x => match x with | .d (.lit _) => true | _ => false
 | _ => false
theorem zHZ {r : A} (h : r.isLits = true) {m : Mem} {w w' : World} {o o' : OwnM} {S S' : Nat → A} {s s' : Nat} {v : Value} (hr : RepA m w o S s r v) (m' : Mem) : RepA m' w' o' S' s' r v := by
 cases r with
 | t x => cases x with
  | d x => cases x with
   | lit u => cases hr; exact .lit _ (by assumption)
   | _ => cases h
  | _ => cases h
 | tup l =>
  obtain ⟨vs, e, h1, h2⟩ := hr
  refine ⟨vs, e, h1, fun j x hj => ?_⟩
  obtain ⟨u, k1, k2⟩ := h2 j x hj
  have := List.all_eq_true.1 h x (List.mem_of_getElem? hj)
  refine ⟨u, k1, ?_⟩
  cases x with
  | d x => cases x with
   | lit u => cases k2; exact .lit _ (by assumption)
   | _ => cases this
  | _ => cases this
 | _ => cases h
theorem look_args (I : Inv w0 m0 o0 G pins S a w m o) {fn : FuncId} {args : List A} {r : A} (hf : FC P fn args [] r) {vals : Array Value} (hv : vals.size = args.length) (hr : ∀ i x, args[i]? = some x → ∀ S' s', RepA (zGO w) w (fun _ => none) S' s' x (vals.getD i undef)) :
  Calls P fn vals w fun e w' => ∃ (u : Value) (m' : Mem) (o' : OwnM) (S' : Nat → A) (a' : Act) (ρ : Nat), e = .returned u ∧ Inv w (zGO w) (fun _ => none) ⟨fun g => (fun _ => none : OwnM) g ≠ none, []⟩ (zEN 0 args) S' a' w' m' o' ∧ RepA m' w' o' S' ρ r u ∧ ∀ (i : Nat) (l : List T), (i, l) ∈ ([] : List (Nat × List T)) → S' i = .box l ∧ i ≠ ρ :=
 hf w (zGO w) (fun _ => none) vals (fun _ _ _ h => h) ((I.tbl.trans I.mono).trans (zEd I)) (fun _ _ h => by cases h) (fun _ _ _ h => by cases h) hv (fun s => by
  unfold argS
  rw [List.getD_eq_getElem?_getD]
  cases hx : args[s]? with
  | none => trivial
  | some x => exact hr s x hx _ _)
theorem call_lits (I : Inv w0 m0 o0 G pins S a w m o) {fn : FuncId} {args : List A} {r : A} (hf : FC P fn args [] r) (hl : r.isLits = true) {vals : Array Value} (hv : vals.size = args.length) (hr : ∀ i x, args[i]? = some x → ∀ S' s', RepA (zGO w) w (fun _ => none) S' s' x (vals.getD i undef))
  {d : Nat} (hd : d < a.tmps.size) (hbox : (S d).isBox = false) :
  Calls P fn vals w fun e w' => ∃ u, e = .returned u ∧ Inv w0 m0 o0 G pins (upd S d r) (a.put (some d) u) w' m o := by
 refine (look_args I hf hv hr).mono ?_
 rintro e w' ⟨u, m', o', S', a', ρ, rfl, J, hr, _⟩
 have hS : Same (fun _ => False) w w' := J.same.weaken fun g h => h rfl
 refine ⟨u, rfl, I.put d r u hd hbox (zHZ hl hr m) (I.same.trans (hS.weaken fun _ h => h.elim)) (fun b p v h => ?_) (Mle.refl _) (fun _ _ => rfl) (fun g hg => hS.block g hg id) hS.size⟩
 have hb : b < w.heap.size := by
  have := World.block_lt_of_cell? w _ (I.sat b p v h)
  simpa using this
 rw [World.cell?_of_block (w := w) (hS.block b hb id)]
 exact I.sat b p v h
theorem zGp (hM : Mk M S) (I : Inv w0 m0 o0 G pins S a w m o) {fn : FuncId} {xs : List Operand} {ts : Array TypeId} {fx : Operand} (hop : op.op = .call { callee := .value fx, args := xs.toArray, argTypes := ts }) (hfx : vO M fx = some (.func (.func fn) #[] #[])) {F : Func} (hfn : P.funcs[fn]? = some F) (hbody : F.body.isNone = false) (hname : (F.name == "runtime.NumGoroutine") = false) :
  (execOp a.eval op).run P w = .ok (.enter fn (xs.map a.eval).toArray) w := by
 unfold execOp
 rw [hop]
 simp only [resolve, zB1 hM I hfx, Deferred.ofValue, List.map_toArray]
 have hb : F.body ≠ none := fun e => by rw [e] at hbody; cases hbody
 have hn : F.name ≠ "runtime.NumGoroutine" := fun e => by rw [e] at hname; simp at hname
 simp [invoke, callFunc, hfn, hn, hb]
def boxesAt (M : Nat → A) (f : Nat → A) (j : Nat) (l : List T) : Prop := M (OB + j) = .box l ∨ ∃ c, j = OB + c ∧ f c = .box l
theorem boxes_hx (hM : Mk M S) (hlo : Low S) (hk : S HK = .hp f) (j : Nat) (l : List T) (h : boxesAt M f j l) : hx S (OB + j) = .box l := by
 rcases h with h | ⟨c, rfl, h⟩
 · exact zHp hM h
 · exact zCy hlo hk h
theorem h_look (hM : Mk M S) (hk : S HK = .hp f) {fn : Nat} {xs : List Operand} {ts : Array TypeId} {fx : Operand} {r : A} {args : List A} (hop : op.op = .call { callee := .value fx, args := xs.toArray, argTypes := ts }) (hfx : vO M fx = some (.func (.func fn) #[] #[])) (hd : op.dst = some d) (hok : okD N pins S d = true) {F : Func} (hfn : P.funcs[fn]? = some F) (hbody : F.body.isNone = false) (hname : (F.name == "runtime.NumGoroutine") = false)
  (hf : FC P fn args [] r) (hargs : zIF (boxesAt M f) (xs.map (cpO M)) args) (hl : r.isLits = true) : OpH P pins N op S (app S [(d, r)]) := by
 refine .of' (e := [(d, _)]) fun hN hlo => ⟨?_, zBU (qN hN hok)⟩
 intro w0 m0 o0 G a w m o hNa I K Q hK
 obtain ⟨h1, h2, h3⟩ := qA (qX hN hok)
 obtain ⟨k1, k2⟩ := zIF.rep hM.hx I (boxes_hx hM hlo hk) xs args hargs
 unfold Oper.wp
 rw [zGp hM.hx I hop hfx hfn hbody hname]
 refine Calls.mono (call_lits I hf hl (vals := (xs.map a.eval).toArray) (by simpa using k1) (fun i x hi S' s' => by simpa using k2 i x hi S' s') (d := d) (by omega) h2) ?_
 rintro e w' ⟨u, rfl, J⟩
 rw [← hd] at J
 exact hK _ _ _ _ (by rw [zA6, hNa]) J
theorem h_htake (hM : Mk M S) (hk : S HK = .hp f) {off t n E k : Nat} {x : Operand} {l l' : List T} {ls : List (List D)} (hop : op.op = .load t x) (ht : tyA P t = some (false, n)) (hx : cpO M x = .t (.hpt c off)) (hb : f c = .box l) (hl : l[off]? = some (.own E k ls)) (hl' : l.set off (.d (.seq k ls)) = l') (hd : op.dst = some d) (hok : okD N pins S d = true) (hf' : f' = updF f c (.box l')) :
  OpH P pins N op S (app S [(HK, .hp f'), (d, .t (.own E k ls))]) := by
 subst hl'
 refine h_mk hk hf' hok fun hN hlo => ?_
 refine zV fun w0 m0 o0 G a w m o hNa I => ?_
 obtain ⟨h1, h2, h3⟩ := qA (qX hN hok)
 have hxr := qG hM.hx I x 0
 rw [hx] at hxr
 obtain ⟨g, q1, q2⟩ := hxr
 have hdO := qN hN hok
 obtain ⟨g', u, m', o', p1, p2, J⟩ := zFv (b := OB + (OB + c)) (d := d) I (zCy hlo hk hb) hl (by omega) (by omega) h2 h3
 have := I.inj _ _ _ q1 p1
 subst this
 refine ⟨u, w, m', o', ?_, by rw [hd]; exact J⟩
 unfold execOp
 rw [hop]
 simp only [Sem.run_bind]
 rw [q2]
 have e1 : (Instr.loadAt t (.pointer (some ⟨g, off, none⟩))).run P w = (loadVar t ⟨g, off, none⟩).run P w := rfl
 rw [e1, zAw ht p2]
 rfl
theorem h_hsto (hM : Mk M S) (hk : S HK = .hp f) {off t s E' k : Nat} {x : Operand} {l l' : List T} {ls : List (List D)} {i : TypeInfo} (hop : op.op = .store t x (.tmp s)) (hd : op.dst = none) (hi : P.info? t = some i) (hsz : i.size = 1) (hx : cpO M x = .t (.hpt c off)) (hb : f c = .box l) (hs : M s = .t (.own E' k ls)) (hoff : Nat.blt off l.length = true) (hl' : l.set off (.own E' k ls) = l') (hok : okD N pins S s = true) (hf' : f' = updF f c (.box l')) :
  OpH P pins N op S (app S [(HK, .hp f'), (s, .t (.d (.seq k ls)))]) := by
 subst hl'
 refine h_mk hk hf' hok fun hN hlo => ?_
 have hdO := qN hN hok
 obtain ⟨h1, h2, h3⟩ := qA (qX hN hok)
 have := zFa (N := N) (b := OB + (OB + c)) (s := s) hM.hx hop hd hi hsz (fun {w0 m0 o0 G a w m o} I => by
  have h := qG hM.hx I x 0
  rw [hx] at h
  obtain ⟨g, q1, q2⟩ := h
  exact ⟨g, q1, q2⟩) (zCy hlo hk hb) hs (by simpa using hoff) (by omega) h3
 rw [zDi (by omega)] at this
 exact this
theorem Inv.wkbox {b : Nat} {l l' : List T} (I : Inv w0 m0 o0 G pins (upd S b (.box l)) a w m o) (h : WkTs l l') (ha : l'.all (fun x => !x.isAgg) = true) : Inv w0 m0 o0 G pins (upd S b (.box l')) a w m o := by
 refine ⟨I.same, I.sat, I.mono, I.old, I.own, I.lt, I.inj, I.pinned, fun s => ?_, I.defers, I.tbl, I.wide, I.shps⟩
 have hs := I.slots s
 by_cases e : s = b
 ·
  subst e
  rw [zZ] at hs ⊢
  exact ((WkA.box h ha).rep I.sat hs).turn fun b2 l2 hb => by
   by_cases e : b2 = s
   · subst e; exact ⟨_, zZ ..⟩
   · rw [zH e] at hb; exact ⟨l2, by rw [zH e, hb]⟩
 ·
  rw [zH e] at hs ⊢
  refine hs.turn fun b2 l2 hb => ?_
  by_cases e : b2 = b
  · subst e; exact ⟨_, zZ ..⟩
  · rw [zH e] at hb; exact ⟨l2, by rw [zH e, hb]⟩
theorem h_stw (hM : Mk M S) (hk : S HK = .hp f) {t off : Nat} {x y : Operand} (hop : op.op = .store t x y) (hd : op.dst = none) {i : TypeInfo} (hi : P.info? t = some i) (hx : cpO M x = .t (.hpt c off)) {l l' : List T} (hf : f c = .box l) {q : List T} (hc : zCY (cpO M y) = some q) (hsz : q.length = i.size) (hle : off + i.size ≤ l.length) (hw : WkTs (qT l off q) l') (ha : l'.all (fun x => !x.isAgg) = true) (hf' : f' = updF f c (.box l')) : OpH P pins N op S (app S [(HK, .hp f')]) :=
 h_put hk hf' fun hN hl => (ok_hst hM.hx hop hd hi hx (zCy hl hk hf) hc hsz hle).post fun w0 m0 o0 G a w m o I => I.wkbox hw ha
end
section
variable {P : Program} {pins : List Nat} {N : Nat} {Q : Exit → SL → Prop} {L L' : SL}
theorem WkTs.rfl' : ∀ (l : List T), WkTs l l
 | [] => .nil
 | x :: l => .cons (.refl x) (WkTs.rfl' l)
theorem pbE {g f2 : Nat → A} {j c : Nat} {la : List T} (hp : ∀ k, rnA j c (g k) = g k) (h2 : f2 = updF g c (.box la)) (k : Nat) : f2 k = if k = c then .box la else rnA j c (g k) := by
 rw [h2, hp]
 rfl
theorem c_pubw {cd : Code} (j : Nat) {c : Nat} {f1 f2 : Nat → A} {la la' : List T} (hk : gt L HK = .hp f1) (hb : gt L (OB + j) = .box la) (hc : (Nat.blt (j + 1) OB && !pins.contains (OB + j)) = true) (hla : la.map (rnT j c) = la) (hfree : f1 c = .free) (hw : WkTs la la') (ha : la'.all (fun x => !x.isAgg) = true) (hf2 : ∀ k, f2 k = if k = c then .box la' else rnA j c (f1 k)) (hL : (HK, .hp f2) :: (OB + j, .free) :: renL j c L = L') (h : qI P pins N cd Q L') : qI P pins N cd Q L := by
 subst hL
 simp only [Bool.and_eq_true, Bool.not_eq_true', List.contains_eq_mem, decide_eq_false_iff_not] at hc
 obtain ⟨c2, c3⟩ := hc
 have c2 : j + 1 < OB := by simpa using c2
 have e1 : OB + j < OB2 := by unfold OB OB2 at *; omega
 have e2 : OB + j ≠ HK := by unfold HK; unfold OB at *; omega
 intro Fe ne hF w0 m0 o0 G a w hS
 obtain ⟨hN, hlo, m, o, I⟩ := hS
 have hlr : Low (gt (renL j c L)) := fun t ht => by rw [zGq, hlo t ht]; rfl
 have hl2 : Low (gt ((HK, .hp f2) :: (OB + j, .free) :: renL j c L)) := by
  rw [qH, qH]
  exact (hlr.upd e1).upd zFm
 have hkk : gt ((HK, .hp f2) :: (OB + j, .free) :: renL j c L) HK = .hp f2 := by rw [qH, zZ]
 have he : hx (gt ((HK, .hp f2) :: (OB + j, .free) :: renL j c L)) = upd (upd (fun t => if t = OB + j then .free else if t = OB + (OB + c) then .box la else rnA j c (hx (gt L) t)) (OB + (OB + c)) (.box la')) HK (.hp f2) := by
  funext t
  by_cases e : t = HK
  ·
   subst e
   rw [zZ]
   exact zBq hkk (by simp)
  ·
   rw [zH e]
   rcases Nat.lt_or_ge t OB2 with h2 | h2
   ·
    have hne : t ≠ OB + (OB + c) := by unfold OB OB2 at *; omega
    rw [zDZ h2, qH, zH e, qH, zH hne]
    unfold upd
    by_cases e3 : t = OB + j
    · rw [if_pos e3, if_pos e3]
    · rw [if_neg e3, if_neg e3, if_neg hne, zGq, zDZ h2]
   ·
    obtain ⟨k, rfl⟩ : ∃ k, t = OB2 + k := ⟨t - OB2, by omega⟩
    rw [zAZ, zEc hl2 hkk, hf2]
    by_cases e3 : k = c
    · subst e3; rw [if_pos rfl, zZ]; rfl
    · rw [if_neg e3, zH (by omega), if_neg (by unfold OB OB2 at *; omega), if_neg (by omega), zEc hlo hk, san_rn]
 obtain ⟨o2, J⟩ := I.pub (j := j) (c := c) (la := la) (by omega) c3 (by rw [zEc hlo hk, hfree]; rfl) (zBq hb (by simp)) hla (S' := fun t => if t = OB + j then .free else if t = OB + (OB + c) then .box la else rnA j c (hx (gt L) t)) (if_pos rfl) (by
  show (if OB + (OB + c) = OB + j then _ else _) = _
  rw [if_neg (by omega), if_pos rfl]) (fun t h1 h2 => by
  show (if t = OB + j then _ else _) = _
  rw [if_neg h1, if_neg h2])
 have e5 : (fun t => if t = OB + j then A.free else if t = OB + (OB + c) then .box la else rnA j c (hx (gt L) t)) = upd (fun t => if t = OB + j then A.free else if t = OB + (OB + c) then .box la else rnA j c (hx (gt L) t)) (OB + (OB + c)) (.box la) := by
  funext t
  unfold upd
  by_cases e6 : t = OB + (OB + c)
  · subst e6; rw [if_neg (by omega), if_pos rfl, if_pos rfl]
  · simp only [if_neg e6]
 rw [e5] at J
 have J2 := (J.wkbox hw ha).hk (f := f1) (by
  rw [zH (by unfold HK OB; omega)]
  show (if HK = OB + j then _ else if HK = OB + (OB + c) then _ else rnA j c (hx (gt L) HK)) = _
  rw [if_neg (Ne.symm e2), if_neg (by unfold HK OB; omega), zBq hk (by simp)]
  rfl) f2
 rw [← he] at J2
 exact h Fe ne hF w0 m0 o0 G a w ⟨hN, hl2, m, o2, J2⟩
theorem c_pub {cd : Code} (j : Nat) {c : Nat} {f1 f2 : Nat → A} {la : List T} (hk : gt L HK = .hp f1) (hb : gt L (OB + j) = .box la) (hc : (Nat.blt (j + 1) OB && !pins.contains (OB + j)) = true) (hla : noPt la = true) (ha : la.all (fun x => !x.isAgg) = true) (hfree : f1 c = .free) (hf2 : ∀ k, f2 k = if k = c then .box la else rnA j c (f1 k)) (hL : (HK, .hp f2) :: (OB + j, .free) :: renL j c L = L') (h : qI P pins N cd Q L') : qI P pins N cd Q L :=
 c_pubw j hk hb hc (zHh hla) hfree (WkTs.rfl' la) ha hf2 hL h
theorem fl_noAg {α : Type} (c : α → List D) (l : List α) : (fl (dT c) l).all (fun x => !x.isAgg) = true := by
 rw [zCm, List.all_map]
 exact List.all_eq_true.2 fun _ _ => rfl
end
section
theorem zEm {M : Nat → A} {σ : List Nat} {s i j off E k n : Nat} (h : M s = .t (.view j off E k n)) (hi : σ[i]? = some j) : ArgH σ (cpO M (.tmp s)) (.t (.view i off 0 k n)) := by
 have : cpO M (.tmp s) = .t (.view j off E k n) := by unfold cpO; simp only [h]; rfl
 rw [this]
 exact .view0 hi
variable {α : Type} {c : α → List D} {k : Nat}
theorem zIM {x y : List α} {off n : Nat} (h : zEK x off n = some y) : (y.map c).length = n := by
 obtain ⟨h1, rfl⟩ := zG1 h
 rw [List.length_map, List.length_take, List.length_drop]
 omega
theorem zGm {x y : List α} {off n : Nat} (hc : ∀ a, (c a).length = 1) (h : zEK x off n = some y) : ((fl (dT c) x).drop off).take (n * 1) = ((y.map c).flatMap id).map .d := by
 obtain ⟨h1, rfl⟩ := zG1 h
 rw [Nat.mul_one, zHn (zEG hc), zHj (zEG hc), zCm]
variable {P : Program} {pins : List Nat} {N : Nat} {S M : Nat → A} {op : Oper} {d : Nat}
theorem app_same {S : Nat → A} {t : Nat} {x : A} (h : S t = x) : upd S t x = S := by
 funext k
 unfold upd
 split
 · rename_i e; rw [e, h]
 · rfl
theorem qL {f : Nat → A} (hM : Mk M S) (hk : S HK = .hp f) {fn : Nat} {xs : List Operand} {ts : Array TypeId} {fx : Operand} (hop : op.op = .call { callee := .value fx, args := xs.toArray, argTypes := ts }) (hfx : vO M fx = some (.func (.func fn) #[] #[])) (hd : op.dst = some d) (hok : okD N pins S d = true) {F : Func} (hfn : P.funcs[fn]? = some F) (hbody : F.body.isNone = false) (hname : (F.name == "runtime.NumGoroutine") = false)
  {args : List A} {ins outs : List A} {r r' : A} {σ fr : List Nat} (hf : FCH P fn args ins outs f f r) (hp : zDa f) (hb : zKJ M σ fr outs = true) (b3 : ins.all A.flatO = true) (b4 : outs.all A.flatO = true) (hin : σ.map (fun j => S (OB + j)) = ins) (hargs : zFM σ (xs.map (cpO M)) args) (hle : Nat.ble args.length OB = true) (hres : ResH (σ ++ fr) r r') :
  OpH P pins N op S (app S (zCU (σ ++ fr) outs ++ [(d, r')])) := by
 have h := zBS hM hk hop hfx hd hok hfn hbody hname hf hp hp hb b3 b4 hin hargs hle hres
 have hj : ∀ j ∈ σ ++ fr, j + 1 < OB := fun j h => by
  unfold zKJ at hb
  simp only [Bool.and_eq_true] at hb
  have := List.all_eq_true.1 hb.1.1.1.2 j h
  simpa using this
 have e : app S (zCU (σ ++ fr) outs ++ [(HK, .hp f), (d, r')]) = app S (zCU (σ ++ fr) outs ++ [(d, r')]) := by
  rw [zEv, zEv]
  show upd (upd (app S (zCU (σ ++ fr) outs)) HK (.hp f)) d r' = upd (app S (zCU (σ ++ fr) outs)) d r'
  have e1 : upd (app S (zCU (σ ++ fr) outs)) HK (.hp f) = app S (zCU (σ ++ fr) outs) := app_same (by
   rw [zDK, hk]
   rintro ⟨h1, h2⟩
   have := hj _ h2
   unfold HK OB at this
   omega)
  rw [e1]
 rw [e] at h
 exact h
theorem zGA {α : Type} (c : α → List D) (l : List α) : (gbA c l).flatO = true := by
 cases l with
 | nil => rfl
 | cons a r => exact zP c (a :: r)
end
end Go.Proofs.Ytjomnccladjpgaa

/-
 What calls hand back: bytes, in new memory.
-/
namespace Go.Proofs.Ytjomnccladjpgaa
open Go.RowKit
theorem el_u8 : zEY Try.prog 41 5 1 1 := .mk' (z := .int .u8 0) Try.underlying41 (by kernel_rfl) rfl (by decide) (by decide)
def New (w w' : World) (A : Option Addr) (bs : List UInt8) : Prop := Byt w' A bs ∧ ∀ ad, A = some ad → w.heap.size ≤ ad.block
theorem New.from {w w1 w' : World} {A : Option Addr} {bs : List UInt8} (h : New w1 w' A bs) (hs : w.heap.size ≤ w1.heap.size) : New w w' A bs := ⟨h.1, fun ad e => Nat.le_trans hs (h.2 ad e)⟩
def GivesB (bs : List UInt8) (w : World) (e : Ending) (w' : World) : Prop := ∃ A c, e = .returned (.slice A bs.length c) ∧ New w w' A bs ∧ (bs.length ≤ c ∧ c ≤ maxLen) ∧ Below w.heap.size w w'
def zIy (bs : List UInt8) (er : Int) (w : World) (e : Ending) (w' : World) : Prop := ∃ A c, e = .returned (.tuple #[.slice A bs.length c, .int .i64 er]) ∧ New w w' A bs ∧ (bs.length ≤ c ∧ c ≤ maxLen) ∧ Below w.heap.size w w'
theorem Own.byt {w : World} {B : Nat} {e : TypeId} {A : Option Addr} {n c : Nat} {bs : List UInt8} (h : Own w B e 1 A n c (u8s bs)) : (Byt w A bs ∧ ∀ ad, A = some ad → B ≤ ad.block) ∧ bs.length = n ∧ (bs.length ≤ c ∧ c ≤ maxLen) :=
 ⟨⟨h.row, fun ad e => (h.lt ad.block (by rw [e]; rfl)).1⟩, by have := h.len; rw [zEu] at this; omega, ⟨by have := h.len; have := h.cap; rw [zEu] at *; omega, h.capMax⟩⟩
end Go.Proofs.Ytjomnccladjpgaa

/-
 From contracts that name memory to contracts over data.
-/
namespace Go.Proofs.Ytjomnccladjpgaa
open Go Go.RowKit
set_option linter.unusedVariables false
def zF0 (m : Mem) (w w' : World) : Mem := fun b p => if b < w.heap.size then m b p else w'.cell? ⟨b, p, none⟩
theorem zH9 {w w' : World} {m : Mem} {o : OwnM} {pins : List Nat} (hsat : ∀ b p u, m b p = some u → w.cell? ⟨b, p, none⟩ = some u) (htbl : Mle TBL m) (hlt : ∀ g l, o g = some l → g < w.heap.size ∧ l.1 < OB) (hinj : ∀ g g' l, o g = some l → o g' = some l → g = g') (hb : Below w.heap.size w w') :
  Inv w m o ⟨fun g => o g ≠ none, []⟩ pins (fun _ => .any) { tmps := #[], defers := [] } w' (zF0 m w w') o := by
 have hlow : ∀ b p u, m b p = some u → b < w.heap.size := fun b p u h => by
  have := World.block_lt_of_cell? w _ (hsat b p u h)
  simpa using this
 refine ⟨Same.of_below hb, fun b p u h => ?_, fun b p u h => ?_, fun b hb' _ => ?_, fun g l h => .inl (by show o g ≠ none; rw [h]; simp), fun g l h => Nat.lt_of_lt_of_le (hlt g l h).1 hb.size, hinj, fun s _ g hg => hg, fun s => trivial, rfl, htbl, Nat.zero_le _, fun g j h => absurd (hlt g _ h).2 (by show ¬ OB + j < OB; omega)⟩
 ·
  unfold zF0 at h
  split at h
  ·
   rename_i hlt
   rw [hb.cell (p := ⟨b, p, none⟩) hlt]
   exact hsat b p u h
  · exact h
 ·
  unfold zF0
  rw [if_pos (hlow b p u h)]
  exact h
 ·
  funext p
  unfold zF0
  rw [if_pos hb']
theorem zJ5 {w w' : World} {m : Mem} {A' : Option Addr} {bs : List UInt8} {c : Nat} (h : New w w' A' bs) (hc : bs.length ≤ c ∧ c ≤ maxLen) : RepD (zF0 m w w') (.seq 1 (qE bs)) (.slice A' bs.length c) := by
 have hl : (qE bs).length = bs.length := zHl bs
 have key : ∀ A0 : Option Addr, (qE bs ≠ [] → ∃ g p, A0 = some ⟨g, p, none⟩ ∧ w.heap.size ≤ g ∧ ∀ i (hi : i < bs.length), w'.cell? ⟨g, p + i, none⟩ = some (.int .u8 (bs[i].toNat : Int))) → RepD (zF0 m w w') (.seq 1 (qE bs)) (.slice A0 (qE bs).length c) := by
  intro A0 hA0
  by_cases he : qE bs = []
  ·
   rw [he]
   exact .seq 1 [] A0 c 0 0 (fun _ _ => undef) (by simp) hc.2 (fun h => absurd rfl h) (fun i r h => by simp at h) (fun i r j d h => by simp at h) (fun i r j d h => by simp at h)
  ·
   obtain ⟨g, p, e, hg, hcell⟩ := hA0 he
   have hb : ∀ (i : Nat) (r : List D), (qE bs)[i]? = some r → ∃ hi : i < bs.length, r = [D.lit (.int .u8 (bs[i].toNat : Int))] := by
    intro i r hi
    have hlt : i < bs.length := by rw [← hl]; exact (List.getElem?_eq_some_iff.1 hi).1
    refine ⟨hlt, ?_⟩
    unfold qE at hi
    rw [List.getElem?_map, List.getElem?_eq_getElem hlt] at hi
    injection hi with hi
    exact hi.symm
   refine .seq 1 _ A0 c g p (fun i _ => if h : i < bs.length then .int .u8 (bs[i].toNat : Int) else undef) (by rw [hl]; exact hc.1) hc.2 (fun _ => e) (fun i r hi => ?_) (fun i r j d hi hj => ?_) (fun i r j d hi hj => ?_)
   ·
    obtain ⟨_, rfl⟩ := hb i r hi
    rfl
   ·
    obtain ⟨hlt, rfl⟩ := hb i r hi
    cases j with
    | succ j => simp at hj
    | zero =>
     unfold zF0
     rw [if_neg (by omega), Nat.mul_one, Nat.add_zero, hcell i hlt]
     simp [hlt]
   ·
    obtain ⟨hlt, rfl⟩ := hb i r hi
    cases j with
    | succ j => simp at hj
    | zero =>
     injection hj with hj
     subst hj
     simp only [hlt, dif_pos]
     exact .lit _ rfl
 rw [← hl]
 refine key A' fun hne => ?_
 have hpos : 0 < bs.length := by rw [← hl]; exact List.length_pos_iff.2 hne
 obtain ⟨ad, e, hc0⟩ := h.1.at_ (j := 0) hpos
 have hs : ad.spot = none := by
  have := World.cell?_spot hc0
  simpa [Addr.add] using this
 obtain ⟨g, p, sp⟩ := ad
 simp only at hs
 subst hs
 refine ⟨g, p, e, h.2 _ e, fun i hi => ?_⟩
 obtain ⟨ad', e', hci⟩ := h.1.at_ (j := i) hi
 rw [e] at e'
 injection e' with e'
 subst e'
 rwa [Addr.add_mid] at hci
theorem zH4 {f : FuncId} {args : List A} {bs : List UInt8} {er : Int} (h : ∀ (w : World) (m : Mem) (o : OwnM) (vals : Array Value), vals.size = args.length → (∀ s, RepA m w o (argS args) s (argS args s) (vals.getD s undef)) → Calls Try.prog f vals w (zIy bs er w)) : FC Try.prog f args [] (.tup [.d (.seq 1 (qE bs)), .d (.lit (.int .i64 er))]) := by
 intro w m o vals hsat htbl hlt hinj hsz hrep
 refine (h w m o vals hsz hrep).mono ?_
 rintro e w' ⟨A', c, rfl, hnew, hc, hb⟩
 refine ⟨_, zF0 m w w', o, _, _, 0, rfl, zH9 hsat htbl hlt hinj hb, ⟨_, rfl, rfl, fun j x hj => ?_⟩, fun i l h => by cases h⟩
 match j, hj with
 | 0, hj => injection hj with hj; subst hj; exact ⟨_, rfl, zJ5 hnew hc⟩
 | 1, hj => injection hj with hj; subst hj; exact ⟨_, rfl, .lit _ rfl⟩
 | j + 2, hj => simp at hj
theorem vals2 {x y : Value} {vals : Array Value} (hs : vals.size = 2) (h0 : vals.getD 0 undef = x) (h1 : vals.getD 1 undef = y) : vals = #[x, y] := by
 obtain ⟨l⟩ := vals
 match l, hs with
 | [p, q], _ => simp at h0 h1; rw [h0, h1]
theorem int_of {m : Mem} {w : World} {o : OwnM} {S : Nat → A} {s : Nat} {n : Int} {v : Value} (h : RepA m w o S s (intA n) v) : v = .int .i64 n := by
 have h : RepD m (.lit (.int .i64 n)) v := h
 cases h
 rfl
end Go.Proofs.Ytjomnccladjpgaa

/-
 The contracts of word.Low, slices.Clone, slices.Reverse, word.turned and word.Put at bytes.
-/
namespace Go.Proofs.Ytjomnccladjpgaa
open Go.RowKit
theorem pow8 (k : Nat) : 2 ^ (8 * k) = 256 ^ k := by rw [Nat.pow_mul]
theorem div8 (n k : Nat) : ((n : Int) / 2 ^ (8 * k)) = ((n / 256 ^ k : Nat) : Int) := by
 rw [← pow8, Int.natCast_ediv, Int.natCast_pow]
 rfl
theorem fill_step (n k size : Nat) (h : k < size) : (le k n ++ List.replicate (size - k) 0).set k (UInt8.ofNat (n / 256 ^ k % 256)) = le (k + 1) n ++ List.replicate (size - (k + 1)) 0 := by
 rw [List.set_append_right _ _ (by rw [zA5]; omega), zA5, Nat.sub_self, le_snoc, List.append_assoc]
 congr 1
 rw [show size - k = (size - (k + 1)) + 1 by omega, List.replicate_succ]
 rfl
set_option maxHeartbeats 2000000 in
theorem low_any (n size : Nat) (w : World) (hn : n ≤ 4611686018427387904) (h1 : 1 ≤ size) (h8 : size ≤ 8) (hw : wid n ≤ size) :
  Calls Try.prog 115 #[.int .i64 n, .int .i64 size] w (zIy (le size n) 0 w) := by
 have hd : ((n : Int) / 2 ^ (8 * size) != 0) = false := by
  rw [div8, Nat.div_eq_of_lt ((lt_wid _ n).2 hw)]
  rfl
 go_enter Try.func115, Try.ntmps115
 go_wp2_with (first | (at_make; go_loud (refine zJv _ Try.underlying41 (by kernel_rfl) rfl _ _ rfl w.heap.size _ _ _ _ size rfl rfl rfl rfl (by omega) (Nat.le_refl _) ?_)))
 all_goals
  intro w1 hO1 hg1
  have hB1 : Below w.heap.size w w1 := (Below.refl _ _).grown hg1 (Nat.le_refl _) (by simp)
  have hsz1 := hO1.lt _ rfl
  clear hg1
  go_wp2_with fail
  go_loopw [38] (fun i wr => ∃ k : Nat, k ≤ size ∧ i = .int .i64 k ∧ Own wr w.heap.size 5 1 (some ⟨w.heap.size, 0, none⟩) size size (u8s (le k n ++ List.replicate (size - k) 0)) ∧ Below w.heap.size w wr)
   (fun i _ => size - (intOf i).toNat)
  case atStart => exact ⟨0, Nat.zero_le _, rfl, hO1, hB1⟩
  case round =>
   obtain ⟨k, hk, rfl, hO, hB⟩ := hrel
   by_cases hlt : k < size
   ·
    have HS := Lib.hid (fill_step n k size hlt)
    have hdk := div8 n k
    have hc := hO.byteAt (j := k) (by rw [List.length_append, zA5, List.length_replicate]; omega)
    obtain ⟨hc1, hc2⟩ := hc
    generalize (le k n ++ List.replicate (size - k) 0)[k]'(by rw [List.length_append, zA5, List.length_replicate]; omega) = old at *
    have hO2 := hO.setByte k (UInt8.ofNat (n / 256 ^ k % 256))
    generalize n / 256 ^ k = q at *
    rw [HS.out, ← u8_ofNat] at hO2
    clear hO HS
    have hB2 := hB.setCell (p := ⟨w.heap.size, k, none⟩) (Nat.le_refl _) (.int .u8 ((q : Int) % 256))
    go_wp2_with fail
    go_roundw
    case rel => exact ⟨k + 1, by omega, by go_num, hO2, hB2⟩
    case measure => simp [intOf]; omega
   ·
    have HE : Hid (le k n ++ List.replicate (size - k) 0 = le size n) := by
     show _ = _
     rw [show k = size by omega, Nat.sub_self]; simp
    go_wp2_with fail
    go_ret2
    rw [HE.out] at hO
    obtain ⟨a1, a2, a3⟩ := hO.byt
    exact ⟨_, _, by rw [zA5]; rfl, a1, a3, hB⟩
def GivesO (bs : List UInt8) (w : World) (e : Ending) (w' : World) : Prop := ∃ A c, e = .returned (.slice A bs.length c) ∧ Own w' w.heap.size 5 1 A bs.length c (u8s bs) ∧ Below w.heap.size w w'
set_option maxHeartbeats 1000000 in
theorem clone_any (bs : List UInt8) (A : Option Addr) (n c : Nat) (w : World) (hn : bs.length = n) (hl : n ≤ 1000000000000) (ha : Byt w A bs) :
  Calls Try.prog 84 #[.slice A n c] w (GivesO bs w) := by
 have hnil := fun (w : World) (A : Option Addr) (n c : Nat) => Lib.run_eql_slice_nil (P := Try.prog) w 41 5 A n c 0 0 Try.underlying41
 cases A with
 | none =>
  have hb : bs = [] := by
   cases bs with
   | nil => rfl
   | cons b r => obtain ⟨ad, h, _⟩ := ha.at_ (j := 0) (by simp); cases h
  subst hb
  go_enter Try.func84, Try.ntmps84
  go_wp2_with fail
  go_ret
  exact ⟨none, 0, rfl, Own.nil _ _ _ _, Below.refl _ _⟩
 | some ad =>
  have HN := Lib.hid hn
  have hn1 : n ≤ bs.length := by omega
  have hn2 : bs.length ≤ n := by omega
  clear hn
  go_enter Try.func84, Try.ntmps84
  go_wp2_with (first | (at_builtin; go_loud (refine zJ8 _ el_u8 rfl _ _ rfl w.heap.size _ 0 0 [] rfl (Own.litAt #[] _ 1 0 [] rfl (Nat.le_refl _) (by decide) rfl rfl) (some ad) n c (u8s bs) rfl (by rw [zEu, HN.out]; omega) (ha.alloc _) (u8_one _) (by omega) (by simp) ?_)))
  intro A2 c2 w2 hO2 hg2 _
  have hB2 := (Own.litAt (B := w.heap.size) (w := w) #[] 5 1 0 [] rfl (Nat.le_refl _) (by decide) rfl rfl).belowOf (((Below.refl _ _).alloc (Nat.le_refl _) _)) hg2 (by simp) (Nat.le_refl _)
  go_wp2_with fail
  go_ret
  exact ⟨A2, c2, by rw [HN.out]; rfl, by rw [HN.out]; simpa using hO2, hB2⟩
theorem swap_step (bs L : List UInt8) (i j : Nat) (hl : L.length = bs.length) (hij : i + j + 1 = bs.length) (h : i < j)
  (hL : ∀ t, t < bs.length → L[t]? = if t < i ∨ j < t then bs.reverse[t]? else bs[t]?) (hi : i < L.length) (hj : j < L.length) :
  ∀ t, t < bs.length → ((L.set i L[j]).set j L[i])[t]? = if t < i + 1 ∨ j - 1 < t then bs.reverse[t]? else bs[t]? := by
 intro t ht
 have gi : L[i] = bs[i]'(by omega) := by
  have := hL i (by omega)
  rw [if_neg (by omega), List.getElem?_eq_getElem hi, List.getElem?_eq_getElem (by omega)] at this
  exact Option.some.inj this
 have gj : L[j] = bs[j]'(by omega) := by
  have := hL j (by omega)
  rw [if_neg (by omega), List.getElem?_eq_getElem hj, List.getElem?_eq_getElem (by omega)] at this
  exact Option.some.inj this
 by_cases h1 : t = j
 ·
  subst h1
  rw [if_pos (by omega), List.getElem?_set_self (by simp; omega), gi, List.getElem?_reverse (by omega), List.getElem?_eq_getElem (by omega)]
  congr 2
  omega
 ·
  rw [List.getElem?_set_ne (by omega)]
  by_cases h2 : t = i
  ·
   subst h2
   rw [if_pos (by omega), List.getElem?_set_self (by omega), gj, List.getElem?_reverse (by omega), List.getElem?_eq_getElem (by omega)]
   congr 2
   omega
  ·
   rw [List.getElem?_set_ne (by omega), hL t ht]
   by_cases h3 : t < i ∨ j < t
   · rw [if_pos h3, if_pos (by omega)]
   · rw [if_neg h3, if_neg (by omega)]
theorem swap_done (bs L : List UInt8) (i : Nat) (j : Int) (hl : L.length = bs.length) (hij : (i : Int) + j + 1 = bs.length) (h : ¬ (i : Int) < j)
  (hL : ∀ t, t < bs.length → L[t]? = if t < i ∨ j < (t : Int) then bs.reverse[t]? else bs[t]?) : L = bs.reverse := by
 apply List.ext_getElem?
 intro t
 by_cases ht : t < bs.length
 ·
  rw [hL t ht]
  by_cases h3 : t < i ∨ j < (t : Int)
  · rw [if_pos h3]
  ·
   rw [if_neg h3, List.getElem?_reverse (by omega)]
   congr 1
   omega
 · rw [List.getElem?_eq_none (by omega), List.getElem?_eq_none (by simp; omega)]
set_option maxHeartbeats 2000000 in
theorem zIv (bs : List UInt8) (B : Nat) (A : Option Addr) (n c : Nat) (w : World) (hn : bs.length = n) (hl : n ≤ 1000000000000) (hO : Own w B 5 1 A n c (u8s bs)) :
  Calls Try.prog 133 #[.slice A n c] w fun e w' => e = .returned (.tuple #[]) ∧ Own w' B 5 1 A n c (u8s bs.reverse) ∧ Below B w w' := by
 by_cases h2 : n < 2
 ·
  have hr : bs.reverse = bs := by
   match bs, hn with
   | [], _ => rfl
   | [a], _ => rfl
   | a :: b :: r, hn => simp at hn; omega
  rw [hr]
  have hlt : ¬ (0 : Int) < (n : Int) - 1 := by omega
  go_enter Try.func133, Try.ntmps133
  go_wp2_with fail
  refine wp_loop_rounds 1 ?_
  rw [rounds_succ]
  go_wp2_with fail
  go_end0
  exact ⟨rfl, hO, Below.refl _ _⟩
 ·
  obtain ⟨g, rfl, hg1, hg2⟩ := hO.addr (by omega)
  have HN := Lib.hid hn
  have hn1 : bs.length ≤ n := by omega
  have hn2 : n ≤ bs.length := by omega
  clear hn
  go_enter Try.func133, Try.ntmps133
  go_wp2_with fail
  go_loopw [2, 3] (fun x y wr => ∃ (i : Nat) (j : Int) (L : List UInt8), x = .int .i64 i ∧ y = .int .i64 j ∧ Hid ((i : Int) + j + 1 = n) ∧ L.length ≤ n ∧ n ≤ L.length ∧ -1 ≤ j ∧ (i : Int) ≤ n ∧ j < n ∧ Own wr B 5 1 (some ⟨g, 0, none⟩) n c (u8s L) ∧ Below B w wr ∧
    Hid (∀ t, t < bs.length → L[t]? = if t < i ∨ j < (t : Int) then bs.reverse[t]? else bs[t]?)) (fun _ y _ => (intOf y + 1).toNat)
  case atStart => exact ⟨0, _, bs, rfl, rfl, Lib.hid (by omega), hn1, hn2, by omega, by omega, by omega, hO, Below.refl _ _, fun t ht => by rw [if_neg (by omega)]⟩
  case round =>
   obtain ⟨i, j, L, rfl, rfl, HI, hL1, hL2, hj1, hj2, hj3, hOw, hB, HL⟩ := hrel
   by_cases hlt : (i : Int) < j
   ·
    obtain ⟨jn, hjn⟩ : ∃ jn : Nat, j = jn := ⟨j.toNat, by omega⟩
    subst hjn
    have hi' : i < L.length := by omega
    have hj' : jn < L.length := by omega
    obtain ⟨c1, f1⟩ := hOw.byteAt hi'
    obtain ⟨c2, f2⟩ := hOw.byteAt hj'
    have i1 : (i : Int) < (n : Int) := by omega
    have i2 : (jn : Int) < (n : Int) := by omega
    have i3 : (0 : Int) ≤ (i : Int) := by omega
    have i4 : (0 : Int) ≤ (jn : Int) := by omega
    go_wp2_with fail
    go_region
    have hO2 : Own ((wr.setCell ⟨g, i, none⟩ (.int .u8 (L[jn].toNat : Int))).setCell ⟨g, jn, none⟩ (.int .u8 (L[i].toNat : Int))).drew B 5 1 (some ⟨g, 0, none⟩) n c (u8s ((L.set i L[jn]).set jn L[i])) :=
     ((hOw.setByte i L[jn]).setByte jn L[i]).drew
    have hB2 := ((hB.setCell (p := ⟨g, i, none⟩) hg1 (.int .u8 (L[jn].toNat : Int))).setCell (p := ⟨g, jn, none⟩) hg1 (.int .u8 (L[i].toNat : Int))).drew
    have HS : Hid (∀ t, t < bs.length → ((L.set i L[jn]).set jn L[i])[t]? = if t < i + 1 ∨ (jn : Int) - 1 < (t : Int) then bs.reverse[t]? else bs[t]?) := by
     intro t ht
     have hij := HI.out
     have h := swap_step bs L i jn (by omega) (by omega) (by omega) (fun t ht => by
      rw [HL.out t ht]
      by_cases h : t < i ∨ jn < t
      · rw [if_pos h, if_pos (by omega)]
      · rw [if_neg h, if_neg (by omega)]) hi' hj' t ht
     rw [h]
     by_cases h : t < i + 1 ∨ jn - 1 < t
     · rw [if_pos h, if_pos (by omega)]
     · rw [if_neg h, if_neg (by omega)]
    have hL3 : ((L.set i L[jn]).set jn L[i]).length ≤ n := by simp; omega
    have hL4 : n ≤ ((L.set i L[jn]).set jn L[i]).length := by simp; omega
    generalize (L.set i L[jn]).set jn L[i] = L2 at *
    clear hOw hB HL
    go_wp2_with fail
    go_roundw
    case rel => exact ⟨i + 1, _, L2, by go_num, rfl, by have := HI.out; exact Lib.hid (by omega), hL3, hL4, by omega, by omega, by omega, hO2, hB2, HS.out⟩
    case measure => simp [intOf] <;> omega
   ·
    go_wp2_with fail
    go_end0
    have hij := HI.out
    have := swap_done bs L i j (by omega) (by omega) (by omega) HL.out
    subst this
    exact ⟨rfl, hOw, hB⟩
set_option maxHeartbeats 1000000 in
theorem zKG (bs : List UInt8) (A : Option Addr) (n c : Nat) (w : World) (hn : bs.length = n) (hl : n ≤ 1000000000000) (ha : Byt w A bs) :
  Calls Try.prog 116 #[.slice A n c] w (GivesB bs.reverse w) := by
 subst hn
 go_enter Try.func116, Try.ntmps116
 go_wp2_with fail
 refine (clone_any bs A bs.length c w rfl hl ha).mono ?_
 rintro e w1 ⟨A1, c1, rfl, hO, hB⟩
 go_wp2_with fail
 refine (zIv bs w.heap.size A1 bs.length c1 w1 rfl (by omega) hO).mono ?_
 rintro e w2 ⟨rfl, hO2, hB2⟩
 go_wp2_with fail
 go_ret
 rw [← List.length_reverse] at hO2
 obtain ⟨a1, a2, a3⟩ := hO2.byt
 exact ⟨A1, c1, by rw [List.length_reverse]; rfl, a1, a3, hB.trans hB2⟩
set_option maxHeartbeats 1000000 in
theorem put_any (n size : Nat) (w : World) (hn : n ≤ 4611686018427387904) (h1 : 1 ≤ size) (h8 : size ≤ 8) (hw : wid n ≤ size) :
  Calls Try.prog 81 #[.int .i64 n, .int .i64 size] w (zIy (be size n) 0 w) := by
 go_enter Try.func81, Try.ntmps81
 go_wp2_with fail
 refine (low_any n size _ hn h1 h8 hw).mono ?_
 rintro e w1 ⟨A, c, rfl, hb, hc, hB⟩
 go_wp2_with fail
 refine (zKG (le size n) A _ c w1 rfl (by rw [zA5]; omega) hb.1).mono ?_
 rintro e w2 ⟨A2, c2, rfl, hb2, hc2, hB2⟩
 go_wp2_with fail
 go_ret2
 exact ⟨A2, c2, by rw [zR, zA5]; rfl, hb2.from hB.size, by rw [zR]; simpa [zA5] using hc2, hB.trans (hB2.mono hB.size)⟩
end Go.Proofs.Ytjomnccladjpgaa

/-
 What the library's functions do: a copy of a slice; the program's numbers as bytes.
-/
namespace Go.Proofs.Ytjomnccladjpgaa
open Go Go.RowKit
set_option linter.unusedVariables false
set_option maxHeartbeats 4000000
set_option maxRecDepth 20000
theorem zC7 (p0 : List UInt8) (r : List UInt8) (h : yB p0 = some r) : FC Try.prog 84 [.t (.d (.seq 1 (qE p0)))] [] (.t (.d (.seq 1 (qE r)))) := by
 refine zDl (rs := [.tmp 2]) (n := 8) Try.func84 rfl rfl (Nat.le_of_ble_eq_true rfl) rfl (pins := []) rfl (L := [(0, .t (.d (.seq 1 (qE p0))))]) rfl ?_
 have hr : r = p0 := by
  have := (zGC h).2
  simpa using this
 refine zL ?_
 refine zS ?_
 refine o_s (.t (.d (.lit (.slice none 0 0)))) (g0 rfl) rfl rfl rfl ?_
 refine zB ?_
 refine yG ?_
 refine zL ?_
 refine zL ?_
 refine c_nil (l1 := [_]) (k := 1) (l := qE p0) rfl rfl rfl rfl ?_
 refine o_s (.t (.d (.seq 1 (qE p0)))) (g0 rfl) rfl rfl rfl ?_
 refine zB ⟨rfl, rfl, fun b hb => ?_⟩
 refine yG ?_
 refine zJM rfl (fun hc => ?_) (fun hc => ?_)
 ·
  have hb := hb hc
  have hp : p0 = [] := by unfold qE at hb; simpa using hb
  refine zL ?_
  refine zS ?_
  refine o_s (.t (.d (.lit (.slice none 0 0)))) (g0 rfl) rfl rfl rfl ?_
  refine zB ?_
  refine yG ?_
  refine zJ ?_
  repeat (refine zI6 ?_)
  subst hr hp
  exact end0 rfl (.t (.d (.nil _)))
 ·
  refine zK ?_
  refine yG ?_
  refine zL ?_
  refine zS ?_
  refine o_b0 (.t (.own 5 1 (List.map cU8 []))) (g0 rfl) rfl rfl rfl rfl rfl ?_
  refine o_s (.t (.d (.seq 1 (qE p0)))) (g0 rfl) rfl rfl rfl ?_
  refine o_2c (g0 rfl) rfl rfl rfl (appE (c := cU8) h) (appC (c := cU8) h) ?_
  refine o_2 (.t (.d (.seq 1 (qE r)))) (.t (.own 5 1 (qE r))) (g0 rfl) rfl rfl rfl ?_
  refine zB ?_
  refine yG ?_
  refine zJ ?_
  exact end0 rfl (.t (.own _ _ _))
theorem zGd (p0 p1 : Int) (r : List UInt8 × Int) (h : zDx p0 p1 = some r) : FC Try.prog 81 [.t (.d (.lit (.int .i64 p0))), .t (.d (.lit (.int .i64 p1)))] [] (.tup [.d (.seq 1 (qE r.1)), .d (.lit (.int .i64 r.2))]) := by
 unfold zDx at h
 split at h
 case isFalse => cases h
 rename_i hc
 injection h with h
 subst h
 obtain ⟨h1, h2, h3, h4, h5⟩ := hc
 obtain ⟨n, rfl⟩ := Int.eq_ofNat_of_zero_le h1
 obtain ⟨k, rfl⟩ := Int.eq_ofNat_of_zero_le (show 0 ≤ p1 by omega)
 refine zH4 fun w m o vals hs hrep => ?_
 rw [vals2 hs (int_of (hrep 0)) (int_of (hrep 1))]
 simp only [Int.toNat_natCast] at h5 ⊢
 exact put_any n k w (by omega) (by omega) (by omega) ((lt_wid k n).1 h5)
end Go.Proofs.Ytjomnccladjpgaa

/-
 A slice of zeros appended; a slice that may grow out of a call's results; the program's numbers as bytes that may grow.
-/
namespace Go.Proofs.Ytjomnccladjpgaa
open Go Go.RowKit
set_option linter.unusedVariables false
set_option linter.unusedSimpArgs false
theorem zD9 {z : Value} (n : Nat) : Builtin.zeroCells #[z] n = (List.replicate n z).toArray := by
 unfold Builtin.zeroCells
 apply Array.ext_getElem?
 intro i
 rw [Array.getElem?_map, Array.getElem?_range]
 by_cases h : i < n
 · rw [if_pos (by simpa using h)]; simp [h, Nat.mod_one]
 · rw [if_neg (by simpa using h)]; simp [h]
theorem zHd (P : Program) (w : World) {t tn e : TypeId} {ie : TypeInfo} {z : Value} (hu : P.underlying t = some (.slice e)) (kn : IntKind) (htn : P.underlying tn = some (.int kn)) (hi : P.info? e = some ie) (hz : ie.zero = some z) (hs1 : ie.size = 1) (hz1 : z.cells = #[z]) (hz2 : z.oneCell' = true) (hpb : 0 < ie.bytes) (ty : TypeId) (A' : Option Addr) (n c : Nat) (xs : List Value) (hown : Own w 0 e 1 A' n c xs)
  (ki : IntKind) (k : Nat) (hb : (n + k) * ie.bytes ≤ 140737488355328) :
  ∃ A2 c2 w', (Builtin.append_ #[t, tn] ty #[.slice A' n c, .int ki k]).run P w = .ok (.slice A2 (n + k) c2) w' ∧ Own w' 0 e 1 A2 (n + k) c2 (xs ++ List.replicate k z) ∧
   ((blk A2 = blk A' ∧ w.grownBy w' (blk A') ∧ ∀ g, zBA w w' g) ∨ (blk A2 = some w.heap.size ∧ w.grownBy w' none)) := by
 have h63 : n + k ≤ maxLen := by
  have := Nat.le_mul_of_pos_right (n + k) hpb
  unfold maxLen; omega
 have hsmall : n + k ≤ 9223372036854775807 := by simp only [maxLen] at h63; omega
 have hw : IntKind.i64.wrap (k : Int) = k := by rw [IntKind.wrap_i64]; omega
 have hneg : ¬ ((k : Int) < 0) := by omega
 have hkb : k * ie.bytes ≤ 140737488355328 := Nat.le_trans (Nat.mul_le_mul_right _ (by omega)) hb
 have h48i : ¬ (281474976710656 < (k : Int) * (ie.bytes : Int)) := by
  rw [← Int.natCast_mul]
  omega
 have hlen : (xs ++ List.replicate k z).length = (n + k) * 1 := by rw [List.length_append, hown.1, List.length_replicate, Nat.add_mul, Nat.mul_one k]
 have hxl : xs.length = n := by rw [hown.1, Nat.mul_one]
 have grown : ∀ (old : Nat), old < n + k → 
   Own (w.drew.alloc (.cells (xs.toArray ++ (List.replicate k z).toArray ++ Builtin.zeroCells z.cells (grownCap w (n + k) old e - (n + k))) e)) 0 e 1 (some ⟨w.heap.size, 0, none⟩) (n + k) (grownCap w (n + k) old e) (xs ++ List.replicate k z) ∧
   w.grownBy (w.drew.alloc (.cells (xs.toArray ++ (List.replicate k z).toArray ++ Builtin.zeroCells z.cells (grownCap w (n + k) old e - (n + k))) e)) none := by
  intro old ho
  have hge := grownCap_ge w (n + k) old e
  have hcm : grownCap w (n + k) old e ≤ maxLen := grownCap_le_maxLen w (n + k) old e h63
  refine ⟨⟨hlen, .inr ⟨w.heap.size, _, _, rfl, Nat.zero_le _, heap_alloc_new w.drew _, hge, hcm, ?_, ?_⟩⟩, ⟨rfl, rfl, rfl, by simp, fun q hq _ => Below.heap_alloc w.drew _ q hq⟩⟩
  ·
   simp only [Array.size_append, List.size_toArray, size_zeroCells, hz1, hxl, List.length_replicate, Nat.mul_one]
   rw [List.length_singleton, Nat.mul_one]
   omega
  ·
   simp only [Array.toList_append, List.append_assoc]
   rw [← List.append_assoc, ← hlen]
   exact List.take_left
 rcases hown.2 with ⟨hv, rfl⟩ | ⟨g, cap, cur, hv, hbg, hg, hnc, hcm, hcs, htake⟩
 ·
  injection hv with hv hv2 hv3
  subst hv hv3
  have hx : xs = [] := List.eq_nil_of_length_eq_zero hxl
  subst hx
  by_cases hm : k = 0
  ·
   subst hm
   refine ⟨none, 0, w, ?_, World.ownsRow_nil w 0 e 1, .inl ⟨rfl, World.grownBy.refl w _, fun _ => .refl _ _⟩⟩
   simp [Builtin.append_, run_underlying hu, run_underlying htn, sizeOf, typeInfo, hi, asInt, asIntOf, show IntKind.i64.wrap 0 = 0 from rfl, hs1]
  ·
   have hr := Lib.run_append_nil_zeros (P := P) w t tn ty e ie z ki kn hu htn hi hz k (by omega) (by omega) (by omega) (by omega)
   have hgr := grown 0 (by omega)
   simp only [Nat.zero_add, List.nil_append, Array.empty_append] at hgr ⊢
   have hzk : Builtin.zeroCells z.cells k = (List.replicate k z).toArray := by rw [hz1, zD9]
   rw [hzk] at hr
   exact ⟨_, _, _, hr, hgr.1, .inr ⟨rfl, hgr.2⟩⟩
 ·
  injection hv with hv hv2 hv3
  subst hv hv3
  by_cases hm : k = 0
  ·
   subst hm
   refine ⟨some ⟨g, 0, none⟩, c, w, ?_, by simpa using hown, .inl ⟨rfl, World.grownBy.refl w _, fun _ => .refl _ _⟩⟩
   simp [Builtin.append_, run_underlying hu, run_underlying htn, sizeOf, typeInfo, hi, asInt, asIntOf, show IntKind.i64.wrap 0 = 0 from rfl, hs1, hnc, storeCells]
  by_cases hroom : n + k ≤ c
  ·
   have hfit : n * ie.size + (List.replicate k z).length ≤ cur.size := by rw [List.length_replicate, hcs, hs1, Nat.mul_one, Nat.mul_one]; exact hroom
   have hst := run_storeCells_at P g (n * ie.size) e (List.replicate k z) 0 cur w hg (by simpa using hfit) (fun u hu => by rw [(List.mem_replicate.1 hu).2]; exact hz2)
   simp only [Nat.add_zero] at hst
   have hr : (Builtin.append_ #[t, tn] ty #[.slice (some ⟨g, 0, none⟩) n c, .int ki k]).run P w = .ok (.slice (some ⟨g, 0, none⟩) (n + k) c) (w.setRow g (cur.toList.take (n * ie.size) ++ List.replicate k z ++ cur.toList.drop (n * ie.size + (List.replicate k z).length)).toArray) := by
    have hzk : Builtin.zeroCells #[z] k = (List.replicate k z).toArray := zD9 k
    rw [hs1, Nat.mul_one] at hst
    simp [Builtin.append_, run_underlying hu, run_underlying htn, sizeOf, typeInfo, zeroValue, hi, hz, hs1, hz1, hm, asInt, asIntOf, hw, hneg, h48i, hroom, hzk, Addr.add_lit, hst]
   refine ⟨_, _, _, hr, ⟨hlen, .inr ⟨g, c, _, rfl, hbg, setRow_heap w g cur _ e _ hg, hroom, hcm, ?_, ?_⟩⟩, .inl ⟨rfl, ⟨rfl, rfl, rfl, by simp, fun k _ hk => setRow_other w g k _ (fun e => hk (by simp [blk, e]))⟩, fun q => zAb hg (by
    simp only [List.size_toArray, List.length_append, List.length_take, List.length_drop, Array.length_toList]
    omega) q⟩⟩
   ·
    simp only [List.size_toArray, List.length_append, List.length_take, List.length_drop, Array.length_toList]
    omega
   ·
    rw [hs1, htake, ← hlen]
    exact List.take_left
  ·
   have holds : ∀ j u, xs[j]? = some u → w.cell? ((⟨g, 0, none⟩ : Addr).add j) = some u := World.ownsRow.cells hown (g := g) rfl
   have hn : ¬ (n + k ≤ c) := hroom
   have h63' : ¬ (9223372036854775807 < ((n : Int) + (k : Int))) := by omega
   have h48' : ¬ (281474976710656 < Builtin.nextslicecap (n + k) c * ie.bytes) := by have := growslice_fits (need := n + k) (old := c) (bytes := ie.bytes) (by omega) hb; omega
   have hfo := run_firstCells_some (P := P) w.drew ie.size n ⟨g, 0, none⟩ n c xs (by rw [hs1, hown.1]) (by simpa using holds)
   have hzk : ∀ q, Builtin.zeroCells #[z] q = (List.replicate q z).toArray := zD9
   have hgr := grown c (by omega)
   refine ⟨_, _, _, ?_, hgr.1, .inr ⟨rfl, hgr.2⟩⟩
   rw [hs1] at hfo
   simp [Builtin.append_, run_underlying hu, run_underlying htn, sizeOf, typeInfo, zeroValue, hi, hz, hs1, hz1, hm, asInt, asIntOf, hw, hneg, h48i, hn, h63', h48', Question.forced, hfo, newRow, grownCap, hzk]
section
variable {w0 : World} {m0 : Mem} {o0 : OwnM} {G : GD} {pins : List Nat} {S M : Nat → A} {a : Act} {w : World} {m : Mem} {o : OwnM} {P : Program} {N : Nat}
def zerF (P : Program) (t tn : TypeId) : Option (Nat × Nat × Value) := match P.underlying t, P.underlying tn with
 | some (.slice e), some (.int _) => match P.info? e with
  | some ie => match ie.zero with
   | some (.int kz nz) => if ie.size = 1 ∧ 0 < ie.bytes then some (e, ie.bytes, .int kz nz) else none
   | _ => none
  | none => none
 | _, _ => none
end
end Go.Proofs.Ytjomnccladjpgaa

/-
 Growing a nil slice: cap, a cut of nil, append of zeros to nil, and the empty piece of what that gives.
-/
namespace Go.Proofs.Ytjomnccladjpgaa
open Go Go.RowKit
set_option linter.unusedVariables false
section
variable {w0 : World} {m0 : Mem} {o0 : OwnM} {G : GD} {pins : List Nat} {S M : Nat → A} {a : Act} {w : World} {m : Mem} {o : OwnM} {P : Program} {N : Nat} {op : Oper} {d : Nat}
theorem h_cap0 (hM : Mk M S) {t e : Nat} {x : Operand} (hop : op.op = .call { callee := .builtin .cap, args := ⟨[x]⟩, argTypes := ⟨[t]⟩ }) (hx : vO M x = some (.slice none 0 0)) (hu : P.underlying t = some (.slice e)) (hd : op.dst = some d) (hok : okD N pins S d = true) : OpH P pins N op S (app S [(d, .t (.d (.lit (.int .i64 0))))]) := by
 refine .of (e := [(d, _)]) fun hN => ⟨?_, zBU (qN hN hok)⟩
 refine zV fun w0 m0 o0 G ac w m o hN' I => ?_
 obtain ⟨h1, h2, h3⟩ := qA (qX hN hok)
 refine ⟨.int .i64 0, w, m, o, ?_, by rw [hd]; exact I.set d _ _ (by omega) h2 (.lit _ rfl)⟩
 unfold execOp
 rw [hop]
 simp only [resolve, invoke, builtin, Sem.run_bind, Sem.run_pure, Result.andThen_ok, List.map_toArray, List.map_cons, List.map_nil]
 rw [zB1 hM.hx I hx]
 simp [Builtin.cap_, run_underlying hu, goInt]
theorem h_slnil (hM : Mk M S) {t e : Nat} {x : Operand} {hi : Option Operand} {ie : TypeInfo} (hop : op.op = .slice t x none hi none) (hx : vO M x = some (.slice none 0 0)) (hhi : bndO M hi = some (some 0)) (hu : P.underlying t = some (.slice e)) (hie : P.info? e = some ie) (hd : op.dst = some d) (hok : okD N pins S d = true) : OpH P pins N op S (app S [(d, .t (.d (.lit (.slice none 0 0))))]) := by
 refine .of (e := [(d, _)]) fun hN => ⟨?_, zBU (qN hN hok)⟩
 refine zV fun w0 m0 o0 G ac w m o hN' I => ?_
 obtain ⟨h1, h2, h3⟩ := qA (qX hN hok)
 obtain ⟨kh, e2⟩ := zDQ hM.hx I hhi
 refine ⟨.slice none 0 0, w, m, o, ?_, by rw [hd]; exact I.set d _ _ (by omega) h2 (.lit _ rfl)⟩
 unfold execOp
 rw [hop]
 simp only [Sem.run_bind]
 rw [e2, zB1 hM.hx I hx]
 have hb : (Instr.sliceBounds true 0 0 none ((some (0 : Int)).map fun z => .int (kh z) z) none).run P w = .ok (0, 0, 0) w := by
  unfold Instr.sliceBounds
  simp only [Option.map_some, Option.isSome_some, Sem.run_bind, Sem.run_pure, Result.andThen_ok]
  repeat (rw [zAq (by omega) (by omega), Result.andThen_ok])
  rfl
 show Result.andThen (Sem.run P (Instr.sliceAt t (.slice none 0 0) none _ none) w) _ = _
 unfold Instr.sliceAt
 simp only [Sem.run_bind, run_underlying hu, Result.andThen_ok]
 unfold Instr.slice
 simp only [Sem.run_bind, run_underlying hu, Result.andThen_ok]
 rw [hb]
 simp [sizeOf, typeInfo, hie]
def growI (nb : Nat) (n : Int) : Option Nat := if 0 < n ∧ n.toNat * nb ≤ 140737488355328 then some n.toNat else none
theorem h_apfr (hM : Mk M S) {t tn e nb q : Nat} {z : Value} {x y : Operand} {ki : IntKind} {n : Int} (hop : op.op = .call { callee := .builtin .append, args := ⟨[x, y]⟩, argTypes := ⟨[t, tn]⟩ }) (hx : vO M x = some (.slice none 0 0)) (hn : vO M y = some (.int ki n)) (hz : zerF P t tn = some (e, nb, z)) (hq : growI nb n = some q) (hd : op.dst = some d) (hok : okD N pins S d = true) : OpH P pins N op S (app S [(d, .fr e 1)]) := by
 unfold zerF at hz
 split at hz
 case h_2 => cases hz
 rename_i e' kn hu htn
 split at hz
 case h_2 => cases hz
 rename_i ie hi
 split at hz
 case h_2 => cases hz
 rename_i kz nz hz0
 split at hz
 case isFalse => cases hz
 rename_i hc
 obtain ⟨hs1, hpb⟩ := hc
 generalize hzz : Value.int kz nz = z' at *
 have hz1 : z'.cells = #[z'] := by rw [← hzz]; rfl
 have hz2 : z'.oneCell' = true := by rw [← hzz]; rfl
 injection hz with hz
 injection hz with q1 hz
 injection hz with q2 q3
 subst q1 q2 q3
 unfold growI at hq
 split at hq
 case isFalse => cases hq
 rename_i hq'
 injection hq with hq
 subst hq
 obtain ⟨hq0, hb⟩ := hq'
 obtain ⟨k, rfl⟩ := Int.eq_ofNat_of_zero_le (Int.le_of_lt hq0)
 simp only [Int.toNat_natCast] at hb
 have hk : 0 < k := by omega
 refine .of (e := [(d, _)]) fun hN => ⟨?_, zBU (qN hN hok)⟩
 refine zV fun w0 m0 o0 G a w m o hN' I => ?_
 obtain ⟨h1, h2, h3⟩ := qA (qX hN hok)
 obtain ⟨A2, c2, w', hrun, hown, hcase⟩ := zHd P w hu kn htn hi hz0 hs1 hz1 hz2 hpb op.type none 0 0 [] (World.ownsRow_nil w 0 e' 1) ki k (by simpa using hb)
 rw [Nat.zero_add] at hrun hown
 obtain ⟨g, cap, cur, hv, _, hg, hcap, hmax, hsz, htk⟩ := hown.2.resolve_left fun h => by omega
 injection hv with hv _ hv2
 subst hv hv2
 have hgr : g = w.heap.size ∧ w.grownBy w' none := by
  rcases hcase with ⟨h, _⟩ | ⟨h, h'⟩
  · cases h
  · injection h with h; exact ⟨h, h'⟩
 obtain ⟨rfl, hgr⟩ := hgr
 refine ⟨_, w', _, _, ?_, by
  rw [hd]
  refine I.own_put d (.fr e' 1) (.slice (some ⟨w.heap.size, 0, none⟩) k c2) (fun _ => none) w.heap.size w' (by omega) h2 h3 (I.free (Nat.le_refl _)) (I.newG (Nat.le_refl _)) ⟨hgr.os, hgr.tape, hgr.output, hgr.size, fun j hj _ => hgr.block j hj (by simp), fun j => (zBA.of_lt fun hj => hgr.block j hj (by simp)).w⟩ (by
   exact (Array.getElem?_eq_some_iff.1 hg).1) (fun p u h => by rw [I.mem_none (Nat.le_refl _)] at h; cases h) (fun p u h => by cases h) ?_
  exact ⟨w.heap.size, k, c2, cur, rfl, zAD _ _ _, fun p => zCt _ _ _ _, hg, hcap, hmax, hsz⟩⟩
 unfold execOp
 rw [hop]
 simp only [resolve, invoke, builtin, Sem.run_bind, Sem.run_pure, Result.andThen_ok, List.map_toArray, List.map_cons, List.map_nil]
 rw [zB1 hM.hx I hx, zB1 hM.hx I hn, hrun]
 rfl
theorem Inv.unown (I : Inv w0 m0 o0 G pins S a w m o) {s g : Nat} (hs : s < OB) (hp : s ∉ pins) (hS : S s = .any) (ho : o g = some (s, 0)) : Inv w0 m0 o0 G pins S a w m (fun b => if b = g then none else o b) := by
 have hk : ∀ b l, (fun b => if b = g then none else o b) b = some l → b ≠ g ∧ o b = some l := by
  intro b l h
  show _ ∧ _
  by_cases e : b = g
  · simp only [e, if_pos] at h; cases h
  · simp only [e, if_neg, if_false] at h; exact ⟨e, h⟩
 have K : Keep (fun l => l.1 = s) m w o m w (fun b => if b = g then none else o b) := ⟨Mle.refl _, fun _ _ _ _ => rfl, fun _ _ _ _ => rfl, fun b l h hn => by
   show (if b = g then none else o b) = _
   rw [if_neg (fun e => by rw [e, ho] at h; injection h with h; exact hn (by rw [← h])), h], fun b j h => by
   show (if b = g then none else o b) = _
   rw [if_neg (fun e => by rw [e, ho] at h; injection h with h; injection h with h; omega), h], fun b t k _ h => ⟨b, k, (hk b _ h).2⟩, fun _ _ _ => .of_eq rfl⟩
 refine ⟨I.same, I.sat, I.mono, I.old, fun b l h => I.own b l (hk b l h).2, fun b l h => I.lt b l (hk b l h).2, fun b b' l h h' => I.inj b b' l (hk b l h).2 (hk b' l h').2, fun p hpp b hb => ?_, fun t => ?_, I.defers, I.tbl, I.wide, I.shps⟩
 · exact K.own b _ (I.pinned p hpp b hb) (fun e => hpp.elim (fun h => hp (by have e : p = s := e; rw [← e]; exact h)) fun h => by have e : p = s := e; omega)
 ·
  by_cases e : t = s
  · subst e; rw [hS]; trivial
  ·
   refine RepA.keep K (fun _ e2 => e e2) (fun b off he hb => ⟨fun e2 => ?_, id⟩) (I.slots t)
   have e2 : b = s := e2
   subst e2
   have h := I.slots t
   rw [he] at h
   obtain ⟨_, _, _, h3⟩ := h
   obtain ⟨l, hl⟩ := h3 hb
   rw [hS] at hl
   cases hl
theorem h_slfr {s : Nat} (hM : Mk M S) {t e E k : Nat} {hi : Option Operand} {ie : TypeInfo} (hop : op.op = .slice t (.tmp s) none hi none) (hxs : M s = .fr E k) (hhi : bndO M hi = some (some 0)) (hu : P.underlying t = some (.slice e)) (hie : P.info? e = some ie) (hsd : (s == d) = false) (hsp : (Nat.blt s OB && !pins.contains s) = true) (hd : op.dst = some d) (hok : okD N pins S d = true) : OpH P pins N op S (app S [(s, .any), (d, .t (.own E k []))]) := by
 simp only [Bool.and_eq_true, Bool.not_eq_true', List.contains_eq_mem, decide_eq_false_iff_not] at hsp
 have hsO : s < OB := by simpa using hsp.1
 have hne : s ≠ d := by simpa using hsd
 refine .of (e := [(s, _), (d, _)]) fun hN => ⟨?_, fun z hz => by
  simp at hz
  rcases hz with rfl | rfl
  · exact .inl hsO
  · exact .inl (qN hN hok)⟩
 refine zV fun w0 m0 o0 G a w m o hN' I => ?_
 obtain ⟨h1, h2, h3⟩ := qA (qX hN hok)
 have hSs : hx S s = .fr E k := by
  rcases hM s with h | h
  · rw [h] at hxs; cases hxs
  · exact zBq (h.symm.trans hxs) (by simp)
 have hs := I.slots s
 rw [hSs] at hs
 obtain ⟨g, n, cap, cur, q1, q2, q3, q4, q5, q6, q7⟩ := hs
 obtain ⟨kh, e2⟩ := zDQ hM.hx I hhi
 have I1 := I.tell s .any (by rw [hSs]; rfl) trivial
 have I2 := I1.unown (g := g) hsO hsp.2 (zZ _ _ _) q2
 have hev : a.eval (.tmp s) = .slice (some ⟨g, 0, none⟩) n cap := q1
 have hb : (Instr.sliceBounds true n cap none ((some (0 : Int)).map fun z => .int (kh z) z) none).run P w = .ok (0, 0, cap) w := by
  unfold Instr.sliceBounds
  simp only [Option.map_some, Option.isSome_some, Sem.run_bind, Sem.run_pure, Result.andThen_ok]
  repeat (rw [zAq (by omega) (by omega), Result.andThen_ok])
  rfl
 refine ⟨.slice (some ⟨g, 0, none⟩) 0 cap, w, _, _, ?_, by
  rw [hd]
  refine I2.own_put d (.t (.own E k [])) (.slice (some ⟨g, 0, none⟩) 0 cap) (fun _ => none) g w (by omega) (by rw [zH (Ne.symm hne)]; exact h2) h3 (fun l h => by simp at h) (I.own g _ q2) (Same.refl _ _) (I.lt g _ q2) (fun p u h => by rw [q3] at h; cases h) (fun p u h => by cases h) ?_
  refine ⟨some ⟨g, 0, none⟩, cap, [], rfl, ⟨by simp, .inr ⟨g, 0, cap, cur, rfl, ⟨_, q4, .inr ⟨rfl, rfl, q7⟩⟩, Nat.zero_le _, q6, .inl (by rw [Nat.zero_add]; exact q7), by simp⟩⟩, fun g' hg' => ?_, fun i r h => by simp at h, fun i r j d h => by simp at h⟩
  injection hg' with hg'
  subst hg'
  exact ⟨zAD _ _ _, fun p _ => zEw _ _ _ _⟩⟩
 unfold execOp
 rw [hop]
 simp only [Sem.run_bind]
 rw [e2, hev]
 show Result.andThen (Sem.run P (Instr.sliceAt t _ none _ none) w) _ = _
 unfold Instr.sliceAt
 simp only [Sem.run_bind, run_underlying hu, Result.andThen_ok]
 unfold Instr.slice
 simp only [Sem.run_bind, run_underlying hu, Result.andThen_ok]
 rw [hb]
 by_cases hc : cap = 0
 · simp [sizeOf, typeInfo, hie, hc]
 · simp [sizeOf, typeInfo, hie, hc, Addr.add_mid]
end
end Go.Proofs.Ytjomnccladjpgaa
