/-
  Texts joined: see the remark at the head of each part.
-/
import Derived.MapKept
import Derived.Test.YtjomnccladjpgaaD08
import Derived.Test.YtjomnccladjpgaaD09
import Derived.WalkSpells
import Derived.Lib.BufferWrite
set_option linter.unusedVariables false
set_option linter.unusedSimpArgs false
/-
 Maps: a map that a local object holds, told by its entries in the order in which they came.
-/
namespace Go.Proofs.Ytjomnccladjpgaa
open Go Go.RowKit
set_option linter.unusedVariables false
section
variable {κ ν : Type} [BEq κ]
def mpos (l : List (κ × ν)) (k : κ) : Option Nat := l.findIdx? fun p => k == p.1
def zY (l : List (κ × ν)) (k : κ) : Option ν := match mpos l k with
 | some i => (l[i]?).map (·.2)
 | none => none
def mset (l : List (κ × ν)) (k : κ) (v : ν) : List (κ × ν) := match mpos l k with
 | some i => l.set i (k, v)
 | none => l ++ [(k, v)]
def mdel (l : List (κ × ν)) (k : κ) : List (κ × ν) := match mpos l k with
 | some i => l.eraseIdx i
 | none => l
end
theorem RepE.toT {m : Mem} {w : World} {o : OwnM} {loc : Nat × Nat} : ∀ {x : T} {v : Value}, RepE m x v → RepT m w o loc x v
 | .d _, _, h => h
 | .agg _, _, h => h
structure KeyT (P : Program) (kt : TypeId) {κ : Type} [BEq κ] (kv : κ → Value) (kT : κ → T) where
 d : TypeDesc
 und : P.underlying kt = some d
 same : ∀ a b, Instr.sameNow d (kv a) (kv b) = some (a == b)
 chk : ∀ a (e : Bool) (w : World), (Instr.checkKey e 10000 kt (kv a)).run P w = .ok () w
 bits : ∀ a b, (a == b) = true → Instr.sameBits 10000 (kv b) (kv a) = true
 rep : ∀ a m, RepE m (kT a) (kv a)
 inv : ∀ a m v, RepE m (kT a) v → v = kv a
abbrev kL {κ : Type} (kv : κ → Value) : κ → T := fun k => .d (.lit (kv k))
theorem kL_rep {u : Value} (h : u.oneCell' = true) (m : Mem) : RepE m (.d (.lit u)) u := .lit u h
theorem kL_inv {u v : Value} {m : Mem} (h : RepE m (.d (.lit u)) v) : v = u := by
 have h : RepD m (.lit u) v := h
 cases h with
 | lit _ _ => rfl
def keyInt {P : Program} {kt : TypeId} {k : IntKind} (h : P.underlying kt = some (.int k)) : KeyT P kt (fun z : Int => Value.int k z) (kL fun z : Int => Value.int k z) :=
 ⟨.int k, h, fun a b => by simp [Instr.sameNow], fun a e w => MapKept.run_checkKey h (by simp [MapKept.IsKey]) e 9999, fun (a b : Int) (h : (a == b) = true) => by simp at h; simp [Instr.sameBits, h], fun _ => kL_rep rfl, fun _ _ _ => kL_inv⟩
def EntR (m : Mem) {κ ν : Type} (kv : κ → Value) (vT : ν → T) (l : List (κ × ν)) (es : List MapEntry) : Prop := es.length = l.length ∧ ∀ (i : Nat) (x : κ × ν), l[i]? = some x → ∃ e, es[i]? = some e ∧ e.key = kv x.1 ∧ RepE m (vT x.2) e.val
section
variable {κ ν : Type} [BEq κ] {P : Program} {kt : TypeId} {kv : κ → Value} {kT : κ → T} {vT : ν → T} {m : Mem}
theorem zFV (K : KeyT P kt kv kT) (k : κ) : ∀ (l : List (κ × ν)) (es : List MapEntry) (i0 : Nat), EntR m kv vT l es → Instr.findNow K.d (kv k) es i0 = some ((l.findIdx? fun p => k == p.1).map fun i => (i0 + i, ((es[i]?).map (·.val)).getD undef))
 | [], es, i0, h => by
  rw [List.eq_nil_of_length_eq_zero h.1]
  rfl
 | x :: r, es, i0, h => by
  obtain ⟨e, h1, h2, h3⟩ := h.2 0 x rfl
  cases es with
  | nil => simp at h1
  | cons e' es =>
   injection h1 with h1
   subst h1
   unfold Instr.findNow
   rw [h2, K.same]
   have hr : EntR m kv vT r es := ⟨by simpa using h.1, fun i y hy => by simpa using h.2 (i + 1) y (by simpa using hy)⟩
   cases hk : (k == x.1) with
   | true => simp [List.findIdx?_cons, hk]
   | false =>
    simp only
    rw [zFV K k r es (i0 + 1) hr, List.findIdx?_cons, hk]
    simp only [cond_false, Bool.false_eq_true, if_false, Option.map_map]
    congr 1
    congr 1
    funext i
    simp only [Function.comp, List.getElem?_cons_succ]
    congr 1
    omega
end
section
variable {w0 : World} {m0 : Mem} {o0 : OwnM} {G : GD} {pins : List Nat} {S M : Nat → A} {a : Act} {w : World} {m : Mem} {o : OwnM} {P : Program} {N : Nat} {op : Oper} {d : Nat}
abbrev mpT {κ ν : Type} (kT : κ → T) (vT : ν → T) (l : List (κ × ν)) : A := .mp (l.map fun p => (kT p.1, vT p.2))
abbrev mpA {κ ν : Type} (kv : κ → Value) (cv : ν → D) (l : List (κ × ν)) : A := mpT (kL kv) (fun v => .d (cv v)) l
theorem zJa {κ ν : Type} [BEq κ] {P : Program} {kt : TypeId} {kv : κ → Value} {kT : κ → T} {vT : ν → T} (K : KeyT P kt kv kT) {l : List (κ × ν)} {es : Array MapEntry} (h : es.size = (l.map fun p => (kT p.1, vT p.2)).length ∧ ∀ (i : Nat) (x : T × T), (l.map fun p => (kT p.1, vT p.2))[i]? = some x → ∃ e, es[i]? = some e ∧ RepE m x.1 e.key ∧ RepE m x.2 e.val) : EntR m kv vT l es.toList := by
 refine ⟨by simpa using h.1, fun i x hi => ?_⟩
 obtain ⟨e, h1, h2, h3⟩ := h.2 i (kT x.1, vT x.2) (by rw [List.getElem?_map, hi]; rfl)
 exact ⟨e, by simpa using h1, K.inv _ _ _ h2, h3⟩
theorem ent_mp {κ ν : Type} [BEq κ] {P : Program} {kt : TypeId} {kv : κ → Value} {kT : κ → T} {vT : ν → T} (K : KeyT P kt kv kT) {l : List (κ × ν)} {es : Array MapEntry} (h : EntR m kv vT l es.toList) : es.size = (l.map fun p => (kT p.1, vT p.2)).length ∧ ∀ (i : Nat) (x : T × T), (l.map fun p => (kT p.1, vT p.2))[i]? = some x → ∃ e, es[i]? = some e ∧ RepE m x.1 e.key ∧ RepE m x.2 e.val := by
 refine ⟨by simpa using h.1, fun i x hi => ?_⟩
 rw [List.getElem?_map] at hi
 cases hl : l[i]? with
 | none => rw [hl] at hi; cases hi
 | some y =>
  rw [hl] at hi
  injection hi with hi
  subst hi
  obtain ⟨e, h2, h3, h4⟩ := h.2 i y hl
  exact ⟨e, by simpa using h2, by rw [h3]; exact K.rep _ _, h4⟩
def zJl : List D → Option (List Value)
 | [] => some []
 | .lit u :: r => (zJl r).map (u :: ·)
 | _ => none
theorem zHz {m : Mem} : ∀ {l : List D} {us vs : List Value}, zJl l = some us → RepL m l vs → vs = us
 | [], us, vs, h, hr => by injection h with h; subst h; exact List.eq_nil_of_length_eq_zero hr.1
 | .lit u :: r, us, vs, h, hr => by
  unfold zJl at h
  cases hq : zJl r with
  | none => rw [hq] at h; cases h
  | some us' =>
   rw [hq] at h
   injection h with h
   subst h
   cases vs with
   | nil => cases hr.1
   | cons v vs =>
    obtain ⟨u', e, h1⟩ := hr.2 0 (.lit u) rfl
    injection e with e
    subst e
    have hv : v = u := by cases h1 with | lit _ _ => rfl
    have : RepL m r vs := ⟨by have := hr.1; simpa using this, fun j d hj => by obtain ⟨x, q1, q2⟩ := hr.2 (j + 1) d (by simpa using hj); exact ⟨x, by simpa using q1, q2⟩⟩
    rw [hv, zHz hq this]
def vK (M : Nat → A) (y : Operand) : Option Value := match cpO M y with
 | .t (.d (.lit u)) => some u
 | .t (.agg l) => (zJl l).map fun us => .agg us.toArray
 | _ => none
def tK (M : Nat → A) (y : Operand) : Option T := match cpO M y with
 | .t (.d x) => some (.d x)
 | .t (.agg l) => some (.agg l)
 | _ => none
theorem vK_eq (hM : Mk M S) (I : Inv w0 m0 o0 G pins S a w m o) {y : Operand} {u : Value} (h : vK M y = some u) : a.eval y = u := by
 have hr := qG hM I y 0
 unfold vK at h
 split at h
 ·
  rename_i e
  injection h with h
  subst h
  rw [e] at hr
  exact kL_inv (m := m) hr
 ·
  rename_i l e
  rw [e] at hr
  obtain ⟨vs, e1, h1⟩ := hr
  cases hq : zJl l with
  | none => rw [hq] at h; cases h
  | some us =>
   rw [hq] at h
   injection h with h
   subst h
   rw [e1, ← zHz hq h1]
 · cases h
theorem tK_rep (hM : Mk M S) (I : Inv w0 m0 o0 G pins S a w m o) {y : Operand} {x : T} (h : tK M y = some x) : RepE m x (a.eval y) := by
 have hr := qG hM I y 0
 unfold tK at h
 split at h
 · rename_i e; injection h with h; subst h; rw [e] at hr; exact hr
 · rename_i e; injection h with h; subst h; rw [e] at hr; exact hr
 · cases h
theorem vK_of {y : Operand} {u : Value} (h : vO M y = some u) : vK M y = some u := by
 unfold vO dO at h
 unfold vK
 cases hc : cpO M y with
 | t x =>
  rw [hc] at h
  cases x with
  | d x => cases x <;> simp_all
  | _ => simp_all
 | _ => rw [hc] at h; simp_all
theorem tK_of {y : Operand} {x : D} (h : dO M y = some x) : tK M y = some (.d x) := by
 unfold dO at h
 unfold tK
 cases hc : cpO M y with
 | t x =>
  rw [hc] at h
  cases x <;> simp_all
 | _ => rw [hc] at h; simp_all
theorem Inv.map_turn (I : Inv w0 m0 o0 G pins S a w m o) {j g : Nat} {l l' : List (T × T)} (hb : S (OB + j) = .mp l) (ho : o g = some (OB + j, 0)) {es es' : Array MapEntry} {ck ck' : Nat} (hg : w.heap[g]? = some (.map es ck)) (hmn : ∀ p, m g p = none) (hst : Stm es' ck')
  (hc : es'.size = l'.length ∧ ∀ (i : Nat) (x : T × T), l'[i]? = some x → ∃ e, es'[i]? = some e ∧ RepE m x.1 e.key ∧ RepE m x.2 e.val) :
  Inv w0 m0 o0 G pins (upd S (OB + j) (.mp l')) a { w with heap := w.heap.setIfInBounds g (.map es' ck') } m o := by
 obtain ⟨q1, q2⟩ := MapKept.heap_set (o' := .map es' ck') hg
 have hglt : g < w.heap.size := (Array.getElem?_eq_some_iff.1 hg).1
 have hne : ∀ b l, o b = some l → l ≠ (OB + j, 0) → b ≠ g := fun b l h hn e => by rw [e, ho] at h; injection h with h; exact hn h.symm
 have hsh : ∀ g', zBA w { w with heap := w.heap.setIfInBounds g (.map es' ck') } g' := fun g' => by
  by_cases e : g' = g
  · subst e; intro cs E f h; rw [hg] at h; cases h
  · exact .of_eq (q2 g' e)
 have hS : Same (fun x => G x ∨ w0.heap.size ≤ x) w { w with heap := w.heap.setIfInBounds g (.map es' ck') } := ⟨rfl, rfl, rfl, by simp, fun k _ hk => q2 k fun e => hk (by rw [e]; exact I.own g _ ho), fun k => (hsh k).w⟩
 have K : Keep (fun l => l = (OB + j, 0)) m w o m { w with heap := w.heap.setIfInBounds g (.map es' ck') } o :=
  ⟨Mle.refl _, fun _ _ _ _ => rfl, fun b l h hn => q2 b (hne b l h hn), fun b l h _ => h, fun b j' h => h, fun b s k _ h => ⟨b, k, h⟩, fun g' _ _ => hsh g'⟩
 refine ⟨I.same.trans hS, fun b p u h => ?_, I.mono, I.old, I.own, fun g' l h => by simpa using I.lt g' l h, I.inj, I.pinned, fun s => ?_, I.defers, I.tbl, I.wide, I.shps.keep I.pinned K.sh⟩
 ·
  have h1 := I.sat b p u h
  have hbg : b ≠ g := fun e => by rw [e, hmn] at h; cases h
  rw [World.cell?_of_block (w := w) (q2 b hbg)]
  exact h1
 ·
  by_cases e : s = OB + j
  ·
   subst e
   rw [zZ]
   exact ⟨g, ho, hmn, es', ck', q1, hst, hc.1, hc.2⟩
  ·
   rw [zH e]
   refine RepA.keep K (fun _ e' => by injection e' with e' _; exact e e') (fun b off _ hb' => ⟨fun e' => by injection e' with e' _; omega, fun ⟨l', hl'⟩ => ⟨l', ?_⟩⟩) (I.slots s)
   rw [zH (by omega), hl']
theorem Inv.map_new (I : Inv w0 m0 o0 G pins S a w m o) {j : Nat} (hfree : S (OB + j) = .free) : Inv w0 m0 o0 G pins (upd S (OB + j) (.mp [])) a (w.alloc (.map #[] 0)) m (newO o (OB + j) w.heap.size) := by
 have hf : ∀ g k, o g ≠ some (OB + j, k) := by have := I.slots (OB + j); rw [hfree] at this; exact this
 have hS : Same (fun _ => False) w (w.alloc (.map #[] 0)) := Same.alloc _ _ _
 have hne : ∀ b l, o b = some l → b ≠ w.heap.size := fun b l h e => by have := I.lt b l h; omega
 have hk : ∀ b l, o b = some l → newO o (OB + j) w.heap.size b = some l := by
  intro b l h
  unfold newO
  rw [if_neg (hne b l h), h, if_neg]
  intro e
  obtain ⟨s, k⟩ := l
  injection e with e
  subst e
  exact hf b k h
 have hk' : ∀ b l, newO o (OB + j) w.heap.size b = some l → (b = w.heap.size ∧ l = (OB + j, 0)) ∨ (b ≠ w.heap.size ∧ o b = some l) := by
  intro b l h
  unfold newO at h
  split at h
  · rename_i e; injection h with h; exact .inl ⟨e, h.symm⟩
  ·
   split at h
   · cases h
   · rename_i e _; exact .inr ⟨e, h⟩
 have hsh : ∀ g, zBA w (w.alloc (.map #[] 0)) g := fun g => .of_lt fun h => hS.block g h id
 have K : Keep (fun l => l.1 = OB + j) m w o m (w.alloc (.map #[] 0)) (newO o (OB + j) w.heap.size) :=
  ⟨Mle.refl _, fun _ _ _ _ => rfl, fun b l h _ => hS.block b (I.lt b l h) id, fun b l h _ => hk b l h, fun b j' h => hk b _ h, fun b s k hs h => by
   rcases hk' b _ h with ⟨_, e⟩ | ⟨_, e⟩
   · injection e with e _; exact absurd e hs
   · exact ⟨b, k, e⟩, fun g _ _ => hsh g⟩
 refine ⟨I.same.trans (hS.weaken fun _ h => h.elim), fun b p u h => ?_, I.mono, I.old, fun g l h => ?_, fun g l h => ?_, fun g g' l h h' => ?_, fun s hs g hg => hk g _ (I.pinned s hs g hg), fun s => ?_, I.defers, I.tbl, I.wide, I.shps.keep I.pinned K.sh⟩
 ·
  have h1 := I.sat b p u h
  have hlt : b < w.heap.size := by have := World.block_lt_of_cell? w _ h1; simpa using this
  rw [World.cell?_of_block (w := w) (hS.block b hlt id)]
  exact h1
 ·
  rcases hk' g l h with ⟨e, _⟩ | ⟨_, e⟩
  · subst e; exact I.newG (Nat.le_refl _)
  · exact I.own g l e
 ·
  rcases hk' g l h with ⟨e, _⟩ | ⟨_, e⟩
  · subst e; simp
  · exact Nat.lt_of_lt_of_le (I.lt g l e) hS.size
 ·
  rcases hk' g l h with ⟨e, q⟩ | ⟨_, e⟩ <;> rcases hk' g' l h' with ⟨e', q'⟩ | ⟨_, e'⟩
  · rw [e, e']
  · subst q; exact absurd e' (hf _ _)
  · subst q'; exact absurd e (hf _ _)
  · exact I.inj _ _ _ e e'
 ·
  by_cases e : s = OB + j
  ·
   subst e
   rw [zZ]
   exact ⟨w.heap.size, zAD _ _ _, fun p => I.mem_none (Nat.le_refl _), #[], 0, (MapKept.heap_alloc w _).1, ⟨by simp, by simp⟩, rfl, fun i x hi => by simp at hi⟩
  ·
   rw [zH e]
   exact RepA.keep K (fun _ => e) (fun b off _ hb => ⟨fun e' => by have : b = OB + j := e'; omega, fun ⟨l', hl'⟩ => ⟨l', by rw [zH (by omega), hl']⟩⟩) (I.slots s)
theorem ok_mkm {j t : Nat} (hop : op.op = .makeMap t none) (hd : op.dst = some d) (hok : okD N pins S d = true) (hdO : d < OB) (hfree : S (OB + j) = .free) : OpOK P pins N op S (upd (upd S (OB + j) (.mp [])) d (.t (.mpt j))) := by
 refine zV fun w0 m0 o0 G a w m o hN I => ?_
 obtain ⟨h1, h2, h3⟩ := qA hok
 have J := I.map_new hfree
 refine ⟨.map (some w.heap.size), _, _, _, ?_, by rw [hd]; exact J.set d _ _ (by omega) (by rw [zH (by omega)]; exact h2) ⟨_, zAD _ _ _, rfl⟩⟩
 unfold execOp
 rw [hop]
 rfl
theorem ok_mlk {κ ν : Type} [BEq κ] {kv : κ → Value} {kT : κ → T} {vT : ν → T} (hM : Mk M S) {j t kt et : Nat} {x y : Operand} {l : List (κ × ν)} {k : κ} {z : ν} (hop : op.op = .lookup t x y false) (hx : cpO M x = .t (.mpt j)) (hb : S (OB + j) = mpT kT vT l) (hy : vK M y = some (kv k)) (hu : P.underlying t = some (.map kt et)) (K : KeyT P kt kv kT)
  {i : TypeInfo} {zv : Value} (hi : P.info? et = some i) (hz : i.zero = some zv) (hzr : ∀ m, RepE m (vT z) zv) (hd : op.dst = some d) (hok : okD N pins S d = true) : OpOK P pins N op S (upd S d (.t (vT ((zY l k).getD z)))) := by
 refine zV fun w0 m0 o0 G a w m o hN I => ?_
 obtain ⟨h1, h2, h3⟩ := qA hok
 have hxr := qG hM I x 0
 rw [hx] at hxr
 obtain ⟨g, k1, k2⟩ := hxr
 have hbs := I.slots (OB + j)
 rw [hb] at hbs
 obtain ⟨g', q1, q2, es, ck, q3, hst, q4⟩ := hbs
 obtain rfl := I.inj _ _ _ k1 q1
 have hE := zJa K q4
 have hf := zFV (m := m) K k l es.toList 0 hE
 have hpos : (l.findIdx? fun p => k == p.1) = mpos l k := rfl
 rw [hpos] at hf
 have hrun : ∀ r, (match mpos l k with | some q => (((es[q]?).map (·.val)).getD undef) | none => zv) = r → (Instr.lookup t (.map (some g)) (kv k) false).run P w = .ok r w := fun r hr => by
  unfold Instr.lookup
  simp only [Sem.run_bind, run_underlying hu, Result.andThen_ok]
  rw [MapKept.run_getObj_map q3]
  simp only [Result.andThen_ok, Sem.run_pure, pure_bind, Sem.run_bind]
  rw [K.chk]
  simp only [Result.andThen_ok, Sem.run_bind]
  rw [MapKept.run_findKey K.und hf]
  simp only [Result.andThen_ok]
  cases hp : mpos l k with
  | none => rw [hp] at hr; simp only [Option.map_none]; simp [zeroValue, typeInfo, hi, hz, go_sem, ← hr]
  | some q => rw [hp] at hr; simp only [Option.map_some]; simp [← hr]
 have hv : RepE m (vT ((zY l k).getD z)) (match mpos l k with | some q => (((es[q]?).map (·.val)).getD undef) | none => zv) := by
  unfold zY
  cases hp : mpos l k with
  | none => exact hzr m
  | some q =>
   have hlt : q < l.length := (List.findIdx?_eq_some_iff_getElem.1 hp).1
   obtain ⟨e, h4, h5, h6⟩ := hE.2 q l[q] (List.getElem?_eq_getElem hlt)
   simp only [List.getElem?_eq_getElem hlt, Option.map_some, Option.getD_some]
   have h4 : es[q]? = some e := by simpa using h4
   rw [h4]
   exact h6
 refine ⟨_, w, m, o, ?_, by rw [hd]; exact I.set d (.t (vT ((zY l k).getD z))) _ (by omega) h2 hv.toT⟩
 unfold execOp
 rw [hop]
 simp only [Sem.run_bind]
 rw [vK_eq hM I hy, k2, hrun _ rfl]
 rfl
theorem stm_push {es : Array MapEntry} {ck : Nat} {k v : Value} (h : Stm es ck) : Stm (es.push { key := k, val := v, born := ck }) (ck + 1) := by
 refine ⟨fun x hx => ?_, ?_⟩
 ·
  simp only [Array.toList_push, List.mem_append, List.mem_singleton] at hx
  rcases hx with hx | rfl
  · exact Nat.lt_succ_of_lt (h.1 x hx)
  · exact Nat.lt_succ_self _
 ·
  simp only [Array.toList_push, List.map_append, List.map_cons, List.map_nil]
  refine List.nodup_append.2 ⟨h.2, by simp, fun a ha b hb => ?_⟩
  simp only [List.mem_singleton] at hb
  subst hb
  obtain ⟨x, hx, rfl⟩ := List.mem_map.1 ha
  exact Nat.ne_of_lt (h.1 x hx)
theorem zKL {es : Array MapEntry} {ck q : Nat} {k v : Value} (h : Stm es ck) : Stm (es.modify q fun e => { e with key := k, val := v }) ck := by
 have hb : (es.modify q fun e => { e with key := k, val := v }).toList.map (·.born) = es.toList.map (·.born) := by
  apply List.ext_getElem?
  intro j
  simp only [List.getElem?_map, Array.getElem?_toList, Array.getElem?_modify]
  by_cases hij : q = j
  · subst hij; cases es[q]? <;> simp
  · simp [hij]
 refine ⟨fun x hx => ?_, by rw [hb]; exact h.2⟩
 have h1 : x.born ∈ (es.modify q fun e => { e with key := k, val := v }).toList.map (·.born) := List.mem_map.2 ⟨x, hx, rfl⟩
 rw [hb] at h1
 obtain ⟨y, hy, e⟩ := List.mem_map.1 h1
 rw [← e]
 exact h.1 y hy
theorem stm_erase {es : Array MapEntry} {ck q : Nat} (h : Stm es ck) : Stm (es.eraseIdxIfInBounds q) ck := by
 have hs : (es.eraseIdxIfInBounds q).toList.Sublist es.toList := by
  unfold Array.eraseIdxIfInBounds
  split
  · simp only [Array.toList_eraseIdx]; exact List.eraseIdx_sublist _ _
  · exact List.Sublist.refl _
 exact ⟨fun x hx => h.1 x (hs.subset hx), h.2.sublist (hs.map _)⟩
theorem run_mup {t kt et : TypeId} {κ ν : Type} [BEq κ] {kv : κ → Value} {kT : κ → T} {vT : ν → T} (K : KeyT P kt kv kT) (hu : P.underlying t = some (.map kt et)) {g ck : Nat} {es : Array MapEntry} (hg : w.heap[g]? = some (.map es ck)) {l : List (κ × ν)} (hE : EntR m kv vT l es.toList) (hst : Stm es ck) (k : κ) {v : ν} {u : Value} (hv : RepE m (vT v) u) :
  ∃ es' ck', Stm es' ck' ∧ (Instr.mapUpdate t (.map (some g)) (kv k) u).run P w = .ok () { w with heap := w.heap.setIfInBounds g (.map es' ck') } ∧ EntR m kv vT (mset l k v) es'.toList := by
 have hf := zFV (m := m) K k l es.toList 0 hE
 have hpos : (l.findIdx? fun p => k == p.1) = mpos l k := rfl
 rw [hpos] at hf
 have start : ∀ r, (match mpos l k with
   | some i => do
    let key ← Instr.keyThatStays (((es[i]?).map (·.key)).getD (kv k)) (kv k)
    setObj g (.map (es.modify i fun e => { e with key, val := u }) ck)
   | none => setObj g (.map (es.push { key := kv k, val := u, born := ck }) (ck + 1)) : Sem Unit).run P w = r → (Instr.mapUpdate t (.map (some g)) (kv k) u).run P w = r := fun r hr => by
  unfold Instr.mapUpdate
  simp only [Sem.run_bind, run_underlying hu, Result.andThen_ok]
  rw [MapKept.run_getObj_map hg]
  simp only [Result.andThen_ok, Sem.run_bind]
  rw [K.chk]
  simp only [Result.andThen_ok, Sem.run_bind]
  rw [MapKept.run_findKey K.und hf]
  simp only [Result.andThen_ok]
  cases hp : mpos l k with
  | none => rw [hp] at hr; exact hr
  | some q => rw [hp] at hr; simp only [Option.map_some, Nat.zero_add]; exact hr
 cases hp : mpos l k with
 | none =>
  rw [hp] at start
  refine ⟨es.push { key := kv k, val := u, born := ck }, ck + 1, stm_push hst, start _ (MapKept.run_setObj_map _ hg), ?_⟩
  unfold mset
  rw [hp]
  refine ⟨by simp [hE.1], fun i x hi => ?_⟩
  rw [List.getElem?_append] at hi
  have hlen := hE.1
  split at hi
  ·
   rename_i hlt
   obtain ⟨e, h1, h2, h3⟩ := hE.2 i x hi
   refine ⟨e, ?_, h2, h3⟩
   rw [Array.toList_push, List.getElem?_append_left (by omega)]
   exact h1
  ·
   rename_i hlt
   have hil : i = l.length := by
    rcases Nat.lt_or_ge (i - l.length) 1 with h | h
    · omega
    · rw [List.getElem?_eq_none (by simpa using h)] at hi; cases hi
   subst hil
   rw [Nat.sub_self] at hi
   injection hi with hi
   subst hi
   refine ⟨{ key := kv k, val := u, born := ck }, ?_, rfl, hv⟩
   rw [Array.toList_push, List.getElem?_append_right (by omega), hlen, Nat.sub_self]
   rfl
 | some q =>
  rw [hp] at start
  have hp' := List.findIdx?_eq_some_iff_getElem.1 hp
  obtain ⟨hlt, heq, _⟩ := hp'
  obtain ⟨e, h4, h5, h6⟩ := hE.2 q l[q] (List.getElem?_eq_getElem hlt)
  have h4' : es[q]? = some e := by simpa using h4
  have hk : Instr.keyThatStays (((es[q]?).map (·.key)).getD (kv k)) (kv k) = pure (kv k) := by
   unfold Instr.keyThatStays
   rw [h4']
   simp only [Option.map_some, Option.getD_some]
   rw [h5, if_pos (K.bits _ _ heq)]
  refine ⟨es.modify q fun e => { e with key := kv k, val := u }, ck, zKL hst, start _ (by show (do let key ← Instr.keyThatStays (((es[q]?).map (·.key)).getD (kv k)) (kv k); setObj g (.map (es.modify q fun e => { e with key, val := u }) ck) : Sem Unit).run P w = _; rw [hk]; simp only [pure_bind]; exact MapKept.run_setObj_map _ hg), ?_⟩
  unfold mset
  rw [hp]
  have hes : (es.modify q fun e => { e with key := kv k, val := u }).toList = es.toList.modify q fun e => { e with key := kv k, val := u } := by simp
  rw [hes]
  refine ⟨by simp [hE.1], fun i x hi => ?_⟩
  rw [List.getElem?_set] at hi
  rw [List.getElem?_modify]
  split at hi
  ·
   rename_i e2
   subst e2
   first | rw [if_pos hlt] at hi | skip
   injection hi with hi
   subst hi
   exact ⟨{ e with key := kv k, val := u }, by rw [h4]; simp, rfl, hv⟩
  ·
   rename_i e2
   obtain ⟨e', h1, h2, h3⟩ := hE.2 i x hi
   exact ⟨e', by rw [h1]; simp [e2], h2, h3⟩
theorem ok_mup {κ ν : Type} [BEq κ] {kv : κ → Value} {kT : κ → T} {vT : ν → T} (hM : Mk M S) {j t kt et : Nat} {x y z : Operand} {l : List (κ × ν)} {k : κ} {v : ν} (hop : op.op = .mapUpdate t x y z) (hx : cpO M x = .t (.mpt j)) (hb : S (OB + j) = mpT kT vT l) (hy : vK M y = some (kv k)) (hz : tK M z = some (vT v)) (hu : P.underlying t = some (.map kt et)) (K : KeyT P kt kv kT)
  (hd : op.dst = none) : OpOK P pins N op S (upd S (OB + j) (mpT kT vT (mset l k v))) := by
 refine zDv hd fun w0 m0 o0 G a w m o hN I => ?_
 have hxr := qG hM I x 0
 rw [hx] at hxr
 obtain ⟨g, k1, k2⟩ := hxr
 have hbs := I.slots (OB + j)
 rw [hb] at hbs
 obtain ⟨g', q1, q2, es, ck, q3, hst, q4⟩ := hbs
 obtain rfl := I.inj _ _ _ k1 q1
 obtain ⟨es', ck', hst', hr, hE'⟩ := run_mup (m := m) K hu q3 (zJa K q4) hst k (tK_rep hM I hz)
 refine ⟨_, m, o, ?_, I.map_turn (ck' := ck') hb q1 q3 q2 hst' (ent_mp K hE')⟩
 unfold execOp
 rw [hop]
 simp only [Sem.run_bind]
 rw [vK_eq hM I hy, k2, hr]
 rfl
theorem ok_mdl {κ ν : Type} [BEq κ] {kv : κ → Value} {kT : κ → T} {vT : ν → T} (hM : Mk M S) {j t kt et : Nat} {x y : Operand} {ts : Array TypeId} {l : List (κ × ν)} {k : κ} (hop : op.op = .call { callee := .builtin .delete, args := #[x, y], argTypes := ts }) (hts : ts[0]? = some t) (hx : cpO M x = .t (.mpt j)) (hb : S (OB + j) = mpT kT vT l) (hy : vK M y = some (kv k)) (hu : P.underlying t = some (.map kt et)) (K : KeyT P kt kv kT)
  (hd : op.dst = none) : OpOK P pins N op S (upd S (OB + j) (mpT kT vT (mdel l k))) := by
 refine zV fun w0 m0 o0 G a w m o hN I => ?_
 have hxr := qG hM I x 0
 rw [hx] at hxr
 obtain ⟨g, k1, k2⟩ := hxr
 have hbs := I.slots (OB + j)
 rw [hb] at hbs
 obtain ⟨g', q1, q2, es, ck, q3, hst, q4⟩ := hbs
 obtain rfl := I.inj _ _ _ k1 q1
 have hE := zJa K q4
 have hf := zFV (m := m) K k l es.toList 0 hE
 have hpos : (l.findIdx? fun p => k == p.1) = mpos l k := rfl
 rw [hpos] at hf
 let es' : Array MapEntry := match mpos l k with
  | some q => es.eraseIdxIfInBounds q
  | none => es
 have hrun : (Builtin.delete_ ts op.type #[.map (some g), kv k]).run P w = .ok (.tuple #[]) { w with heap := w.heap.setIfInBounds g (.map es' ck) } := by
  unfold Builtin.delete_
  simp only [hts]
  simp only [Sem.run_bind, run_underlying hu, Result.andThen_ok, List.getElem?_toArray, List.getElem?_cons_zero, List.getElem?_cons_succ]
  rw [MapKept.run_getObj_map q3]
  simp only [Result.andThen_ok, Sem.run_bind]
  rw [K.chk]
  simp only [Result.andThen_ok, Sem.run_bind]
  rw [MapKept.run_findKey K.und hf]
  simp only [Result.andThen_ok]
  show _ = Result.ok _ { w with heap := w.heap.setIfInBounds g (.map (match mpos l k with | some q => es.eraseIdxIfInBounds q | none => es) ck) }
  cases hp : mpos l k with
  | none => simp only [Option.map_none, Sem.run_bind]; rw [MapKept.run_setObj_map _ q3]; rfl
  | some q => simp only [Option.map_some, Nat.zero_add, Sem.run_bind]; rw [MapKept.run_setObj_map _ q3]; rfl
 have hst' : Stm es' ck := by
  show Stm (match mpos l k with | some q => es.eraseIdxIfInBounds q | none => es) ck
  split
  · exact stm_erase hst
  · exact hst
 have hE' : EntR m kv vT (mdel l k) es'.toList := by
  show EntR m kv vT (match mpos l k with | some i => l.eraseIdx i | none => l) (match mpos l k with | some q => es.eraseIdxIfInBounds q | none => es).toList
  cases hp : mpos l k with
  | none => exact hE
  | some q =>
   obtain ⟨hlt, heq, _⟩ := List.findIdx?_eq_some_iff_getElem.1 hp
   have hes : (es.eraseIdxIfInBounds q).toList = es.toList.eraseIdx q := by simp
   simp only
   rw [hes]
   refine ⟨by rw [List.length_eraseIdx, List.length_eraseIdx, hE.1], fun i x hi => ?_⟩
   rw [List.getElem?_eraseIdx] at hi ⊢
   split at hi
   · rename_i h; rw [if_pos h]; exact hE.2 i x hi
   · rename_i h; rw [if_neg h]; exact hE.2 _ x hi
 refine ⟨.tuple #[], _, m, o, ?_, by rw [hd]; exact I.map_turn (ck' := ck) hb q1 q3 q2 hst' (ent_mp K hE')⟩
 unfold execOp
 rw [hop]
 simp only [resolve, invoke, builtin, Sem.run_bind, Sem.run_pure, Result.andThen_ok, List.map_toArray, List.map_cons, List.map_nil]
 rw [vK_eq hM I hy, k2, hrun]
 rfl
theorem ok_mln {κ ν : Type} {kT : κ → T} {vT : ν → T} (hM : Mk M S) {j t kt et : Nat} {x : Operand} {l : List (κ × ν)} (hop : op.op = .call { callee := .builtin .len, args := #[x], argTypes := #[t] }) (hx : cpO M x = .t (.mpt j)) (hb : S (OB + j) = mpT kT vT l) (hu : P.underlying t = some (.map kt et)) (hd : op.dst = some d) (hok : okD N pins S d = true) : OpOK P pins N op S (upd S d (.t (.d (.lit (.int .i64 l.length))))) := by
 refine zV fun w0 m0 o0 G a w m o hN I => ?_
 obtain ⟨h1, h2, h3⟩ := qA hok
 have hxr := qG hM I x 0
 rw [hx] at hxr
 obtain ⟨g, k1, k2⟩ := hxr
 have hbs := I.slots (OB + j)
 rw [hb] at hbs
 obtain ⟨g', q1, q2, es, ck, q3, hst, q4⟩ := hbs
 obtain rfl := I.inj _ _ _ k1 q1
 refine ⟨.int .i64 l.length, w, m, o, ?_, by rw [hd]; exact I.set d _ _ (by omega) h2 (.lit _ rfl)⟩
 unfold execOp
 rw [hop]
 simp only [resolve, invoke, builtin, Sem.run_bind, Sem.run_pure, Result.andThen_ok, List.map_toArray, List.map_cons, List.map_nil]
 rw [k2]
 have hl : es.size = l.length := by simpa using q4.1
 have hr : (Builtin.len_ #[t] op.type #[.map (some g)]).run P w = .ok (.int .i64 l.length) w := by
  unfold Builtin.len_
  simp only [List.getElem?_toArray, List.getElem?_cons_zero]
  simp only [Sem.run_bind, run_underlying hu, Result.andThen_ok]
  rw [MapKept.run_getObj_map q3]
  simp [goInt, hl]
 rw [hr]
 rfl
theorem ob_lo {j : Nat} (h : Nat.blt (j + 1) OB = true) : OB + j < OB2 ∧ OB + j ≠ HK := ⟨(zKI h).1, (zKI h).2.1⟩
theorem zJ2 {j : Nat} {x : A} (hM : Mk M S) (hb : M (OB + j) = x) (hn : x ≠ .any) : hx S (OB + j) = x := by
 rcases hM (OB + j) with e | e
 · rw [e] at hb; exact absurd hb.symm hn
 · rw [e] at hb; exact zBq hb hn
theorem h_obj {j : Nat} {x : A} (hj : Nat.blt (j + 1) OB = true) (h : N ≤ OB → Low S → OpOK P pins N op (hx S) (upd (hx S) (OB + j) x)) : OpH P pins N op S (app S [(OB + j, x)]) := by
 intro hN hlo
 obtain ⟨e1, e2⟩ := ob_lo hj
 refine ⟨?_, hlo.upd e1⟩
 show OpOK P pins N op (hx S) (hx (upd S (OB + j) x))
 rw [zBt e1 e2]
 exact h hN hlo
theorem h_mkm (hM : Mk M S) {j t : Nat} {x : A} (hop : op.op = .makeMap t none) (hd : op.dst = some d) (hok : okD N pins S d = true) (hj : Nat.blt (j + 1) OB = true) (hfree : M (OB + j) = .free) (hx0 : A.mp [] = x) : OpH P pins N op S (app S [(OB + j, x), (d, .t (.mpt j))]) := by
 subst hx0
 intro hN hlo
 obtain ⟨e1, e2⟩ := ob_lo hj
 have hdO := qN hN hok
 refine ⟨?_, (hlo.upd e1).upd (lt2 hdO)⟩
 show OpOK P pins N op (hx S) (hx (upd (upd S (OB + j) _) d _))
 rw [zBt (lt2 hdO) (by unfold HK; unfold OB at hdO; omega), zBt e1 e2]
 exact ok_mkm hop hd (qX hN hok) (by simpa using hdO) (zJ2 hM hfree (by simp))
theorem h_mlkT {κ ν : Type} [BEq κ] {kv : κ → Value} {kT : κ → T} {vT : ν → T} (hM : Mk M S) {j t kt et : Nat} {x y : Operand} {l : List (κ × ν)} {k : κ} {z : ν} {r : A} (hop : op.op = .lookup t x y false) (hx : cpO M x = .t (.mpt j)) (hb : M (OB + j) = mpT kT vT l) (hy : vK M y = some (kv k)) (hu : P.underlying t = some (.map kt et)) (K : KeyT P kt kv kT)
  {i : TypeInfo} {zv : Value} (hi : P.info? et = some i) (hz : i.zero = some zv) (hzr : ∀ m, RepE m (vT z) zv) (hr : A.t (vT ((zY l k).getD z)) = r) (hd : op.dst = some d) (hok : okD N pins S d = true) : OpH P pins N op S (app S [(d, r)]) := by
 subst hr
 exact .of (e := [(d, _)]) fun hN => ⟨ok_mlk hM.hx hop hx (zJ2 hM hb (by simp)) hy hu K hi hz hzr hd (qX hN hok), zBU (qN hN hok)⟩
theorem h_mlk {κ ν : Type} [BEq κ] {kv : κ → Value} {cv : ν → D} (hM : Mk M S) {j t kt et : Nat} {x y : Operand} {l : List (κ × ν)} {k : κ} {z : ν} {r : A} (hop : op.op = .lookup t x y false) (hx : cpO M x = .t (.mpt j)) (hb : M (OB + j) = mpA kv cv l) (hy : vO M y = some (kv k)) (hu : P.underlying t = some (.map kt et)) (K : KeyT P kt kv (kL kv))
  {i : TypeInfo} {zv : Value} (hi : P.info? et = some i) (hz : i.zero = some zv) (hzr : ∀ m, RepD m (cv z) zv) (hr : A.t (.d (cv ((zY l k).getD z))) = r) (hd : op.dst = some d) (hok : okD N pins S d = true) : OpH P pins N op S (app S [(d, r)]) := h_mlkT (vT := fun v => .d (cv v)) hM hop hx hb (vK_of hy) hu K hi hz hzr hr hd hok
theorem h_mupT {κ ν : Type} [BEq κ] {kv : κ → Value} {kT : κ → T} {vT : ν → T} (hM : Mk M S) {j t kt et : Nat} {x y z : Operand} {l : List (κ × ν)} {k : κ} {v : ν} (hop : op.op = .mapUpdate t x y z) (hx : cpO M x = .t (.mpt j)) (hb : M (OB + j) = mpT kT vT l) (hy : vK M y = some (kv k)) (hz : tK M z = some (vT v)) (hu : P.underlying t = some (.map kt et)) (K : KeyT P kt kv kT)
  (hd : op.dst = none) (hj : Nat.blt (j + 1) OB = true) : OpH P pins N op S (app S [(OB + j, mpT kT vT (mset l k v))]) :=
 h_obj hj fun hN _ => ok_mup hM.hx hop hx (zJ2 hM hb (by simp)) hy hz hu K hd
theorem h_mup {κ ν : Type} [BEq κ] {kv : κ → Value} {cv : ν → D} (hM : Mk M S) {j t kt et : Nat} {x y z : Operand} {l : List (κ × ν)} {k : κ} {v : ν} (hop : op.op = .mapUpdate t x y z) (hx : cpO M x = .t (.mpt j)) (hb : M (OB + j) = mpA kv cv l) (hy : vO M y = some (kv k)) (hz : dO M z = some (cv v)) (hu : P.underlying t = some (.map kt et)) (K : KeyT P kt kv (kL kv))
  (hd : op.dst = none) (hj : Nat.blt (j + 1) OB = true) : OpH P pins N op S (app S [(OB + j, mpA kv cv (mset l k v))]) := h_mupT (vT := fun v => .d (cv v)) hM hop hx hb (vK_of hy) (tK_of hz) hu K hd hj
theorem h_mdlT {κ ν : Type} [BEq κ] {kv : κ → Value} {kT : κ → T} {vT : ν → T} (hM : Mk M S) {j t kt et : Nat} {x y : Operand} {ts : Array TypeId} {l : List (κ × ν)} {k : κ} (hop : op.op = .call { callee := .builtin .delete, args := #[x, y], argTypes := ts }) (hts : ts[0]? = some t) (hx : cpO M x = .t (.mpt j)) (hb : M (OB + j) = mpT kT vT l) (hy : vK M y = some (kv k)) (hu : P.underlying t = some (.map kt et)) (K : KeyT P kt kv kT)
  (hd : op.dst = none) (hj : Nat.blt (j + 1) OB = true) : OpH P pins N op S (app S [(OB + j, mpT kT vT (mdel l k))]) :=
 h_obj hj fun hN _ => ok_mdl hM.hx hop hts hx (zJ2 hM hb (by simp)) hy hu K hd
theorem h_mdl {κ ν : Type} [BEq κ] {kv : κ → Value} {cv : ν → D} (hM : Mk M S) {j t kt et : Nat} {x y : Operand} {ts : Array TypeId} {l : List (κ × ν)} {k : κ} (hop : op.op = .call { callee := .builtin .delete, args := #[x, y], argTypes := ts }) (hts : ts[0]? = some t) (hx : cpO M x = .t (.mpt j)) (hb : M (OB + j) = mpA kv cv l) (hy : vO M y = some (kv k)) (hu : P.underlying t = some (.map kt et)) (K : KeyT P kt kv (kL kv))
  (hd : op.dst = none) (hj : Nat.blt (j + 1) OB = true) : OpH P pins N op S (app S [(OB + j, mpA kv cv (mdel l k))]) := h_mdlT (vT := fun v => .d (cv v)) hM hop hts hx hb (vK_of hy) hu K hd hj
theorem h_mlnT {κ ν : Type} {kT : κ → T} {vT : ν → T} (hM : Mk M S) {j t kt et : Nat} {x : Operand} {l : List (κ × ν)} {r : A} (hop : op.op = .call { callee := .builtin .len, args := #[x], argTypes := #[t] }) (hx : cpO M x = .t (.mpt j)) (hb : M (OB + j) = mpT kT vT l) (hu : P.underlying t = some (.map kt et)) (hr : A.t (.d (.lit (.int .i64 l.length))) = r) (hd : op.dst = some d) (hok : okD N pins S d = true) : OpH P pins N op S (app S [(d, r)]) := by
 subst hr
 exact .of (e := [(d, _)]) fun hN => ⟨ok_mln hM.hx hop hx (zJ2 hM hb (by simp)) hu hd (qX hN hok), zBU (qN hN hok)⟩
end
end Go.Proofs.Ytjomnccladjpgaa

/-
 Maps that the heap holds.
-/
namespace Go.Proofs.Ytjomnccladjpgaa
open Go Go.RowKit
set_option linter.unusedVariables false
section
variable {w0 : World} {m0 : Mem} {o0 : OwnM} {G : GD} {pins : List Nat} {S M : Nat → A} {a : Act} {w : World} {m : Mem} {o : OwnM} {P : Program} {N : Nat} {op : Oper} {d c : Nat} {f f' : Nat → A}
theorem hx_mp {l : List (T × T)} (hl : Low S) (hk : S HK = .hp f) (hf : f c = .mp l) : hx S (OB + (OB + c)) = .mp l := by rw [zEc hl hk, hf]; rfl
theorem h_putM {l' : List (T × T)} (hk : S HK = .hp f) (hf' : f' = updF f c (.mp l')) (h : N ≤ OB → Low S → OpOK P pins N op (hx S) (upd (hx S) (OB + (OB + c)) (.mp l'))) : OpH P pins N op S (app S [(HK, .hp f')]) := by
 subst hf'
 intro hN hl
 refine ⟨?_, hl.upd zFm⟩
 show OpOK P pins N op (hx S) (hx (upd S HK _))
 rw [zGl hl hk rfl]
 refine (h hN hl).hkpost (f := f) ?_
 rw [zH (by unfold HK OB; omega)]
 exact zBq hk (by simp)
theorem h_mkM {l' : List (T × T)} {x : A} (hk : S HK = .hp f) (hf' : f' = updF f c (.mp l')) (hok : okD N pins S d = true) (h : N ≤ OB → Low S → OpOK P pins N op (hx S) (upd (upd (hx S) (OB + (OB + c)) (.mp l')) d x)) : OpH P pins N op S (app S [(HK, .hp f'), (d, x)]) := by
 subst hf'
 intro hN hl
 have hdO := qN hN hok
 have hd2 : d ≠ HK := by unfold HK; unfold OB at hdO; omega
 refine ⟨?_, (hl.upd zFm).upd (lt2 hdO)⟩
 show OpOK P pins N op (hx S) (hx (upd (upd S HK _) d x))
 rw [zBt (lt2 hdO) hd2, zGl hl hk rfl, zDi (Ne.symm hd2)]
 refine (h hN hl).hkpost (f := f) ?_
 show upd (upd (hx S) (OB + (OB + c)) _) d x HK = _
 rw [zH (Ne.symm hd2), zH (by unfold HK OB; omega)]
 exact zBq hk (by simp)
theorem h_mkmH {t : Nat} (hk : S HK = .hp f) (hop : op.op = .makeMap t none) (hd : op.dst = some d) (hok : okD N pins S d = true) (hf : f c = .free) (hf' : f' = updF f c (.mp [])) : OpH P pins N op S (app S [(HK, .hp f'), (d, .t (.mpt (OB + c)))]) :=
 h_mkM hk hf' hok fun hN hlo => ok_mkm hop hd (qX hN hok) (by simpa using qN hN hok) (zIq hlo hk hf)
theorem ok_mlk2 {κ ν : Type} [BEq κ] {kv : κ → Value} {kT : κ → T} {vT : ν → T} (hM : Mk M S) {j t kt et : Nat} {x y : Operand} {l : List (κ × ν)} {k : κ} {z : ν} (hop : op.op = .lookup t x y true) (hx : cpO M x = .t (.mpt j)) (hb : S (OB + j) = mpT kT vT l) (hy : vK M y = some (kv k)) (hu : P.underlying t = some (.map kt et)) (K : KeyT P kt kv kT)
  {i : TypeInfo} {zv : Value} (hi : P.info? et = some i) (hz : i.zero = some zv) (hzr : ∀ m, RepE m (vT z) zv) (hd : op.dst = some d) (hok : okD N pins S d = true) : OpOK P pins N op S (upd S d (.tup [vT ((zY l k).getD z), .d (.lit (.bool (zY l k).isSome))])) := by
 refine zV fun w0 m0 o0 G a w m o hN I => ?_
 obtain ⟨h1, h2, h3⟩ := qA hok
 have hxr := qG hM I x 0
 rw [hx] at hxr
 obtain ⟨g, k1, k2⟩ := hxr
 have hbs := I.slots (OB + j)
 rw [hb] at hbs
 obtain ⟨g', q1, q2, es, ck, q3, hst, q4⟩ := hbs
 obtain rfl := I.inj _ _ _ k1 q1
 have hE := zJa K q4
 have hf := zFV (m := m) K k l es.toList 0 hE
 have hpos : (l.findIdx? fun p => k == p.1) = mpos l k := rfl
 rw [hpos] at hf
 have hrun : ∀ r, (match mpos l k with | some q => (((es[q]?).map (·.val)).getD undef) | none => zv) = r → (Instr.lookup t (.map (some g)) (kv k) true).run P w = .ok (.tuple #[r, .bool (mpos l k).isSome]) w := fun r hr => by
  unfold Instr.lookup
  simp only [Sem.run_bind, run_underlying hu, Result.andThen_ok]
  rw [MapKept.run_getObj_map q3]
  simp only [Result.andThen_ok, Sem.run_pure, pure_bind, Sem.run_bind]
  rw [K.chk]
  simp only [Result.andThen_ok, Sem.run_bind]
  rw [MapKept.run_findKey K.und hf]
  simp only [Result.andThen_ok]
  cases hp : mpos l k with
  | none => rw [hp] at hr; simp only [Option.map_none]; simp [zeroValue, typeInfo, hi, hz, go_sem, ← hr]
  | some q => rw [hp] at hr; simp only [Option.map_some]; simp [← hr]
 have hv : RepE m (vT ((zY l k).getD z)) (match mpos l k with | some q => (((es[q]?).map (·.val)).getD undef) | none => zv) := by
  unfold zY
  cases hp : mpos l k with
  | none => exact hzr m
  | some q =>
   have hlt : q < l.length := (List.findIdx?_eq_some_iff_getElem.1 hp).1
   obtain ⟨e, h4, h5, h6⟩ := hE.2 q l[q] (List.getElem?_eq_getElem hlt)
   simp only [List.getElem?_eq_getElem hlt, Option.map_some, Option.getD_some]
   have h4 : es[q]? = some e := by simpa using h4
   rw [h4]
   exact h6
 have hs : (mpos l k).isSome = (zY l k).isSome := by
  unfold zY
  cases hp : mpos l k with
  | none => rfl
  | some q =>
   have hlt : q < l.length := (List.findIdx?_eq_some_iff_getElem.1 hp).1
   simp [List.getElem?_eq_getElem hlt]
 rw [hs] at hrun
 obtain ⟨rv, hrv⟩ : ∃ rv : Value, (match mpos l k with | some q => (((es[q]?).map (fun e : MapEntry => e.val)).getD undef) | none => zv) = rv := ⟨_, rfl⟩
 rw [hrv] at hv
 have hrep : RepA m w o S d (.tup [vT ((zY l k).getD z), .d (.lit (.bool (zY l k).isSome))]) (.tuple #[rv, .bool (zY l k).isSome]) := by
  refine ⟨#[rv, .bool (zY l k).isSome], rfl, rfl, fun q x hq => ?_⟩
  match q, hq with
  | 0, hq =>
   injection hq with hq
   subst hq
   exact ⟨_, rfl, hv.toT⟩
  | 1, hq =>
   injection hq with hq
   subst hq
   exact ⟨_, rfl, .lit _ rfl⟩
  | q + 2, hq => simp at hq
 refine ⟨.tuple #[rv, .bool (zY l k).isSome], w, m, o, ?_, by rw [hd]; exact I.set d _ _ (by omega) h2 hrep⟩
 unfold execOp
 rw [hop]
 simp only [Sem.run_bind]
 rw [vK_eq hM I hy, k2, hrun _ hrv]
 rfl
theorem h_mlk2HT {κ ν : Type} [BEq κ] {kv : κ → Value} {kT : κ → T} {vT : ν → T} (hM : Mk M S) (hk : S HK = .hp f) {t kt et : Nat} {x y : Operand} {l : List (κ × ν)} {k : κ} {z : ν} (hop : op.op = .lookup t x y true) (hx : cpO M x = .t (.mpt (OB + c))) (hf : f c = mpT kT vT l) (hy : vK M y = some (kv k)) (hu : P.underlying t = some (.map kt et)) (K : KeyT P kt kv kT)
  {i : TypeInfo} {zv : Value} (hi : P.info? et = some i) (hz : i.zero = some zv) (hzr : ∀ m, RepE m (vT z) zv) (hd : op.dst = some d) (hok : okD N pins S d = true) : OpH P pins N op S (app S [(d, .tup [vT ((zY l k).getD z), .d (.lit (.bool (zY l k).isSome))])]) :=
 .of' (e := [(d, _)]) fun hN hlo => ⟨ok_mlk2 hM.hx hop hx (hx_mp hlo hk hf) hy hu K hi hz hzr hd (qX hN hok), zBU (qN hN hok)⟩
theorem h_mlk2H {κ ν : Type} [BEq κ] {kv : κ → Value} {cv : ν → D} (hM : Mk M S) (hk : S HK = .hp f) {t kt et : Nat} {x y : Operand} {l : List (κ × ν)} {k : κ} {z : ν} (hop : op.op = .lookup t x y true) (hx : cpO M x = .t (.mpt (OB + c))) (hf : f c = mpA kv cv l) (hy : vO M y = some (kv k)) (hu : P.underlying t = some (.map kt et)) (K : KeyT P kt kv (kL kv))
  {i : TypeInfo} {zv : Value} (hi : P.info? et = some i) (hz : i.zero = some zv) (hzr : ∀ m, RepD m (cv z) zv) (hd : op.dst = some d) (hok : okD N pins S d = true) : OpH P pins N op S (app S [(d, .tup [.d (cv ((zY l k).getD z)), .d (.lit (.bool (zY l k).isSome))])]) := h_mlk2HT (vT := fun v => .d (cv v)) hM hk hop hx hf (vK_of hy) hu K hi hz hzr hd hok
theorem h_mupHT {κ ν : Type} [BEq κ] {kv : κ → Value} {kT : κ → T} {vT : ν → T} (hM : Mk M S) (hk : S HK = .hp f) {t kt et : Nat} {x y z : Operand} {l : List (κ × ν)} {k : κ} {v : ν} (hop : op.op = .mapUpdate t x y z) (hx : cpO M x = .t (.mpt (OB + c))) (hf : f c = mpT kT vT l) (hy : vK M y = some (kv k)) (hz : tK M z = some (vT v)) (hu : P.underlying t = some (.map kt et)) (K : KeyT P kt kv kT)
  (hd : op.dst = none) (hf' : f' = updF f c (mpT kT vT (mset l k v))) : OpH P pins N op S (app S [(HK, .hp f')]) :=
 h_putM hk hf' fun hN hlo => ok_mup hM.hx hop hx (hx_mp hlo hk hf) hy hz hu K hd
theorem h_mupH {κ ν : Type} [BEq κ] {kv : κ → Value} {cv : ν → D} (hM : Mk M S) (hk : S HK = .hp f) {t kt et : Nat} {x y z : Operand} {l : List (κ × ν)} {k : κ} {v : ν} (hop : op.op = .mapUpdate t x y z) (hx : cpO M x = .t (.mpt (OB + c))) (hf : f c = mpA kv cv l) (hy : vO M y = some (kv k)) (hz : dO M z = some (cv v)) (hu : P.underlying t = some (.map kt et)) (K : KeyT P kt kv (kL kv))
  (hd : op.dst = none) (hf' : f' = updF f c (mpA kv cv (mset l k v))) : OpH P pins N op S (app S [(HK, .hp f')]) := h_mupHT (vT := fun v => .d (cv v)) hM hk hop hx hf (vK_of hy) (tK_of hz) hu K hd hf'
theorem ok_mn (hM : Mk M S) {bop : BinOp} {t yt kt et j : Nat} {x : Operand} {ng : Bool} (hop : op.op = .binOp bop t x (.const (.map none)) yt) (hb : bop = bif ng then .neq else .eql) (ht : P.underlying t = some (.map kt et)) (hx : cpO M x = .t (.mpt j)) (hd : op.dst = some d) (hok : okD N pins S d = true) : OpOK P pins N op S (upd S d (.t (.d (.lit (.bool ng))))) := by
 refine zV fun w0 m0 o0 G a w m o hN I => ?_
 obtain ⟨h1, h2, h3⟩ := qA hok
 have hxr := qG hM I x 0
 rw [hx] at hxr
 obtain ⟨g, k1, k2⟩ := hxr
 refine ⟨.bool ng, w, m, o, ?_, by rw [hd]; exact I.set d _ _ (by omega) h2 (.lit _ rfl)⟩
 subst hb
 unfold execOp
 rw [hop]
 show Sem.run P (do pure (Next.value (← (do eqGuard _ t x _ (a.eval x) (.map none); binOp _ t (a.eval x) (.map none))))) w = _
 rw [k2, Sem.run_bind]
 have hg : ∀ bop : BinOp, (eqGuard bop t x (.const (.map none)) (.map (some g)) (.map none)).run P w = .ok () w := by
  intro bop
  unfold eqGuard
  cases bop <;> rfl
 cases ng with
 | false =>
  show Result.andThen (Sem.run P (do eqGuard .eql t x _ (.map (some g)) (.map none); binOp .eql t (.map (some g)) (.map none)) w) _ = _
  rw [Sem.run_bind, hg, Result.andThen_ok, run_eql_map_nil w t kt et (some g) ht]
  rfl
 | true =>
  show Result.andThen (Sem.run P (do eqGuard .neq t x _ (.map (some g)) (.map none); binOp .neq t (.map (some g)) (.map none)) w) _ = _
  rw [Sem.run_bind, hg, Result.andThen_ok, run_neq_map_nil w t kt et (some g) ht]
  rfl
theorem h_mn (hM : Mk M S) {bop : BinOp} {t yt kt et j : Nat} {x : Operand} {ng : Bool} (hop : op.op = .binOp bop t x (.const (.map none)) yt) (hb : bop = bif ng then .neq else .eql) (ht : P.underlying t = some (.map kt et)) (hx : cpO M x = .t (.mpt j)) (hd : op.dst = some d) (hok : okD N pins S d = true) : OpH P pins N op S (app S [(d, .t (.d (.lit (.bool ng))))]) :=
 .of (e := [(d, _)]) fun hN => ⟨ok_mn hM.hx hop hb ht hx hd (qX hN hok), zBU (qN hN hok)⟩
theorem mpt_loc (c : Nat) : (T.mpt (OB + c)).isLoc = false := by
 show Nat.blt (OB + c) OB = false
 have h : ¬ (OB + c < OB) := by omega
 cases hb : Nat.blt (OB + c) OB with
 | false => rfl
 | true => exact absurd (by simpa using hb) h
def arM {κ ν : Type} (kv : κ → Value) (cv : ν → D) (l : List (List (κ × ν))) (i : Nat) : A := match l[i]? with
 | some x => mpA kv cv x
 | none => .free
variable {κ ν : Type} {kv : κ → Value} {cv : ν → D} {ms : List (List (κ × ν))} {i : Nat} {x x' : List (κ × ν)}
theorem arM_get (h : ms[i]? = some x) : arM kv cv ms i = mpA kv cv x := by unfold arM; rw [h]
theorem arM_ne {j : Nat} (h : j ≠ i) : arM kv cv (ms.set i x') j = arM kv cv ms j := by unfold arM; rw [List.getElem?_set_ne (Ne.symm h)]
theorem arM_eq (h : ms[i]? = some x) : arM kv cv (ms.set i x') i = mpA kv cv x' := arM_get (zAG h)
theorem arM_free : arM kv cv ms ms.length = .free := by unfold arM; rw [List.getElem?_eq_none (Nat.le_refl _)]
theorem arM_new : arM kv cv (ms ++ [x]) ms.length = mpA kv cv x := by
 unfold arM
 rw [List.getElem?_append_right (Nat.le_refl _)]
 simp
theorem arM_old {j : Nat} (h : j ≠ ms.length) : arM kv cv (ms ++ [x]) j = arM kv cv ms j := by
 unfold arM
 rcases Nat.lt_or_ge j ms.length with h1 | h1
 · rw [List.getElem?_append_left h1]
 · rw [List.getElem?_eq_none h1, List.getElem?_eq_none (by simp; omega)]
theorem arM_pure {l : List T} (h : arM kv cv ms i = .box l) : ∀ y ∈ l, y.isLoc = false := by
 unfold arM at h
 split at h <;> cases h
theorem san_arM (kv : κ → Value) (cv : ν → D) (l : List (List (κ × ν))) (i : Nat) : san (arM kv cv l i) = arM kv cv l i := by unfold arM; split <;> rfl
end
open Go.Lib
def zIo (x : List UInt8) (off n : Nat) (y : List UInt8) : Option (List UInt8) := if y.length ≤ n then cpyI x off n y else none
theorem cpySI_iff {x y v : List UInt8} {off n : Nat} (h : zIo x off n y = some v) : y.length ≤ n ∧ cpyI x off n y = some v := by
 unfold zIo at h
 split at h
 · exact ⟨by assumption, h⟩
 · cases h
section
variable {pins : List Nat} {S M : Nat → A} {P : Program} {N : Nat} {op : Oper} {d : Nat}
theorem zHa {m : Mem} (l : List UInt8) : RepL m (l.map fun b => D.lit (.int .u8 (b.toNat : Int))) (byteCells l) := by
 refine ⟨by rw [byteCells_length, List.length_map], fun j x hj => ?_⟩
 rw [List.getElem?_map] at hj
 cases hl : l[j]? with
 | none => rw [hl] at hj; cases hj
 | some b =>
  rw [hl] at hj
  injection hj with hj
  subst hj
  exact ⟨.int .u8 (b.toNat : Int), by unfold byteCells; rw [List.getElem?_map, hl]; rfl, .lit _ rfl⟩
theorem ok_cpyS (hM : Mk M S) {j off E n t t' e : Nat} {x y : Operand} {ie : TypeInfo} {l : List T} {yl : List UInt8} (hop : op.op = .call { callee := .builtin .copy, args := #[x, y], argTypes := #[t, t'] }) (hu : P.underlying t = some (.slice e)) (hie : P.info? e = some ie) (hs1 : ie.size = 1) (hx : cpO M x = .t (.view j off E 1 n)) (hb : S (OB + j) = .box l) (hy : vO M y = some (.string ⟨⟨yl⟩⟩)) (hfit : yl.length ≤ n) (hle : off + n ≤ l.length) (hd : op.dst = some d) (hok : okD N pins S d = true) (hdO : d < OB) :
  OpOK P pins N op S (app S [(OB + j, .box (qT l off ((yl.map fun b => D.lit (.int .u8 (b.toNat : Int))).map .d))), (d, .t (.d (.lit (.int .i64 ((yl.length : Nat) : Int)))))]) := by
 refine zV fun w0 m0 o0 G a w m o hN I => ?_
 obtain ⟨h1, h2, h3⟩ := qA hok
 have hxr := qG hM I x 0
 rw [hx] at hxr
 obtain ⟨A1, c1, k1, k2, hxv, k4⟩ := hxr
 have hbox2 : ∀ x, (upd S (OB + j) x d).isBox = false := fun x => by rw [zH (by omega)]; exact h2
 have hsz : (⟨⟨yl⟩⟩ : ByteArray).size = yl.length := rfl
 by_cases h0 : yl.length = 0
 ·
  have he : yl = [] := List.eq_nil_of_length_eq_zero h0
  subst he
  refine ⟨goInt 0, w, m, o, ?_, ?_⟩
  ·
   unfold execOp
   rw [hop]
   simp only [resolve, invoke, builtin, Sem.run_bind, Sem.run_pure, Result.andThen_ok, List.map_toArray, List.map_cons, List.map_nil]
   rw [hxv, zB1 hM I hy, run_copy_empty_string w t t' op.type e _ _ _ _ hu (by rw [hie]; rfl) rfl]
   rfl
  ·
   rw [hd]
   show Inv w0 m0 o0 G pins (upd (upd S (OB + j) (.box (qT l off []))) d _) _ w m o
   rw [zG5]
   have e1 : upd S (OB + j) (.box l) = S := by
    funext s
    unfold upd
    split
    · rename_i e; rw [e, hb]
    · rfl
   rw [e1]
   exact I.set d _ _ (by omega) h2 (.lit _ rfl)
 ·
  obtain ⟨g, cs, E', q1, q2, q3, q4, _⟩ := k4.resolve_left fun e => by omega
  clear k4
  subst q2
  have hs := I.slots (OB + j)
  rw [hb] at hs
  obtain ⟨g', _, p1, p2, cs', E2, p3, p4, p5⟩ := hs
  have := I.inj _ _ _ q1 p1
  subst this
  rw [q3] at p3
  injection p3 with p3
  injection p3 with p3 p6
  subst p3 p6
  have hbl : (byteCells yl).length = yl.length := byteCells_length yl
  have hrun := run_copy_row_string (P := P) w t t' op.type e g off n c1 ⟨⟨yl⟩⟩ cs E' hu (by rw [hie, ← hs1]; rfl) q3 hfit (by show off + yl.length ≤ cs.size; omega)
  have J := I.box_spl (off := off) hb q1 q3 p4 p5 (zHa yl) (by rw [List.length_map]; omega)
  refine ⟨goInt yl.length, w.setRow g (qT cs.toList off (byteCells yl)).toArray, m, o, ?_, ?_⟩
  ·
   unfold execOp
   rw [hop]
   simp only [resolve, invoke, builtin, Sem.run_bind, Sem.run_pure, Result.andThen_ok, List.map_toArray, List.map_cons, List.map_nil]
   rw [hxv, zB1 hM I hy, hrun]
   unfold qT
   rw [hbl]
   rfl
  ·
   rw [hd]
   exact J.set d (.t (.d (.lit (.int .i64 ((yl.length : Nat) : Int))))) (goInt yl.length) (by omega) (hbox2 _) (.lit _ rfl)
theorem h_cpyS {xl yl v : List UInt8} (hM : Mk M S) {j off E n t t' e : Nat} {x y : Operand} {ie : TypeInfo} (hop : op.op = .call { callee := .builtin .copy, args := ⟨[x, y]⟩, argTypes := ⟨[t, t']⟩ }) (hu : P.underlying t = some (.slice e)) (hie : P.info? e = some ie) (hs1 : ie.size = 1) (hx : cpO M x = .t (.view j off E 1 n)) (hb : M (OB + j) = .box (fl (dT cU8) xl)) (hy : vO M y = some (.string ⟨⟨yl⟩⟩)) (hv : zIo xl off n yl = some v) (hj : Nat.blt (j + 1) OB = true) (hd : op.dst = some d) (hok : okD N pins S d = true) :
  OpH P pins N op S (app S [(OB + j, .box (fl (dT cU8) v)), (d, .t (.d (.lit (.int .i64 (yl.length : Int)))))]) := by
 obtain ⟨h0, h1⟩ := cpySI_iff hv
 obtain ⟨h1, rfl⟩ := zI5 h1
 refine .lo2 hj hok fun hN hlo => ?_
 rw [← cpy_row (c := cU8) (fun _ => rfl)]
 have := ok_cpyS (j := j) (off := off) (E := E) (n := n) (l := fl (dT cU8) xl) (yl := yl) hM.hx hop hu hie hs1 hx (zHp hM hb) hy h0 (by rw [zFL (zEG (c := cU8) (k := 1) (fun _ => rfl))]; omega) hd (qX hN hok) (qN hN hok)
 have e : ((yl.map cU8).take n).flatMap id = yl.map fun b => D.lit (.int .u8 (b.toNat : Int)) := by
  rw [List.take_of_length_le (by rw [List.length_map]; exact h0)]
  clear this h0 hv hy h1
  induction yl with
  | nil => rfl
  | cons b r ih => rw [List.map_cons, List.flatMap_cons, ih]; rfl
 rw [e]
 exact this
end
end Go.Proofs.Ytjomnccladjpgaa
