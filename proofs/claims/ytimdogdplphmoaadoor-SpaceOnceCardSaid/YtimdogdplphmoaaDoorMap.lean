/-
  Maps: a map that a local object holds, told by its entries in the order in which they came.
-/
import Derived.MapKept
import Derived.Test.YtimdogdplphmoaaDoorCob
namespace Go.Proofs.YtimdogdplphmoaaDoor
open Go Go.RowKit
set_option linter.unusedVariables false

/-! ### Entries -/
section
variable {κ ν : Type} [BEq κ]
def mpos (l : List (κ × ν)) (k : κ) : Option Nat := l.findIdx? fun p => k == p.1
def mfind (l : List (κ × ν)) (k : κ) : Option ν := match mpos l k with
  | some i => (l[i]?).map (·.2)
  | none => none
def mset (l : List (κ × ν)) (k : κ) (v : ν) : List (κ × ν) := match mpos l k with
  | some i => l.set i (k, v)
  | none => l ++ [(k, v)]
def mdel (l : List (κ × ν)) (k : κ) : List (κ × ν) := match mpos l k with
  | some i => l.eraseIdx i
  | none => l
end
/-- What keys are like: their type, as values. -/
structure KeyT (P : Program) (kt : TypeId) {κ : Type} [BEq κ] (kv : κ → Value) where
  d : TypeDesc
  und : P.underlying kt = some d
  same : ∀ a b, Instr.sameNow d (kv a) (kv b) = some (a == b)
  chk : ∀ a (e : Bool) (w : World), (Instr.checkKey e 10000 kt (kv a)).run P w = .ok () w
  bits : ∀ a b, (a == b) = true → Instr.sameBits 10000 (kv b) (kv a) = true
  one : ∀ a, (kv a).oneCell' = true
def keyInt {P : Program} {kt : TypeId} {k : IntKind} (h : P.underlying kt = some (.int k)) : KeyT P kt (fun z : Int => Value.int k z) :=
  ⟨.int k, h, fun a b => by simp [Instr.sameNow], fun a e w => MapKept.run_checkKey h (by simp [MapKept.IsKey]) e 9999, fun (a b : Int) (h : (a == b) = true) => by simp at h; simp [Instr.sameBits, h], fun _ => rfl⟩
def EntR (m : Mem) {κ ν : Type} (kv : κ → Value) (cv : ν → D) (l : List (κ × ν)) (es : List MapEntry) : Prop := es.length = l.length ∧ ∀ (i : Nat) (x : κ × ν), l[i]? = some x → ∃ e, es[i]? = some e ∧ e.key = kv x.1 ∧ RepD m (cv x.2) e.val
section
variable {κ ν : Type} [BEq κ] {P : Program} {kt : TypeId} {kv : κ → Value} {cv : ν → D} {m : Mem}
theorem find_run (K : KeyT P kt kv) (k : κ) : ∀ (l : List (κ × ν)) (es : List MapEntry) (i0 : Nat), EntR m kv cv l es → Instr.findNow K.d (kv k) es i0 = some ((l.findIdx? fun p => k == p.1).map fun i => (i0 + i, ((es[i]?).map (·.val)).getD undef))
  | [], es, i0, h => by
    rw [List.eq_nil_of_length_eq_zero h.1]
    rfl
  | x :: r, es, i0, h => by
    obtain ⟨e, h1, h2, h3⟩ := h.2 0 x rfl
    cases es with
    | nil => simp at h1
    | cons e' es =>
      injection h1 with h1
      subst h1
      unfold Instr.findNow
      rw [h2, K.same]
      have hr : EntR m kv cv r es := ⟨by simpa using h.1, fun i y hy => by simpa using h.2 (i + 1) y (by simpa using hy)⟩
      cases hk : (k == x.1) with
      | true => simp [List.findIdx?_cons, hk]
      | false =>
        simp only
        rw [find_run K k r es (i0 + 1) hr, List.findIdx?_cons, hk]
        simp only [cond_false, Bool.false_eq_true, if_false, Option.map_map]
        congr 1
        congr 1
        funext i
        simp only [Function.comp, List.getElem?_cons_succ]
        congr 1
        omega
end
section
variable {w0 : World} {m0 : Mem} {o0 : OwnM} {G : Nat → Prop} {pins : List Nat} {S M : Nat → A} {a : Act} {w : World} {m : Mem} {o : OwnM} {P : Program} {N : Nat} {op : Oper} {d : Nat}
abbrev mpA {κ ν : Type} (kv : κ → Value) (cv : ν → D) (l : List (κ × ν)) : A := .mp (l.map fun p => (D.lit (kv p.1), cv p.2))
theorem mp_ent {κ ν : Type} {kv : κ → Value} {cv : ν → D} {l : List (κ × ν)} {es : Array MapEntry} (h : es.size = (l.map fun p => (D.lit (kv p.1), cv p.2)).length ∧ ∀ (i : Nat) (x : D × D), (l.map fun p => (D.lit (kv p.1), cv p.2))[i]? = some x → ∃ e, es[i]? = some e ∧ RepD m x.1 e.key ∧ RepD m x.2 e.val) : EntR m kv cv l es.toList := by
  refine ⟨by simpa using h.1, fun i x hi => ?_⟩
  obtain ⟨e, h1, h2, h3⟩ := h.2 i (D.lit (kv x.1), cv x.2) (by rw [List.getElem?_map, hi]; rfl)
  have h2 : RepD m (.lit (kv x.1)) e.key := h2
  generalize hk : e.key = u at h2
  refine ⟨e, by simpa using h1, ?_, h3⟩
  rw [hk]
  cases h2 with
  | lit u hu => rfl
theorem ent_mp {κ ν : Type} {kv : κ → Value} {cv : ν → D} {l : List (κ × ν)} {es : Array MapEntry} (h1 : ∀ a, (kv a).oneCell' = true) (h : EntR m kv cv l es.toList) : es.size = (l.map fun p => (D.lit (kv p.1), cv p.2)).length ∧ ∀ (i : Nat) (x : D × D), (l.map fun p => (D.lit (kv p.1), cv p.2))[i]? = some x → ∃ e, es[i]? = some e ∧ RepD m x.1 e.key ∧ RepD m x.2 e.val := by
  refine ⟨by simpa using h.1, fun i x hi => ?_⟩
  rw [List.getElem?_map] at hi
  cases hl : l[i]? with
  | none => rw [hl] at hi; cases hi
  | some y =>
    rw [hl] at hi
    injection hi with hi
    subst hi
    obtain ⟨e, h2, h3, h4⟩ := h.2 i y hl
    exact ⟨e, by simpa using h2, by rw [h3]; exact .lit _ (h1 _), h4⟩
/-- The map of object j turns. -/
theorem Inv.map_turn (I : Inv w0 m0 o0 G pins S a w m o) {j g : Nat} {l l' : List (D × D)} (hb : S (OB + j) = .mp l) (ho : o g = some (OB + j, 0)) {es es' : Array MapEntry} {ck ck' : Nat} (hg : w.heap[g]? = some (.map es ck)) (hmn : ∀ p, m g p = none)
    (hc : es'.size = l'.length ∧ ∀ (i : Nat) (x : D × D), l'[i]? = some x → ∃ e, es'[i]? = some e ∧ RepD m x.1 e.key ∧ RepD m x.2 e.val) :
    Inv w0 m0 o0 G pins (upd S (OB + j) (.mp l')) a { w with heap := w.heap.setIfInBounds g (.map es' ck') } m o := by
  obtain ⟨q1, q2⟩ := MapKept.heap_set (o' := .map es' ck') hg
  have hglt : g < w.heap.size := (Array.getElem?_eq_some_iff.1 hg).1
  have hne : ∀ b l, o b = some l → l ≠ (OB + j, 0) → b ≠ g := fun b l h hn e => by rw [e, ho] at h; injection h with h; exact hn h.symm
  have hsh : ∀ g', ShpAt w { w with heap := w.heap.setIfInBounds g (.map es' ck') } g' := fun g' => by
    by_cases e : g' = g
    · subst e; intro cs E f h; rw [hg] at h; cases h
    · exact .of_eq (q2 g' e)
  have hS : Same (fun x => G x ∨ w0.heap.size ≤ x) w { w with heap := w.heap.setIfInBounds g (.map es' ck') } := ⟨rfl, rfl, rfl, by simp, fun k _ hk => q2 k fun e => hk (by rw [e]; exact I.own g _ ho)⟩
  have K : Keep (fun l => l = (OB + j, 0)) m w o m { w with heap := w.heap.setIfInBounds g (.map es' ck') } o :=
    ⟨Mle.refl _, fun _ _ _ _ => rfl, fun b l h hn => q2 b (hne b l h hn), fun b l h _ => h, fun b j' h => h, fun b s k _ h => ⟨b, k, h⟩, fun g' _ _ => hsh g'⟩
  refine ⟨I.same.trans hS, fun b p u h => ?_, I.mono, I.old, I.own, fun g' l h => by simpa using I.lt g' l h, I.inj, I.pinned, fun s => ?_, I.defers, I.tbl, I.wide, I.shps.keep I.pinned K.sh⟩
  · have h1 := I.sat b p u h
    have hbg : b ≠ g := fun e => by rw [e, hmn] at h; cases h
    rw [World.cell?_of_block (w := w) (q2 b hbg)]
    exact h1
  · by_cases e : s = OB + j
    · subst e
      rw [upd_same]
      exact ⟨g, ho, hmn, es', ck', q1, hc.1, hc.2⟩
    · rw [upd_other e]
      refine RepA.keep K (fun _ e' => by injection e' with e' _; exact e e') (fun b off _ hb' => ⟨fun e' => by injection e' with e' _; omega, fun ⟨l', hl'⟩ => ⟨l', ?_⟩⟩) (I.slots s)
      rw [upd_other (by omega), hl']
/-- A new map, held by object j, which was not there. -/
theorem Inv.map_new (I : Inv w0 m0 o0 G pins S a w m o) {j : Nat} (hfree : S (OB + j) = .free) : Inv w0 m0 o0 G pins (upd S (OB + j) (.mp [])) a (w.alloc (.map #[] 0)) m (newO o (OB + j) w.heap.size) := by
  have hf : ∀ g k, o g ≠ some (OB + j, k) := by have := I.slots (OB + j); rw [hfree] at this; exact this
  have hS : Same (fun _ => False) w (w.alloc (.map #[] 0)) := Same.alloc _ _ _
  have hne : ∀ b l, o b = some l → b ≠ w.heap.size := fun b l h e => by have := I.lt b l h; omega
  have hk : ∀ b l, o b = some l → newO o (OB + j) w.heap.size b = some l := by
    intro b l h
    unfold newO
    rw [if_neg (hne b l h), h, if_neg]
    intro e
    obtain ⟨s, k⟩ := l
    injection e with e
    subst e
    exact hf b k h
  have hk' : ∀ b l, newO o (OB + j) w.heap.size b = some l → (b = w.heap.size ∧ l = (OB + j, 0)) ∨ (b ≠ w.heap.size ∧ o b = some l) := by
    intro b l h
    unfold newO at h
    split at h
    · rename_i e; injection h with h; exact .inl ⟨e, h.symm⟩
    · split at h
      · cases h
      · rename_i e _; exact .inr ⟨e, h⟩
  have hsh : ∀ g, ShpAt w (w.alloc (.map #[] 0)) g := fun g => .of_lt fun h => hS.block g h id
  have K : Keep (fun l => l.1 = OB + j) m w o m (w.alloc (.map #[] 0)) (newO o (OB + j) w.heap.size) :=
    ⟨Mle.refl _, fun _ _ _ _ => rfl, fun b l h _ => hS.block b (I.lt b l h) id, fun b l h _ => hk b l h, fun b j' h => hk b _ h, fun b s k hs h => by
      rcases hk' b _ h with ⟨_, e⟩ | ⟨_, e⟩
      · injection e with e _; exact absurd e hs
      · exact ⟨b, k, e⟩, fun g _ _ => hsh g⟩
  refine ⟨I.same.trans (hS.weaken fun _ h => h.elim), fun b p u h => ?_, I.mono, I.old, fun g l h => ?_, fun g l h => ?_, fun g g' l h h' => ?_, fun s hs g hg => hk g _ (I.pinned s hs g hg), fun s => ?_, I.defers, I.tbl, I.wide, I.shps.keep I.pinned K.sh⟩
  · have h1 := I.sat b p u h
    have hlt : b < w.heap.size := by have := World.block_lt_of_cell? w _ h1; simpa using this
    rw [World.cell?_of_block (w := w) (hS.block b hlt id)]
    exact h1
  · rcases hk' g l h with ⟨e, _⟩ | ⟨_, e⟩
    · subst e; exact I.newG (Nat.le_refl _)
    · exact I.own g l e
  · rcases hk' g l h with ⟨e, _⟩ | ⟨_, e⟩
    · subst e; simp
    · exact Nat.lt_of_lt_of_le (I.lt g l e) hS.size
  · rcases hk' g l h with ⟨e, q⟩ | ⟨_, e⟩ <;> rcases hk' g' l h' with ⟨e', q'⟩ | ⟨_, e'⟩
    · rw [e, e']
    · subst q; exact absurd e' (hf _ _)
    · subst q'; exact absurd e (hf _ _)
    · exact I.inj _ _ _ e e'
  · by_cases e : s = OB + j
    · subst e
      rw [upd_same]
      exact ⟨w.heap.size, newO_same _ _ _, fun p => I.mem_none (Nat.le_refl _), #[], 0, (MapKept.heap_alloc w _).1, rfl, fun i x hi => by simp at hi⟩
    · rw [upd_other e]
      exact RepA.keep K (fun _ => e) (fun b off _ hb => ⟨fun e' => by have : b = OB + j := e'; omega, fun ⟨l', hl'⟩ => ⟨l', by rw [upd_other (by omega), hl']⟩⟩) (I.slots s)
theorem ok_mkm {j t : Nat} (hop : op.op = .makeMap t none) (hd : op.dst = some d) (hok : okD N pins S d = true) (hdO : d < OB) (hfree : S (OB + j) = .free) : OpOK P pins N op S (upd (upd S (OB + j) (.mp [])) d (.t (.mpt j))) := by
  refine ok_of_run fun w0 m0 o0 G a w m o hN I => ?_
  obtain ⟨h1, h2, h3⟩ := okD_iff hok
  have J := I.map_new hfree
  refine ⟨.map (some w.heap.size), _, _, _, ?_, by rw [hd]; exact J.set d _ _ (by omega) (by rw [upd_other (by omega)]; exact h2) ⟨_, newO_same _ _ _, rfl⟩⟩
  unfold execOp
  rw [hop]
  rfl
/-- What stands under a key. -/
theorem ok_mlk {κ ν : Type} [BEq κ] {kv : κ → Value} {cv : ν → D} (hM : Mk M S) {j t kt et : Nat} {x y : Operand} {l : List (κ × ν)} {k : κ} {z : ν} (hop : op.op = .lookup t x y false) (hx : cpO M x = .t (.mpt j)) (hb : S (OB + j) = mpA kv cv l) (hy : vO M y = some (kv k)) (hu : P.underlying t = some (.map kt et)) (K : KeyT P kt kv)
    {i : TypeInfo} {zv : Value} (hi : P.info? et = some i) (hz : i.zero = some zv) (hzr : ∀ m, RepD m (cv z) zv) (hd : op.dst = some d) (hok : okD N pins S d = true) : OpOK P pins N op S (upd S d (.t (.d (cv ((mfind l k).getD z))))) := by
  refine ok_of_run fun w0 m0 o0 G a w m o hN I => ?_
  obtain ⟨h1, h2, h3⟩ := okD_iff hok
  have hxr := cpO_rep hM I x 0
  rw [hx] at hxr
  obtain ⟨g, k1, k2⟩ := hxr
  have hbs := I.slots (OB + j)
  rw [hb] at hbs
  obtain ⟨g', q1, q2, es, ck, q3, q4⟩ := hbs
  obtain rfl := I.inj _ _ _ k1 q1
  have hE := mp_ent q4
  have hf := find_run (m := m) K k l es.toList 0 hE
  have hpos : (l.findIdx? fun p => k == p.1) = mpos l k := rfl
  rw [hpos] at hf
  have hrun : ∀ r, (match mpos l k with | some q => (((es[q]?).map (·.val)).getD undef) | none => zv) = r → (Instr.lookup t (.map (some g)) (kv k) false).run P w = .ok r w := fun r hr => by
    unfold Instr.lookup
    simp only [Sem.run_bind, run_underlying hu, Result.andThen_ok]
    rw [MapKept.run_getObj_map q3]
    simp only [Result.andThen_ok, Sem.run_pure, pure_bind, Sem.run_bind]
    rw [K.chk]
    simp only [Result.andThen_ok, Sem.run_bind]
    rw [MapKept.run_findKey K.und hf]
    simp only [Result.andThen_ok]
    cases hp : mpos l k with
    | none => rw [hp] at hr; simp only [Option.map_none]; simp [zeroValue, typeInfo, hi, hz, go_sem, ← hr]
    | some q => rw [hp] at hr; simp only [Option.map_some]; simp [← hr]
  have hv : RepD m (cv ((mfind l k).getD z)) (match mpos l k with | some q => (((es[q]?).map (·.val)).getD undef) | none => zv) := by
    unfold mfind
    cases hp : mpos l k with
    | none => exact hzr m
    | some q =>
      have hlt : q < l.length := (List.findIdx?_eq_some_iff_getElem.1 hp).1
      obtain ⟨e, h4, h5, h6⟩ := hE.2 q l[q] (List.getElem?_eq_getElem hlt)
      simp only [List.getElem?_eq_getElem hlt, Option.map_some, Option.getD_some]
      have h4 : es[q]? = some e := by simpa using h4
      rw [h4]
      exact h6
  refine ⟨_, w, m, o, ?_, by rw [hd]; exact I.set d (.t (.d (cv ((mfind l k).getD z)))) _ (by omega) h2 hv⟩
  unfold execOp
  rw [hop]
  simp only [Sem.run_bind]
  rw [vO_eq hM I hy, k2, hrun _ rfl]
  rfl
theorem run_mup {t kt et : TypeId} {κ ν : Type} [BEq κ] {kv : κ → Value} {cv : ν → D} (K : KeyT P kt kv) (hu : P.underlying t = some (.map kt et)) {g ck : Nat} {es : Array MapEntry} (hg : w.heap[g]? = some (.map es ck)) {l : List (κ × ν)} (hE : EntR m kv cv l es.toList) (k : κ) {v : ν} {u : Value} (hv : RepD m (cv v) u) :
    ∃ es' ck', (Instr.mapUpdate t (.map (some g)) (kv k) u).run P w = .ok () { w with heap := w.heap.setIfInBounds g (.map es' ck') } ∧ EntR m kv cv (mset l k v) es'.toList := by
  have hf := find_run (m := m) K k l es.toList 0 hE
  have hpos : (l.findIdx? fun p => k == p.1) = mpos l k := rfl
  rw [hpos] at hf
  have start : ∀ r, (match mpos l k with
      | some i => do
        let key ← Instr.keyThatStays (((es[i]?).map (·.key)).getD (kv k)) (kv k)
        setObj g (.map (es.modify i fun e => { e with key, val := u }) ck)
      | none => setObj g (.map (es.push { key := kv k, val := u, born := ck }) (ck + 1)) : Sem Unit).run P w = r → (Instr.mapUpdate t (.map (some g)) (kv k) u).run P w = r := fun r hr => by
    unfold Instr.mapUpdate
    simp only [Sem.run_bind, run_underlying hu, Result.andThen_ok]
    rw [MapKept.run_getObj_map hg]
    simp only [Result.andThen_ok, Sem.run_bind]
    rw [K.chk]
    simp only [Result.andThen_ok, Sem.run_bind]
    rw [MapKept.run_findKey K.und hf]
    simp only [Result.andThen_ok]
    cases hp : mpos l k with
    | none => rw [hp] at hr; exact hr
    | some q => rw [hp] at hr; simp only [Option.map_some, Nat.zero_add]; exact hr
  cases hp : mpos l k with
  | none =>
    rw [hp] at start
    refine ⟨es.push { key := kv k, val := u, born := ck }, ck + 1, start _ (MapKept.run_setObj_map _ hg), ?_⟩
    unfold mset
    rw [hp]
    refine ⟨by simp [hE.1], fun i x hi => ?_⟩
    rw [List.getElem?_append] at hi
    have hlen := hE.1
    split at hi
    · rename_i hlt
      obtain ⟨e, h1, h2, h3⟩ := hE.2 i x hi
      refine ⟨e, ?_, h2, h3⟩
      rw [Array.toList_push, List.getElem?_append_left (by omega)]
      exact h1
    · rename_i hlt
      have hil : i = l.length := by
        rcases Nat.lt_or_ge (i - l.length) 1 with h | h
        · omega
        · rw [List.getElem?_eq_none (by simpa using h)] at hi; cases hi
      subst hil
      rw [Nat.sub_self] at hi
      injection hi with hi
      subst hi
      refine ⟨{ key := kv k, val := u, born := ck }, ?_, rfl, hv⟩
      rw [Array.toList_push, List.getElem?_append_right (by omega), hlen, Nat.sub_self]
      rfl
  | some q =>
    rw [hp] at start
    have hp' := List.findIdx?_eq_some_iff_getElem.1 hp
    obtain ⟨hlt, heq, _⟩ := hp'
    obtain ⟨e, h4, h5, h6⟩ := hE.2 q l[q] (List.getElem?_eq_getElem hlt)
    have h4' : es[q]? = some e := by simpa using h4
    have hk : Instr.keyThatStays (((es[q]?).map (·.key)).getD (kv k)) (kv k) = pure (kv k) := by
      unfold Instr.keyThatStays
      rw [h4']
      simp only [Option.map_some, Option.getD_some]
      rw [h5, if_pos (K.bits _ _ heq)]
    refine ⟨es.modify q fun e => { e with key := kv k, val := u }, ck, start _ (by show (do let key ← Instr.keyThatStays (((es[q]?).map (·.key)).getD (kv k)) (kv k); setObj g (.map (es.modify q fun e => { e with key, val := u }) ck) : Sem Unit).run P w = _; rw [hk]; simp only [pure_bind]; exact MapKept.run_setObj_map _ hg), ?_⟩
    unfold mset
    rw [hp]
    have hes : (es.modify q fun e => { e with key := kv k, val := u }).toList = es.toList.modify q fun e => { e with key := kv k, val := u } := by simp
    rw [hes]
    refine ⟨by simp [hE.1], fun i x hi => ?_⟩
    rw [List.getElem?_set] at hi
    rw [List.getElem?_modify]
    split at hi
    · rename_i e2
      subst e2
      first | rw [if_pos hlt] at hi | skip
      injection hi with hi
      subst hi
      exact ⟨{ e with key := kv k, val := u }, by rw [h4]; simp, rfl, hv⟩
    · rename_i e2
      obtain ⟨e', h1, h2, h3⟩ := hE.2 i x hi
      exact ⟨e', by rw [h1]; simp [e2], h2, h3⟩
/-- An entry is set. -/
theorem ok_mup {κ ν : Type} [BEq κ] {kv : κ → Value} {cv : ν → D} (hM : Mk M S) {j t kt et : Nat} {x y z : Operand} {l : List (κ × ν)} {k : κ} {v : ν} (hop : op.op = .mapUpdate t x y z) (hx : cpO M x = .t (.mpt j)) (hb : S (OB + j) = mpA kv cv l) (hy : vO M y = some (kv k)) (hz : dO M z = some (cv v)) (hu : P.underlying t = some (.map kt et)) (K : KeyT P kt kv)
    (hd : op.dst = none) : OpOK P pins N op S (upd S (OB + j) (mpA kv cv (mset l k v))) := by
  refine ok_of_skip hd fun w0 m0 o0 G a w m o hN I => ?_
  have hxr := cpO_rep hM I x 0
  rw [hx] at hxr
  obtain ⟨g, k1, k2⟩ := hxr
  have hbs := I.slots (OB + j)
  rw [hb] at hbs
  obtain ⟨g', q1, q2, es, ck, q3, q4⟩ := hbs
  obtain rfl := I.inj _ _ _ k1 q1
  obtain ⟨es', ck', hr, hE'⟩ := run_mup (m := m) K hu q3 (mp_ent q4) k (dO_rep hM I hz)
  refine ⟨_, m, o, ?_, I.map_turn (ck' := ck') hb q1 q3 q2 (ent_mp K.one hE')⟩
  unfold execOp
  rw [hop]
  simp only [Sem.run_bind]
  rw [vO_eq hM I hy, k2, hr]
  rfl
/-- An entry is taken out. -/
theorem ok_mdl {κ ν : Type} [BEq κ] {kv : κ → Value} {cv : ν → D} (hM : Mk M S) {j t kt et : Nat} {x y : Operand} {ts : Array TypeId} {l : List (κ × ν)} {k : κ} (hop : op.op = .call { callee := .builtin .delete, args := #[x, y], argTypes := ts }) (hts : ts[0]? = some t) (hx : cpO M x = .t (.mpt j)) (hb : S (OB + j) = mpA kv cv l) (hy : vO M y = some (kv k)) (hu : P.underlying t = some (.map kt et)) (K : KeyT P kt kv)
    (hd : op.dst = none) : OpOK P pins N op S (upd S (OB + j) (mpA kv cv (mdel l k))) := by
  refine ok_of_run fun w0 m0 o0 G a w m o hN I => ?_
  have hxr := cpO_rep hM I x 0
  rw [hx] at hxr
  obtain ⟨g, k1, k2⟩ := hxr
  have hbs := I.slots (OB + j)
  rw [hb] at hbs
  obtain ⟨g', q1, q2, es, ck, q3, q4⟩ := hbs
  obtain rfl := I.inj _ _ _ k1 q1
  have hE := mp_ent q4
  have hf := find_run (m := m) K k l es.toList 0 hE
  have hpos : (l.findIdx? fun p => k == p.1) = mpos l k := rfl
  rw [hpos] at hf
  let es' : Array MapEntry := match mpos l k with
    | some q => es.eraseIdxIfInBounds q
    | none => es
  have hrun : (Builtin.delete_ ts op.type #[.map (some g), kv k]).run P w = .ok (.tuple #[]) { w with heap := w.heap.setIfInBounds g (.map es' ck) } := by
    unfold Builtin.delete_
    simp only [hts]
    simp only [Sem.run_bind, run_underlying hu, Result.andThen_ok, List.getElem?_toArray, List.getElem?_cons_zero, List.getElem?_cons_succ]
    rw [MapKept.run_getObj_map q3]
    simp only [Result.andThen_ok, Sem.run_bind]
    rw [K.chk]
    simp only [Result.andThen_ok, Sem.run_bind]
    rw [MapKept.run_findKey K.und hf]
    simp only [Result.andThen_ok]
    show _ = Result.ok _ { w with heap := w.heap.setIfInBounds g (.map (match mpos l k with | some q => es.eraseIdxIfInBounds q | none => es) ck) }
    cases hp : mpos l k with
    | none => simp only [Option.map_none, Sem.run_bind]; rw [MapKept.run_setObj_map _ q3]; rfl
    | some q => simp only [Option.map_some, Nat.zero_add, Sem.run_bind]; rw [MapKept.run_setObj_map _ q3]; rfl
  have hE' : EntR m kv cv (mdel l k) es'.toList := by
    show EntR m kv cv (match mpos l k with | some i => l.eraseIdx i | none => l) (match mpos l k with | some q => es.eraseIdxIfInBounds q | none => es).toList
    cases hp : mpos l k with
    | none => exact hE
    | some q =>
      obtain ⟨hlt, heq, _⟩ := List.findIdx?_eq_some_iff_getElem.1 hp
      have hes : (es.eraseIdxIfInBounds q).toList = es.toList.eraseIdx q := by simp
      simp only
      rw [hes]
      refine ⟨by rw [List.length_eraseIdx, List.length_eraseIdx, hE.1], fun i x hi => ?_⟩
      rw [List.getElem?_eraseIdx] at hi ⊢
      split at hi
      · rename_i h; rw [if_pos h]; exact hE.2 i x hi
      · rename_i h; rw [if_neg h]; exact hE.2 _ x hi
  refine ⟨.tuple #[], _, m, o, ?_, by rw [hd]; exact I.map_turn (ck' := ck) hb q1 q3 q2 (ent_mp K.one hE')⟩
  unfold execOp
  rw [hop]
  simp only [resolve, invoke, builtin, Sem.run_bind, Sem.run_pure, Result.andThen_ok, List.map_toArray, List.map_cons, List.map_nil]
  rw [vO_eq hM I hy, k2, hrun]
  rfl
theorem ok_mln {κ ν : Type} [BEq κ] {kv : κ → Value} {cv : ν → D} (hM : Mk M S) {j t kt et : Nat} {x : Operand} {l : List (κ × ν)} (hop : op.op = .call { callee := .builtin .len, args := #[x], argTypes := #[t] }) (hx : cpO M x = .t (.mpt j)) (hb : S (OB + j) = mpA kv cv l) (hu : P.underlying t = some (.map kt et)) (hd : op.dst = some d) (hok : okD N pins S d = true) : OpOK P pins N op S (upd S d (.t (.d (.lit (.int .i64 l.length))))) := by
  refine ok_of_run fun w0 m0 o0 G a w m o hN I => ?_
  obtain ⟨h1, h2, h3⟩ := okD_iff hok
  have hxr := cpO_rep hM I x 0
  rw [hx] at hxr
  obtain ⟨g, k1, k2⟩ := hxr
  have hbs := I.slots (OB + j)
  rw [hb] at hbs
  obtain ⟨g', q1, q2, es, ck, q3, q4⟩ := hbs
  obtain rfl := I.inj _ _ _ k1 q1
  refine ⟨.int .i64 l.length, w, m, o, ?_, by rw [hd]; exact I.set d _ _ (by omega) h2 (.lit _ rfl)⟩
  unfold execOp
  rw [hop]
  simp only [resolve, invoke, builtin, Sem.run_bind, Sem.run_pure, Result.andThen_ok, List.map_toArray, List.map_cons, List.map_nil]
  rw [k2]
  have hl : es.size = l.length := by simpa using q4.1
  have hr : (Builtin.len_ #[t] op.type #[.map (some g)]).run P w = .ok (.int .i64 l.length) w := by
    unfold Builtin.len_
    simp only [List.getElem?_toArray, List.getElem?_cons_zero]
    simp only [Sem.run_bind, run_underlying hu, Result.andThen_ok]
    rw [MapKept.run_getObj_map q3]
    simp [goInt, hl]
  rw [hr]
  rfl

/-! ### As walks that a program writes want them -/
theorem ob_lo {j : Nat} (h : Nat.blt (j + 1) OB = true) : OB + j < OB2 ∧ OB + j ≠ HK := ⟨(lo_of h).1, (lo_of h).2.1⟩
theorem mk_hx {j : Nat} {x : A} (hM : Mk M S) (hb : M (OB + j) = x) (hn : x ≠ .any) : hx S (OB + j) = x := by
  rcases hM (OB + j) with e | e
  · rw [e] at hb; exact absurd hb.symm hn
  · rw [e] at hb; exact hx_of hb hn
theorem h_obj {j : Nat} {x : A} (hj : Nat.blt (j + 1) OB = true) (h : N ≤ OB → Low S → OpOK P pins N op (hx S) (upd (hx S) (OB + j) x)) : OpH P pins N op S (app S [(OB + j, x)]) := by
  intro hN hlo
  obtain ⟨e1, e2⟩ := ob_lo hj
  refine ⟨?_, hlo.upd e1⟩
  show OpOK P pins N op (hx S) (hx (upd S (OB + j) x))
  rw [hx_updL e1 e2]
  exact h hN hlo
theorem h_mkm (hM : Mk M S) {j t : Nat} {x : A} (hop : op.op = .makeMap t none) (hd : op.dst = some d) (hok : okD N pins S d = true) (hj : Nat.blt (j + 1) OB = true) (hfree : M (OB + j) = .free) (hx0 : A.mp [] = x) : OpH P pins N op S (app S [(OB + j, x), (d, .t (.mpt j))]) := by
  subst hx0
  intro hN hlo
  obtain ⟨e1, e2⟩ := ob_lo hj
  have hdO := okD_lo hN hok
  refine ⟨?_, (hlo.upd e1).upd (lt2 hdO)⟩
  show OpOK P pins N op (hx S) (hx (upd (upd S (OB + j) _) d _))
  rw [hx_updL (lt2 hdO) (by unfold HK; unfold OB at hdO; omega), hx_updL e1 e2]
  exact ok_mkm hop hd (okD_hx hN hok) (by simpa using hdO) (mk_hx hM hfree (by simp))
theorem h_mlk {κ ν : Type} [BEq κ] {kv : κ → Value} {cv : ν → D} (hM : Mk M S) {j t kt et : Nat} {x y : Operand} {l : List (κ × ν)} {k : κ} {z : ν} {r : A} (hop : op.op = .lookup t x y false) (hx : cpO M x = .t (.mpt j)) (hb : M (OB + j) = mpA kv cv l) (hy : vO M y = some (kv k)) (hu : P.underlying t = some (.map kt et)) (K : KeyT P kt kv)
    {i : TypeInfo} {zv : Value} (hi : P.info? et = some i) (hz : i.zero = some zv) (hzr : ∀ m, RepD m (cv z) zv) (hr : A.t (.d (cv ((mfind l k).getD z))) = r) (hd : op.dst = some d) (hok : okD N pins S d = true) : OpH P pins N op S (app S [(d, r)]) := by
  subst hr
  exact .of (e := [(d, _)]) fun hN => ⟨ok_mlk hM.hx hop hx (mk_hx hM hb (by simp)) hy hu K hi hz hzr hd (okD_hx hN hok), eff_1 (okD_lo hN hok)⟩
theorem h_mup {κ ν : Type} [BEq κ] {kv : κ → Value} {cv : ν → D} (hM : Mk M S) {j t kt et : Nat} {x y z : Operand} {l : List (κ × ν)} {k : κ} {v : ν} (hop : op.op = .mapUpdate t x y z) (hx : cpO M x = .t (.mpt j)) (hb : M (OB + j) = mpA kv cv l) (hy : vO M y = some (kv k)) (hz : dO M z = some (cv v)) (hu : P.underlying t = some (.map kt et)) (K : KeyT P kt kv)
    (hd : op.dst = none) (hj : Nat.blt (j + 1) OB = true) : OpH P pins N op S (app S [(OB + j, mpA kv cv (mset l k v))]) :=
  h_obj hj fun hN _ => ok_mup hM.hx hop hx (mk_hx hM hb (by simp)) hy hz hu K hd
theorem h_mdl {κ ν : Type} [BEq κ] {kv : κ → Value} {cv : ν → D} (hM : Mk M S) {j t kt et : Nat} {x y : Operand} {ts : Array TypeId} {l : List (κ × ν)} {k : κ} (hop : op.op = .call { callee := .builtin .delete, args := #[x, y], argTypes := ts }) (hts : ts[0]? = some t) (hx : cpO M x = .t (.mpt j)) (hb : M (OB + j) = mpA kv cv l) (hy : vO M y = some (kv k)) (hu : P.underlying t = some (.map kt et)) (K : KeyT P kt kv)
    (hd : op.dst = none) (hj : Nat.blt (j + 1) OB = true) : OpH P pins N op S (app S [(OB + j, mpA kv cv (mdel l k))]) :=
  h_obj hj fun hN _ => ok_mdl hM.hx hop hts hx (mk_hx hM hb (by simp)) hy hu K hd
theorem h_mln {κ ν : Type} [BEq κ] {kv : κ → Value} {cv : ν → D} (hM : Mk M S) {j t kt et : Nat} {x : Operand} {l : List (κ × ν)} {r : A} (hop : op.op = .call { callee := .builtin .len, args := #[x], argTypes := #[t] }) (hx : cpO M x = .t (.mpt j)) (hb : M (OB + j) = mpA kv cv l) (hu : P.underlying t = some (.map kt et)) (hr : A.t (.d (.lit (.int .i64 l.length))) = r) (hd : op.dst = some d) (hok : okD N pins S d = true) : OpH P pins N op S (app S [(d, r)]) := by
  subst hr
  exact .of (e := [(d, _)]) fun hN => ⟨ok_mln hM.hx hop hx (mk_hx hM hb (by simp)) hu hd (okD_hx hN hok), eff_1 (okD_lo hN hok)⟩
theorem wkts_refl : ∀ l : List T, WkTs l l
  | [] => .nil
  | x :: r => .cons (.refl x) (wkts_refl r)
theorem wkts_app {l l' : List T} (r : List T) (h : WkTs l l') : WkTs (l ++ r) (l' ++ r) := by
  induction h with
  | nil => exact wkts_refl r
  | cons h _ ih => exact .cons h ih
theorem wkts_pre {l l' : List T} (h : WkTs l l') : ∀ r : List T, WkTs (r ++ l) (r ++ l')
  | [] => h
  | x :: r => .cons (.refl x) (wkts_pre h r)
theorem wkts_splice {c c' : List T} (h : WkTs c c') (l : List T) (off : Nat) : WkTs (splice l off c) (splice l off c') := by
  unfold splice
  rw [h.get.1]
  exact wkts_app _ (wkts_pre h _)
theorem fl_noAgg {α : Type} (c : α → List D) (l : List α) : ((fl (dT c) l).all fun x => !x.isAgg) = true := by
  rw [fl_flat, List.all_map]
  exact List.all_eq_true.2 fun _ _ => rfl
/-- nil is stored into an element that is a slice. -/
theorem h_lstN (hM : Mk M S) {t b off k : Nat} {x : Operand} (hop : op.op = .store t x (.const (.slice none 0 0))) (hd : op.dst = none) {i : TypeInfo} (hi : P.info? t = some i) (hx : cpO M x = .ref b off) {l l' : List T} (hb : M b = .box l) (hsz : 1 = i.size) (hle : off + i.size ≤ l.length) (hl' : splice l off [.d (.seq k [])] = l') (ha : (l'.all fun x => !x.isAgg) = true) : OpH P pins N op S (app S [(b, .box l')]) := by
  refine OpH.weak (e := [(b, .box (splice l off [.d (.lit (.slice none 0 0))]))]) (h_lst hM hop hd hi hx hb rfl hsz hle rfl) ?_
  subst hl'
  exact .cons (.box (wkts_splice (.cons (.d (.nil _)) .nil) l off) ha) (fun e => nomatch e) .nil
theorem flr_at {α : Type} {c : α → List D} {l : List α} {z : Int} {y : α} {k : Nat} (h : idx l z = some y) (hc : ∀ a, (c a).length = k) : ((fl (dT c) l).drop (0 + z.toNat * k)).take k = dT c y := by
  rw [Nat.zero_add]
  exact fl_row (dT_len hc) (idx_lt h).2.2
end
end Go.Proofs.YtimdogdplphmoaaDoor
