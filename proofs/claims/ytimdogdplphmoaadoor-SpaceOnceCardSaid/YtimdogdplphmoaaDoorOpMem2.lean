/-
  Operations that make or write memory: literals, bytes of a text, stores.
-/
import Derived.Test.YtimdogdplphmoaaDoorOpMem
namespace Go.Proofs.YtimdogdplphmoaaDoor
open Go Go.RowKit
set_option linter.unusedVariables false

/-- The cells of a value. -/
def cellsO : A → Option (List D)
  | .t (.d x) => some [x]
  | .t (.agg l) => some l
  | _ => none
/-- The rows of a literal's parts, which are all there, in order. -/
def rowsO (M : Nat → A) (sz : Nat) : Nat → List (Nat × Operand) → Option (List (List D))
  | _, [] => some []
  | n, (i, x) :: r => if i = n then match cellsO (cpO M x), rowsO M sz (n + 1) r with
      | some c, some t => if c.length = sz then some (c :: t) else none
      | _, _ => none
    else none

section
variable {w0 : World} {m0 : Mem} {o0 : OwnM} {G : Nat → Prop} {pins : List Nat} {S M : Nat → A} {a : Act} {w : World} {m : Mem} {o : OwnM} {P : Program}
theorem cellsO_rep {s : Nat} {y : A} {v : Value} {l : List D} (hl : cellsO y = some l) (hy : RepA m w o S s y v) : RepL m l v.cells.toList := by
  cases y with
  | t z =>
    cases z with
    | d x =>
      injection hl with hl
      subst hl
      have : RepD m x v := hy
      exact ⟨by rw [this.cells]; simp, fun j e hj => by
        rw [this.cells]
        cases j with
        | zero => injection hj with hj; subst hj; exact ⟨v, rfl, this⟩
        | succ j => simp at hj⟩
    | agg ds =>
      injection hl with hl
      subst hl
      obtain ⟨vs, e, h⟩ := hy
      subst e
      exact h
    | _ => cases hl
  | _ => cases hl
theorem rowsO_rep (hM : Mk M S) (I : Inv w0 m0 o0 G pins S a w m o) {sz : Nat} : ∀ (n : Nat) (parts : List (Nat × Operand)) (l : List (List D)), rowsO M sz n parts = some l →
    (parts.map fun x => (x.1, a.eval x.2)) = ((parts.map fun x => a.eval x.2).zipIdx n).map (fun x => (x.2, x.1)) ∧ (∀ v ∈ parts.map (fun x => a.eval x.2), v.cells.size = sz) ∧ RowsR m sz l ((parts.map fun x => a.eval x.2).flatMap fun v => v.cells.toList) ∧ l.length = parts.length
  | n, [], l, h => by
    injection h with h
    subst h
    exact ⟨rfl, by simp, ⟨by simp, fun i r h => by simp at h, fun i r j d h => by simp at h⟩, rfl⟩
  | n, (i, x) :: r, l, h => by
    unfold rowsO at h
    split at h
    case isFalse => cases h
    rename_i e
    subst e
    split at h
    · rename_i c t hc ht
      split at h
      · rename_i hsz
        injection h with h
        subst h
        obtain ⟨h1, h2, h3, h4⟩ := rowsO_rep hM I (i + 1) r t ht
        have hr := cellsO_rep hc (cpO_rep hM I x 0)
        have hcs : (a.eval x).cells.size = sz := by have := hr.1; simp at this; omega
        refine ⟨?_, ?_, ?_, by simp [h4]⟩
        · simp only [List.map_cons, List.zipIdx_cons, h1]
        · intro v hv
          rcases List.mem_cons.1 hv with rfl | hv
          · exact hcs
          · exact h2 v hv
        · have hone : RowsR m sz [c] (a.eval x).cells.toList := by
            refine ⟨by simp [hcs], fun i r hi => ?_, fun i r j d hi hj => ?_⟩
            · cases i with
              | zero => injection hi with hi; subst hi; exact hsz
              | succ i => simp at hi
            · cases i with
              | zero =>
                injection hi with hi
                subst hi
                obtain ⟨u, h5, h6⟩ := hr.2 j d hj
                exact ⟨u, by simpa using h5, h6⟩
              | succ i => simp at hi
          exact hone.append h3
      · cases h
    · cases h

theorem rowsO_one (hM : Mk M S) (I : Inv w0 m0 o0 G pins S a w m o) {l : List D} {v : Value} (h : RepL m l v.cells.toList) : ∀ u ∈ v.cells.toList, u.oneCell' = true := by
  intro u hu
  obtain ⟨j, hj⟩ := List.getElem?_of_mem hu
  have hlt : j < l.length := by rw [← h.1]; exact (List.getElem?_eq_some_iff.1 hj).1
  obtain ⟨u', h1, h2⟩ := h.2 j _ (List.getElem?_eq_getElem hlt)
  rw [hj] at h1
  injection h1 with h1
  subst h1
  exact h2.one

theorem bsl_ok (hM : Mk M S) (I : Inv w0 m0 o0 G pins S a w m o) {t e sz nb : Nat} (E : ElemOf P t e sz nb) {d : Nat} (hd : d < a.tmps.size) (hbox : (S d).isBox = false) (hpin : d ∉ pins)
    {parts : List (Nat × Operand)} {l : List (List D)} (hl : rowsO M sz 0 parts = some l) (hn : parts ≠ []) (hb : parts.length * sz ≤ 16777216) :
    ∃ v w' m' o', (Instr.buildSlice t parts.length (parts.map fun x => (x.1, a.eval x.2)).toArray).run P w = .ok v w' ∧ Inv w0 m0 o0 G pins (upd S d (.t (.own e sz l))) (a.put (some d) v) w' m' o' := by
  obtain ⟨i, z, hi, hz, rfl, rfl, hzs⟩ := E.info
  obtain ⟨h1, h2, h3, h4⟩ := rowsO_rep hM I 0 parts l hl
  have hpos : 0 < parts.length := List.length_pos_iff.2 hn
  have hp2 : 0 < parts.length * i.size := Nat.mul_pos hpos E.pos
  have hlen : (parts.map fun x => a.eval x.2).length = parts.length := by simp
  have hrun := run_buildSlice (P := P) w t e parts.length (parts.map fun x => (x.1, a.eval x.2)).toArray _ i z E.under hi hz (by omega) (by omega) (by
    rw [show (parts.map fun x => (x.1, a.eval x.2)).toArray.toList = _ from h1]
    exact Great.fill_whole E.pos _ _ h2 (by rw [hlen]; simp))
  generalize hxs : ((parts.map fun x => a.eval x.2).flatMap fun v => v.cells.toList) = xs at hrun h3
  have hxl : xs.length = parts.length * i.size := by rw [h3.1, h4]
  have hown : Own (w.alloc (.cells xs.toArray e)) 0 e i.size (some ⟨w.heap.size, 0, none⟩) parts.length parts.length xs := by
    have := Own.lit (B := 0) w xs.toArray e i.size parts.length (Nat.zero_le _) (by unfold maxLen; have := Nat.le_mul_of_pos_right parts.length E.pos; omega) (by simpa using hxl)
    simpa using this
  have hwid := h3.2.1
  refine ⟨_, _, _, _, hrun, I.own_put d _ _ (fun p => xs[p]?) w.heap.size _ hd hbox hpin (I.free (Nat.le_refl _)) (I.newG (Nat.le_refl _)) ((Same.alloc (fun _ => False) w _).weaken (fun _ h => h.elim)) (by simp) (fun p u h => by rw [I.mem_none (Nat.le_refl _)] at h; cases h) (fun p u hp => Own.cellAt hown rfl hp) ?_⟩
  refine ⟨some ⟨w.heap.size, 0, none⟩, parts.length, xs, by rw [h4], by rw [h4]; exact hown, fun g hg => ?_, hwid, (h3.mono (newM_le I (Nat.le_refl _) _)).2.2⟩
  injection hg with hg
  subst hg
  exact ⟨newO_same _ _ _, fun p => newM_same _ _ _ _⟩

theorem bytesRow_get (s : ByteArray) (cap p : Nat) (b : UInt8) (hp : s.data.toList[p]? = some b) : (bytesRow s cap)[p]? = some (.int .u8 (b.toNat : Int)) := by
  have hlt : p < s.data.size := by have := (List.getElem?_eq_some_iff.1 hp).1; simpa using this
  unfold bytesRow
  rw [Array.getElem?_append_left (by simpa using hlt)]
  rw [Array.getElem?_map, ← Array.getElem?_toList, hp]
  rfl
theorem str_ok (I : Inv w0 m0 o0 G pins S a w m o) {src dst e : TypeId} (hs : P.underlying src = some .string) (hdst : P.underlying dst = some (.slice e)) (he : P.underlying e = some (.int .u8)) (s : ByteArray) (hsz : s.size ≤ maxLen) {d : Nat} (hd : d < a.tmps.size) (hbox : (S d).isBox = false) (hpin : d ∉ pins) :
    ∃ v w' m' o', (convert src dst (.string s)).run P w = .ok v w' ∧ Inv w0 m0 o0 G pins (upd S d (.t (.d (.seq 1 (bytesD s.data.toList))))) (a.put (some d) v) w' m' o' := by
  have hrun := run_bytes_of_string (P := P) w src dst e s hs hdst he
  have hcell : ∀ p u, ((s.data.toList[p]?).map fun b => Value.int .u8 (b.toNat : Int)) = some u → (w.drew.alloc (.cells (bytesRow s (grownCap w s.size 0 e)) e ((bytesRow s (grownCap w s.size 0 e)).size, (bytesRow s (grownCap w s.size 0 e)).size + 1))).cell? ⟨w.heap.size, p, none⟩ = some u := by
    intro p u h
    cases hb : s.data.toList[p]? with
    | none => rw [hb] at h; cases h
    | some b =>
      rw [hb] at h
      refine (cell_of_row _ w.heap.size p _ e _ (heap_alloc_new w.drew _)).trans ?_
      rw [bytesRow_get s _ p b hb]
      exact h
  refine ⟨_, _, _, _, hrun, I.own_put d _ _ (fun p => (s.data.toList[p]?).map fun b => Value.int .u8 (b.toNat : Int)) w.heap.size _ hd hbox hpin (I.free (Nat.le_refl _)) (I.newG (Nat.le_refl _))
    (((Same.drew (fun _ => False) w).trans ((Same.alloc (fun _ => False) w.drew _).weaken (fun _ h => h.elim))).weaken (fun _ h => h.elim)) (by simp) (fun p u h => by rw [I.mem_none (Nat.le_refl _)] at h; cases h) hcell ?_⟩
  have hbl : s.size = (bytesD s.data.toList).length := by unfold bytesD; rw [List.length_map, Array.length_toList]; rfl
  have hb : ∀ (i : Nat) (r : List D), (bytesD s.data.toList)[i]? = some r → ∃ b : UInt8, s.data.toList[i]? = some b ∧ r = [D.lit (.int .u8 (b.toNat : Int))] := by
    intro i r hi
    unfold bytesD at hi
    rw [List.getElem?_map] at hi
    cases hb : s.data.toList[i]? with
    | none => rw [hb] at hi; cases hi
    | some b =>
      rw [hb] at hi
      injection hi with hi
      exact ⟨b, rfl, hi.symm⟩
  show RepD _ (.seq 1 (bytesD s.data.toList)) (.slice _ s.size (grownCap w s.size 0 e))
  have hc1 : s.size ≤ grownCap w s.size 0 e := grownCap_ge _ _ _ _
  have hc2 : grownCap w s.size 0 e ≤ maxLen := grownCap_le_maxLen _ _ _ _ hsz
  generalize grownCap w s.size 0 e = cap at hc1 hc2
  rw [hbl] at hc1 ⊢
  refine .seq 1 _ _ _ w.heap.size 0 (fun i _ => ((s.data.toList[i]?).map fun b => Value.int .u8 (b.toNat : Int)).getD undef) hc1 hc2 (fun _ => rfl) (fun i r hi => ?_) (fun i r j x hi hj => ?_) (fun i r j x hi hj => ?_)
  · obtain ⟨b, _, rfl⟩ := hb i r hi
    rfl
  · obtain ⟨b, h, rfl⟩ := hb i r hi
    cases j with
    | succ j => simp at hj
    | zero =>
      rw [newM_same, Nat.zero_add, Nat.add_zero, Nat.mul_one, h]
      rfl
  · obtain ⟨b, h, rfl⟩ := hb i r hi
    cases j with
    | succ j => simp at hj
    | zero =>
      injection hj with hj
      subst hj
      rw [h]
      exact .lit _ rfl

/-! ### Stores -/
theorem shp_setRow {w : World} {g : Nat} {cs cs' : Array Value} {E : Nat} (hcs : w.heap[g]? = some (.cells cs E (0, 0))) (hsz : cs'.size = cs.size) (k : Nat) : ShpAt w (w.setRow g cs') k := by
  by_cases hk : k = g
  · subst hk
    intro cs2 E2 f2 h2
    rw [hcs] at h2
    injection h2 with h2
    injection h2 with h2 h3 h4
    subst h2 h3 h4
    exact ⟨cs', setRow_heap w k cs cs' E _ hcs, hsz⟩
  · exact .of_eq (setRow_other w g k cs' hk)
theorem Inv.box_put (I : Inv w0 m0 o0 G pins S a w m o) {b g : Nat} {l l' : List T} {cs cs' : Array Value} {E : Nat} (hb : S b = .box l) (hg : o g = some (b, 0)) (hcs : w.heap[g]? = some (.cells cs E (0, 0))) (hsz : cs'.size = cs.size) (o' : OwnM) (Dr : Nat → Prop)
    (hD : ∀ s, Dr s → s < OB ∧ s ∉ pins ∧ ∃ x, S s = .t (.d x)) (h1 : ∀ g' loc, o g' = some loc → ¬ Dr loc.1 → loc.1 ≠ b → o' g' = some loc) (h2 : o' g = some (b, 0)) (h3 : ∀ g' loc, o' g' = some loc → ∃ loc', o g' = some loc') (h4 : ∀ g' g'' loc, o' g' = some loc → o' g'' = some loc → g' = g'') (h5 : ∀ g' loc loc', o' g' = some loc → o g' = some loc' → Dr loc'.1 ∨ loc'.1 = b → Dr loc.1 ∨ loc.1 = b)
    (hl : l'.length = l.length) (hc : ∀ (j : Nat) (x : T), l'[j]? = some x → x.isAgg = false ∧ ∃ u, cs'[j]? = some u ∧ RepT m (w.setRow g cs') o' (b, j + 1) x u) :
    Inv w0 m0 o0 G pins (upd S b (.box l')) a (w.setRow g cs') m o' := by
  have hlt := I.lt g _ hg
  have hbs := I.slots b
  rw [hb] at hbs
  obtain ⟨g', hv, hg', hm, cs2, E2, hcs2, hl2, _⟩ := hbs
  have := I.inj _ _ _ hg hg'
  subst this
  rw [hcs] at hcs2
  injection hcs2 with hcs2
  injection hcs2 with hcs2 hE2
  subst hcs2 hE2
  have hne : ∀ b' p u, m b' p = some u → b' ≠ g := fun b' p u h e => by subst e; rw [hm] at h; cases h
  have hother : ∀ k, k ≠ g → (w.setRow g cs').heap[k]? = w.heap[k]? := fun k hk => setRow_other w g k cs' hk
  have hshp : ∀ k, ShpAt w (w.setRow g cs') k := shp_setRow hcs hsz
  have hbk : ∀ s, s ≠ b → RepA m w o S s (S s) (a.tmps.getD s undef) → RepA m (w.setRow g cs') o' (upd S b (.box l')) s (S s) (a.tmps.getD s undef) := by
    intro s hs h
    have href : ∀ b' off, S s = .ref b' off → RepA m (w.setRow g cs') o' (upd S b (.box l')) s (.ref b' off) (a.tmps.getD s undef) := by
      intro b' off e
      rw [e] at h
      obtain ⟨g1, k1, k2, k3⟩ := h
      by_cases e' : b' = b
      · subst e'
        have := I.inj _ _ _ k1 hg
        subst this
        exact ⟨g1, h2, k2, fun _ => ⟨l', upd_same _ _ _⟩⟩
      · refine ⟨g1, h1 _ _ k1 (fun hd => ?_) e', k2, fun hbO => let ⟨lx, k3⟩ := k3 hbO; ⟨lx, by rw [upd_other e', k3]⟩⟩
        obtain ⟨hO, _, x, hx⟩ := hD _ hd
        obtain ⟨lx, k3⟩ := k3 hO
        rw [show S b' = .box lx from k3] at hx
        cases hx
    by_cases hd : Dr s
    · obtain ⟨_, _, x, hx⟩ := hD s hd
      rw [hx] at h ⊢
      exact h
    · have K : Keep (fun loc => Dr loc.1 ∨ loc.1 = b) m w o m (w.setRow g cs') o' :=
        ⟨Mle.refl _, fun _ _ _ _ => rfl, fun g1 loc k1 k2 => hother g1 fun e => by
          subst e
          rw [hg] at k1
          injection k1 with k1
          exact k2 (.inr (by rw [← k1])), fun g1 loc k1 k2 => h1 g1 loc k1 (fun e => k2 (.inl e)) (fun e => k2 (.inr e)), fun g1 j k1 => by
          by_cases e : OB + j = b
          · rw [e] at k1 ⊢
            have := I.inj _ _ _ k1 hg
            subst this
            exact h2
          · exact h1 g1 _ k1 (fun hd => absurd (hD _ hd).1 (by show ¬ OB + j < OB; omega)) e, fun g1 s1 k1 hs1 e1 => by
          obtain ⟨loc', e2⟩ := h3 g1 _ e1
          by_cases hd : Dr loc'.1 ∨ loc'.1 = b
          · exact absurd (h5 g1 _ _ e1 e2 hd) hs1
          · rw [h1 g1 _ e2 (fun k => hd (.inl k)) (fun k => hd (.inr k))] at e1
            injection e1 with e1
            rw [e1] at e2
            exact ⟨g1, k1, e2⟩, fun g1 j k1 => hshp g1⟩
      cases hS : S s with
      | ref b' off => exact href b' off hS
      | _ =>
        rw [← hS]
        refine RepA.keep K (fun j e => e.elim hd hs) (fun b' off e _ => ?_) h
        rw [hS] at e
        cases e
  refine ⟨?_, fun b' p u h => ?_, I.mono, I.old, fun g1 loc k => ?_, fun g1 loc k => ?_, h4, fun s hs g1 k => ?_, fun s => ?_, I.defers, I.tbl, I.wide, I.shps.keep I.pinned fun k _ _ => hshp k⟩
  · refine I.same.trans ⟨rfl, rfl, rfl, by simp, fun k hk hn => hother k fun e => hn ?_⟩
    subst e
    exact I.own k _ hg
  · rw [World.cell?_of_block (w := w) (hother b' (hne b' p u h))]
    exact I.sat b' p u h
  · obtain ⟨loc', k'⟩ := h3 g1 loc k
    exact I.own g1 loc' k'
  · obtain ⟨loc', k'⟩ := h3 g1 loc k
    simpa using I.lt g1 loc' k'
  · have k2 := I.pinned s hs g1 k
    by_cases e : s = b
    · subst e
      have := I.inj _ _ _ k2 hg
      subst this
      exact h2
    · exact h1 g1 _ k2 (fun hd => hs.elim (hD s hd).2.1 fun hs => by have := (hD s hd).1; omega) e
  · by_cases e : s = b
    · subst e
      rw [upd_same]
      exact ⟨g, hv, h2, hm, cs', E, setRow_heap w g cs cs' E _ hcs, by rw [hsz, hl]; exact hl2, hc⟩
    · rw [upd_other e]
      exact hbk s e (I.slots s)
end
end Go.Proofs.YtimdogdplphmoaaDoor
