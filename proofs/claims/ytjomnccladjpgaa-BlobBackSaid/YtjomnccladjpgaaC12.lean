/-
  Texts joined: see the remark at the head of each part.
-/
import Derived.Test.YtjomnccladjpgaaC11
import Derived.MapKept
import Derived.Test.YtjomnccladjpgaaC10
import Derived.WalkSpells
import Derived.Lib.BufferWrite
set_option linter.unusedVariables false
set_option linter.unusedSimpArgs false
/-
  Growing a nil slice: cap, a cut of nil, append of zeros to nil, and the empty piece of what that gives.
-/
namespace Go.Proofs.Ytjomnccladjpgaa
open Go Go.RowKit
set_option linter.unusedVariables false
section
variable {w0 : World} {m0 : Mem} {o0 : OwnM} {G : GD} {pins : List Nat} {S M : Nat → A} {a : Act} {w : World} {m : Mem} {o : OwnM} {P : Program} {N : Nat} {op : Oper} {d : Nat}
theorem h_cap0 (hM : Mk M S) {t e : Nat} {x : Operand} (hop : op.op = .call { callee := .builtin .cap, args := ⟨[x]⟩, argTypes := ⟨[t]⟩ }) (hx : vO M x = some (.slice none 0 0)) (hu : P.underlying t = some (.slice e)) (hd : op.dst = some d) (hok : okD N pins S d = true) : OpH P pins N op S (app S [(d, .t (.d (.lit (.int .i64 0))))]) := by
  refine .of (e := [(d, _)]) fun hN => ⟨?_, eff_1 (okD_lo hN hok)⟩
  refine ok_of_run fun w0 m0 o0 G ac w m o hN' I => ?_
  obtain ⟨h1, h2, h3⟩ := okD_iff (okD_hx hN hok)
  refine ⟨.int .i64 0, w, m, o, ?_, by rw [hd]; exact I.set d _ _ (by omega) h2 (.lit _ rfl)⟩
  unfold execOp
  rw [hop]
  simp only [resolve, invoke, builtin, Sem.run_bind, Sem.run_pure, Result.andThen_ok, List.map_toArray, List.map_cons, List.map_nil]
  rw [vO_eq hM.hx I hx]
  simp [Builtin.cap_, run_underlying hu, goInt]
theorem h_slnil (hM : Mk M S) {t e : Nat} {x : Operand} {hi : Option Operand} {ie : TypeInfo} (hop : op.op = .slice t x none hi none) (hx : vO M x = some (.slice none 0 0)) (hhi : bndO M hi = some (some 0)) (hu : P.underlying t = some (.slice e)) (hie : P.info? e = some ie) (hd : op.dst = some d) (hok : okD N pins S d = true) : OpH P pins N op S (app S [(d, .t (.d (.lit (.slice none 0 0))))]) := by
  refine .of (e := [(d, _)]) fun hN => ⟨?_, eff_1 (okD_lo hN hok)⟩
  refine ok_of_run fun w0 m0 o0 G ac w m o hN' I => ?_
  obtain ⟨h1, h2, h3⟩ := okD_iff (okD_hx hN hok)
  obtain ⟨kh, e2⟩ := bndO_eq hM.hx I hhi
  refine ⟨.slice none 0 0, w, m, o, ?_, by rw [hd]; exact I.set d _ _ (by omega) h2 (.lit _ rfl)⟩
  unfold execOp
  rw [hop]
  simp only [Sem.run_bind]
  rw [e2, vO_eq hM.hx I hx]
  have hb : (Instr.sliceBounds true 0 0 none ((some (0 : Int)).map fun z => .int (kh z) z) none).run P w = .ok (0, 0, 0) w := by
    unfold Instr.sliceBounds
    simp only [Option.map_some, Option.isSome_some, Sem.run_bind, Sem.run_pure, Result.andThen_ok]
    repeat (rw [run_sliceBound_ok (by omega) (by omega), Result.andThen_ok])
    rfl
  show Result.andThen (Sem.run P (Instr.sliceAt t (.slice none 0 0) none _ none) w) _ = _
  unfold Instr.sliceAt
  simp only [Sem.run_bind, run_underlying hu, Result.andThen_ok]
  unfold Instr.slice
  simp only [Sem.run_bind, run_underlying hu, Result.andThen_ok]
  rw [hb]
  simp [sizeOf, typeInfo, hie]
def growI (nb : Nat) (n : Int) : Option Nat := if 0 < n ∧ n.toNat * nb ≤ 140737488355328 then some n.toNat else none
theorem h_apfr (hM : Mk M S) {t tn e nb q : Nat} {z : Value} {x y : Operand} {ki : IntKind} {n : Int} (hop : op.op = .call { callee := .builtin .append, args := ⟨[x, y]⟩, argTypes := ⟨[t, tn]⟩ }) (hx : vO M x = some (.slice none 0 0)) (hn : vO M y = some (.int ki n)) (hz : zerF P t tn = some (e, nb, z)) (hq : growI nb n = some q) (hd : op.dst = some d) (hok : okD N pins S d = true) : OpH P pins N op S (app S [(d, .fr e 1)]) := by
  unfold zerF at hz
  split at hz
  case h_2 => cases hz
  rename_i e' kn hu htn
  split at hz
  case h_2 => cases hz
  rename_i ie hi
  split at hz
  case h_2 => cases hz
  rename_i kz nz hz0
  split at hz
  case isFalse => cases hz
  rename_i hc
  obtain ⟨hs1, hpb⟩ := hc
  generalize hzz : Value.int kz nz = z' at *
  have hz1 : z'.cells = #[z'] := by rw [← hzz]; rfl
  have hz2 : z'.oneCell' = true := by rw [← hzz]; rfl
  injection hz with hz
  injection hz with q1 hz
  injection hz with q2 q3
  subst q1 q2 q3
  unfold growI at hq
  split at hq
  case isFalse => cases hq
  rename_i hq'
  injection hq with hq
  subst hq
  obtain ⟨hq0, hb⟩ := hq'
  obtain ⟨k, rfl⟩ := Int.eq_ofNat_of_zero_le (Int.le_of_lt hq0)
  simp only [Int.toNat_natCast] at hb
  have hk : 0 < k := by omega
  refine .of (e := [(d, _)]) fun hN => ⟨?_, eff_1 (okD_lo hN hok)⟩
  refine ok_of_run fun w0 m0 o0 G a w m o hN' I => ?_
  obtain ⟨h1, h2, h3⟩ := okD_iff (okD_hx hN hok)
  obtain ⟨A2, c2, w', hrun, hown, hcase⟩ := run_app_zeros P w hu kn htn hi hz0 hs1 hz1 hz2 hpb op.type none 0 0 [] (World.ownsRow_nil w 0 e' 1) ki k (by simpa using hb)
  rw [Nat.zero_add] at hrun hown
  obtain ⟨g, cap, cur, hv, _, hg, hcap, hmax, hsz, htk⟩ := hown.2.resolve_left fun h => by omega
  injection hv with hv _ hv2
  subst hv hv2
  have hgr : g = w.heap.size ∧ w.grownBy w' none := by
    rcases hcase with ⟨h, _⟩ | ⟨h, h'⟩
    · cases h
    · injection h with h; exact ⟨h, h'⟩
  obtain ⟨rfl, hgr⟩ := hgr
  refine ⟨_, w', _, _, ?_, by
    rw [hd]
    refine I.own_put d (.fr e' 1) (.slice (some ⟨w.heap.size, 0, none⟩) k c2) (fun _ => none) w.heap.size w' (by omega) h2 h3 (I.free (Nat.le_refl _)) (I.newG (Nat.le_refl _)) ⟨hgr.os, hgr.tape, hgr.output, hgr.size, fun j hj _ => hgr.block j hj (by simp), fun j => (ShpAt.of_lt fun hj => hgr.block j hj (by simp)).w⟩ (by
      exact (Array.getElem?_eq_some_iff.1 hg).1) (fun p u h => by rw [I.mem_none (Nat.le_refl _)] at h; cases h) (fun p u h => by cases h) ?_
    exact ⟨w.heap.size, k, c2, cur, rfl, newO_same _ _ _, fun p => newM_same _ _ _ _, hg, hcap, hmax, hsz⟩⟩
  unfold execOp
  rw [hop]
  simp only [resolve, invoke, builtin, Sem.run_bind, Sem.run_pure, Result.andThen_ok, List.map_toArray, List.map_cons, List.map_nil]
  rw [vO_eq hM.hx I hx, vO_eq hM.hx I hn, hrun]
  rfl
/-- A block that only slot s owned, of which nothing is told any more. -/
theorem Inv.unown (I : Inv w0 m0 o0 G pins S a w m o) {s g : Nat} (hs : s < OB) (hp : s ∉ pins) (hS : S s = .any) (ho : o g = some (s, 0)) : Inv w0 m0 o0 G pins S a w m (fun b => if b = g then none else o b) := by
  have hk : ∀ b l, (fun b => if b = g then none else o b) b = some l → b ≠ g ∧ o b = some l := by
    intro b l h
    show _ ∧ _
    by_cases e : b = g
    · simp only [e, if_pos] at h; cases h
    · simp only [e, if_neg, if_false] at h; exact ⟨e, h⟩
  have K : Keep (fun l => l.1 = s) m w o m w (fun b => if b = g then none else o b) := ⟨Mle.refl _, fun _ _ _ _ => rfl, fun _ _ _ _ => rfl, fun b l h hn => by
      show (if b = g then none else o b) = _
      rw [if_neg (fun e => by rw [e, ho] at h; injection h with h; exact hn (by rw [← h])), h], fun b j h => by
      show (if b = g then none else o b) = _
      rw [if_neg (fun e => by rw [e, ho] at h; injection h with h; injection h with h; omega), h], fun b t k _ h => ⟨b, k, (hk b _ h).2⟩, fun _ _ _ => .of_eq rfl⟩
  refine ⟨I.same, I.sat, I.mono, I.old, fun b l h => I.own b l (hk b l h).2, fun b l h => I.lt b l (hk b l h).2, fun b b' l h h' => I.inj b b' l (hk b l h).2 (hk b' l h').2, fun p hpp b hb => ?_, fun t => ?_, I.defers, I.tbl, I.wide, I.shps⟩
  · exact K.own b _ (I.pinned p hpp b hb) (fun e => hpp.elim (fun h => hp (by have e : p = s := e; rw [← e]; exact h)) fun h => by have e : p = s := e; omega)
  · by_cases e : t = s
    · subst e; rw [hS]; trivial
    · refine RepA.keep K (fun _ e2 => e e2) (fun b off he hb => ⟨fun e2 => ?_, id⟩) (I.slots t)
      have e2 : b = s := e2
      subst e2
      have h := I.slots t
      rw [he] at h
      obtain ⟨_, _, _, h3⟩ := h
      obtain ⟨l, hl⟩ := h3 hb
      rw [hS] at hl
      cases hl
theorem h_slfr {s : Nat} (hM : Mk M S) {t e E k : Nat} {hi : Option Operand} {ie : TypeInfo} (hop : op.op = .slice t (.tmp s) none hi none) (hxs : M s = .fr E k) (hhi : bndO M hi = some (some 0)) (hu : P.underlying t = some (.slice e)) (hie : P.info? e = some ie) (hsd : (s == d) = false) (hsp : (Nat.blt s OB && !pins.contains s) = true) (hd : op.dst = some d) (hok : okD N pins S d = true) : OpH P pins N op S (app S [(s, .any), (d, .t (.own E k []))]) := by
  simp only [Bool.and_eq_true, Bool.not_eq_true', List.contains_eq_mem, decide_eq_false_iff_not] at hsp
  have hsO : s < OB := by simpa using hsp.1
  have hne : s ≠ d := by simpa using hsd
  refine .of (e := [(s, _), (d, _)]) fun hN => ⟨?_, fun z hz => by
    simp at hz
    rcases hz with rfl | rfl
    · exact .inl hsO
    · exact .inl (okD_lo hN hok)⟩
  refine ok_of_run fun w0 m0 o0 G a w m o hN' I => ?_
  obtain ⟨h1, h2, h3⟩ := okD_iff (okD_hx hN hok)
  have hSs : hx S s = .fr E k := by
    rcases hM s with h | h
    · rw [h] at hxs; cases hxs
    · exact hx_of (h.symm.trans hxs) (by simp)
  have hs := I.slots s
  rw [hSs] at hs
  obtain ⟨g, n, cap, cur, q1, q2, q3, q4, q5, q6, q7⟩ := hs
  obtain ⟨kh, e2⟩ := bndO_eq hM.hx I hhi
  have I1 := I.tell s .any (by rw [hSs]; rfl) trivial
  have I2 := I1.unown (g := g) hsO hsp.2 (upd_same _ _ _) q2
  have hev : a.eval (.tmp s) = .slice (some ⟨g, 0, none⟩) n cap := q1
  have hb : (Instr.sliceBounds true n cap none ((some (0 : Int)).map fun z => .int (kh z) z) none).run P w = .ok (0, 0, cap) w := by
    unfold Instr.sliceBounds
    simp only [Option.map_some, Option.isSome_some, Sem.run_bind, Sem.run_pure, Result.andThen_ok]
    repeat (rw [run_sliceBound_ok (by omega) (by omega), Result.andThen_ok])
    rfl
  refine ⟨.slice (some ⟨g, 0, none⟩) 0 cap, w, _, _, ?_, by
    rw [hd]
    refine I2.own_put d (.t (.own E k [])) (.slice (some ⟨g, 0, none⟩) 0 cap) (fun _ => none) g w (by omega) (by rw [upd_other (Ne.symm hne)]; exact h2) h3 (fun l h => by simp at h) (I.own g _ q2) (Same.refl _ _) (I.lt g _ q2) (fun p u h => by rw [q3] at h; cases h) (fun p u h => by cases h) ?_
    refine ⟨some ⟨g, 0, none⟩, cap, [], rfl, ⟨by simp, .inr ⟨g, cap, cur, rfl, Nat.zero_le _, q4, Nat.zero_le _, q6, q7, by simp⟩⟩, fun g' hg' => ?_, fun i r h => by simp at h, fun i r j d h => by simp at h⟩
    injection hg' with hg'
    subst hg'
    exact ⟨newO_same _ _ _, fun p => newM_same _ _ _ _⟩⟩
  unfold execOp
  rw [hop]
  simp only [Sem.run_bind]
  rw [e2, hev]
  show Result.andThen (Sem.run P (Instr.sliceAt t _ none _ none) w) _ = _
  unfold Instr.sliceAt
  simp only [Sem.run_bind, run_underlying hu, Result.andThen_ok]
  unfold Instr.slice
  simp only [Sem.run_bind, run_underlying hu, Result.andThen_ok]
  rw [hb]
  by_cases hc : cap = 0
  · simp [sizeOf, typeInfo, hie, hc]
  · simp [sizeOf, typeInfo, hie, hc, Addr.add_mid]
end
end Go.Proofs.Ytjomnccladjpgaa

/-
  Maps: a map that a local object holds, told by its entries in the order in which they came.
-/
namespace Go.Proofs.Ytjomnccladjpgaa
open Go Go.RowKit
set_option linter.unusedVariables false

/-! ### Entries -/
section
variable {κ ν : Type} [BEq κ]
def mpos (l : List (κ × ν)) (k : κ) : Option Nat := l.findIdx? fun p => k == p.1
def mfind (l : List (κ × ν)) (k : κ) : Option ν := match mpos l k with
  | some i => (l[i]?).map (·.2)
  | none => none
def mset (l : List (κ × ν)) (k : κ) (v : ν) : List (κ × ν) := match mpos l k with
  | some i => l.set i (k, v)
  | none => l ++ [(k, v)]
end
/-- What keys are like: their type, as values. -/
structure KeyT (P : Program) (kt : TypeId) {κ : Type} [BEq κ] (kv : κ → Value) where
  d : TypeDesc
  und : P.underlying kt = some d
  same : ∀ a b, Instr.sameNow d (kv a) (kv b) = some (a == b)
  chk : ∀ a (e : Bool) (w : World), (Instr.checkKey e 10000 kt (kv a)).run P w = .ok () w
  bits : ∀ a b, (a == b) = true → Instr.sameBits 10000 (kv b) (kv a) = true
  one : ∀ a, (kv a).oneCell' = true
def keyInt {P : Program} {kt : TypeId} {k : IntKind} (h : P.underlying kt = some (.int k)) : KeyT P kt (fun z : Int => Value.int k z) :=
  ⟨.int k, h, fun a b => by simp [Instr.sameNow], fun a e w => MapKept.run_checkKey h (by simp [MapKept.IsKey]) e 9999, fun (a b : Int) (h : (a == b) = true) => by simp at h; simp [Instr.sameBits, h], fun _ => rfl⟩
def EntR (m : Mem) {κ ν : Type} (kv : κ → Value) (cv : ν → D) (l : List (κ × ν)) (es : List MapEntry) : Prop := es.length = l.length ∧ ∀ (i : Nat) (x : κ × ν), l[i]? = some x → ∃ e, es[i]? = some e ∧ e.key = kv x.1 ∧ RepD m (cv x.2) e.val
section
variable {κ ν : Type} [BEq κ] {P : Program} {kt : TypeId} {kv : κ → Value} {cv : ν → D} {m : Mem}
theorem find_run (K : KeyT P kt kv) (k : κ) : ∀ (l : List (κ × ν)) (es : List MapEntry) (i0 : Nat), EntR m kv cv l es → Instr.findNow K.d (kv k) es i0 = some ((l.findIdx? fun p => k == p.1).map fun i => (i0 + i, ((es[i]?).map (·.val)).getD undef))
  | [], es, i0, h => by
    rw [List.eq_nil_of_length_eq_zero h.1]
    rfl
  | x :: r, es, i0, h => by
    obtain ⟨e, h1, h2, h3⟩ := h.2 0 x rfl
    cases es with
    | nil => simp at h1
    | cons e' es =>
      injection h1 with h1
      subst h1
      unfold Instr.findNow
      rw [h2, K.same]
      have hr : EntR m kv cv r es := ⟨by simpa using h.1, fun i y hy => by simpa using h.2 (i + 1) y (by simpa using hy)⟩
      cases hk : (k == x.1) with
      | true => simp [List.findIdx?_cons, hk]
      | false =>
        simp only
        rw [find_run K k r es (i0 + 1) hr, List.findIdx?_cons, hk]
        simp only [cond_false, Bool.false_eq_true, if_false, Option.map_map]
        congr 1
        congr 1
        funext i
        simp only [Function.comp, List.getElem?_cons_succ]
        congr 1
        omega
end
section
variable {w0 : World} {m0 : Mem} {o0 : OwnM} {G : GD} {pins : List Nat} {S M : Nat → A} {a : Act} {w : World} {m : Mem} {o : OwnM} {P : Program} {N : Nat} {op : Oper} {d : Nat}
abbrev mpA {κ ν : Type} (kv : κ → Value) (cv : ν → D) (l : List (κ × ν)) : A := .mp (l.map fun p => (D.lit (kv p.1), cv p.2))
theorem mp_ent {κ ν : Type} {kv : κ → Value} {cv : ν → D} {l : List (κ × ν)} {es : Array MapEntry} (h : es.size = (l.map fun p => (D.lit (kv p.1), cv p.2)).length ∧ ∀ (i : Nat) (x : D × D), (l.map fun p => (D.lit (kv p.1), cv p.2))[i]? = some x → ∃ e, es[i]? = some e ∧ RepD m x.1 e.key ∧ RepD m x.2 e.val) : EntR m kv cv l es.toList := by
  refine ⟨by simpa using h.1, fun i x hi => ?_⟩
  obtain ⟨e, h1, h2, h3⟩ := h.2 i (D.lit (kv x.1), cv x.2) (by rw [List.getElem?_map, hi]; rfl)
  have h2 : RepD m (.lit (kv x.1)) e.key := h2
  generalize hk : e.key = u at h2
  refine ⟨e, by simpa using h1, ?_, h3⟩
  rw [hk]
  cases h2 with
  | lit u hu => rfl
theorem ent_mp {κ ν : Type} {kv : κ → Value} {cv : ν → D} {l : List (κ × ν)} {es : Array MapEntry} (h1 : ∀ a, (kv a).oneCell' = true) (h : EntR m kv cv l es.toList) : es.size = (l.map fun p => (D.lit (kv p.1), cv p.2)).length ∧ ∀ (i : Nat) (x : D × D), (l.map fun p => (D.lit (kv p.1), cv p.2))[i]? = some x → ∃ e, es[i]? = some e ∧ RepD m x.1 e.key ∧ RepD m x.2 e.val := by
  refine ⟨by simpa using h.1, fun i x hi => ?_⟩
  rw [List.getElem?_map] at hi
  cases hl : l[i]? with
  | none => rw [hl] at hi; cases hi
  | some y =>
    rw [hl] at hi
    injection hi with hi
    subst hi
    obtain ⟨e, h2, h3, h4⟩ := h.2 i y hl
    exact ⟨e, by simpa using h2, by rw [h3]; exact .lit _ (h1 _), h4⟩
/-- The map of object j turns. -/
theorem Inv.map_turn (I : Inv w0 m0 o0 G pins S a w m o) {j g : Nat} {l l' : List (D × D)} (hb : S (OB + j) = .mp l) (ho : o g = some (OB + j, 0)) {es es' : Array MapEntry} {ck ck' : Nat} (hg : w.heap[g]? = some (.map es ck)) (hmn : ∀ p, m g p = none)
    (hc : es'.size = l'.length ∧ ∀ (i : Nat) (x : D × D), l'[i]? = some x → ∃ e, es'[i]? = some e ∧ RepD m x.1 e.key ∧ RepD m x.2 e.val) :
    Inv w0 m0 o0 G pins (upd S (OB + j) (.mp l')) a { w with heap := w.heap.setIfInBounds g (.map es' ck') } m o := by
  obtain ⟨q1, q2⟩ := MapKept.heap_set (o' := .map es' ck') hg
  have hglt : g < w.heap.size := (Array.getElem?_eq_some_iff.1 hg).1
  have hne : ∀ b l, o b = some l → l ≠ (OB + j, 0) → b ≠ g := fun b l h hn e => by rw [e, ho] at h; injection h with h; exact hn h.symm
  have hsh : ∀ g', ShpAt w { w with heap := w.heap.setIfInBounds g (.map es' ck') } g' := fun g' => by
    by_cases e : g' = g
    · subst e; intro cs E f h; rw [hg] at h; cases h
    · exact .of_eq (q2 g' e)
  have hS : Same (fun x => G x ∨ w0.heap.size ≤ x) w { w with heap := w.heap.setIfInBounds g (.map es' ck') } := ⟨rfl, rfl, rfl, by simp, fun k _ hk => q2 k fun e => hk (by rw [e]; exact I.own g _ ho), fun k => (hsh k).w⟩
  have K : Keep (fun l => l = (OB + j, 0)) m w o m { w with heap := w.heap.setIfInBounds g (.map es' ck') } o :=
    ⟨Mle.refl _, fun _ _ _ _ => rfl, fun b l h hn => q2 b (hne b l h hn), fun b l h _ => h, fun b j' h => h, fun b s k _ h => ⟨b, k, h⟩, fun g' _ _ => hsh g'⟩
  refine ⟨I.same.trans hS, fun b p u h => ?_, I.mono, I.old, I.own, fun g' l h => by simpa using I.lt g' l h, I.inj, I.pinned, fun s => ?_, I.defers, I.tbl, I.wide, I.shps.keep I.pinned K.sh⟩
  · have h1 := I.sat b p u h
    have hbg : b ≠ g := fun e => by rw [e, hmn] at h; cases h
    rw [World.cell?_of_block (w := w) (q2 b hbg)]
    exact h1
  · by_cases e : s = OB + j
    · subst e
      rw [upd_same]
      exact ⟨g, ho, hmn, es', ck', q1, hc.1, hc.2⟩
    · rw [upd_other e]
      refine RepA.keep K (fun _ e' => by injection e' with e' _; exact e e') (fun b off _ hb' => ⟨fun e' => by injection e' with e' _; omega, fun ⟨l', hl'⟩ => ⟨l', ?_⟩⟩) (I.slots s)
      rw [upd_other (by omega), hl']
/-- A new map, held by object j, which was not there. -/
theorem Inv.map_new (I : Inv w0 m0 o0 G pins S a w m o) {j : Nat} (hfree : S (OB + j) = .free) : Inv w0 m0 o0 G pins (upd S (OB + j) (.mp [])) a (w.alloc (.map #[] 0)) m (newO o (OB + j) w.heap.size) := by
  have hf : ∀ g k, o g ≠ some (OB + j, k) := by have := I.slots (OB + j); rw [hfree] at this; exact this
  have hS : Same (fun _ => False) w (w.alloc (.map #[] 0)) := Same.alloc _ _ _
  have hne : ∀ b l, o b = some l → b ≠ w.heap.size := fun b l h e => by have := I.lt b l h; omega
  have hk : ∀ b l, o b = some l → newO o (OB + j) w.heap.size b = some l := by
    intro b l h
    unfold newO
    rw [if_neg (hne b l h), h, if_neg]
    intro e
    obtain ⟨s, k⟩ := l
    injection e with e
    subst e
    exact hf b k h
  have hk' : ∀ b l, newO o (OB + j) w.heap.size b = some l → (b = w.heap.size ∧ l = (OB + j, 0)) ∨ (b ≠ w.heap.size ∧ o b = some l) := by
    intro b l h
    unfold newO at h
    split at h
    · rename_i e; injection h with h; exact .inl ⟨e, h.symm⟩
    · split at h
      · cases h
      · rename_i e _; exact .inr ⟨e, h⟩
  have hsh : ∀ g, ShpAt w (w.alloc (.map #[] 0)) g := fun g => .of_lt fun h => hS.block g h id
  have K : Keep (fun l => l.1 = OB + j) m w o m (w.alloc (.map #[] 0)) (newO o (OB + j) w.heap.size) :=
    ⟨Mle.refl _, fun _ _ _ _ => rfl, fun b l h _ => hS.block b (I.lt b l h) id, fun b l h _ => hk b l h, fun b j' h => hk b _ h, fun b s k hs h => by
      rcases hk' b _ h with ⟨_, e⟩ | ⟨_, e⟩
      · injection e with e _; exact absurd e hs
      · exact ⟨b, k, e⟩, fun g _ _ => hsh g⟩
  refine ⟨I.same.trans (hS.weaken fun _ h => h.elim), fun b p u h => ?_, I.mono, I.old, fun g l h => ?_, fun g l h => ?_, fun g g' l h h' => ?_, fun s hs g hg => hk g _ (I.pinned s hs g hg), fun s => ?_, I.defers, I.tbl, I.wide, I.shps.keep I.pinned K.sh⟩
  · have h1 := I.sat b p u h
    have hlt : b < w.heap.size := by have := World.block_lt_of_cell? w _ h1; simpa using this
    rw [World.cell?_of_block (w := w) (hS.block b hlt id)]
    exact h1
  · rcases hk' g l h with ⟨e, _⟩ | ⟨_, e⟩
    · subst e; exact I.newG (Nat.le_refl _)
    · exact I.own g l e
  · rcases hk' g l h with ⟨e, _⟩ | ⟨_, e⟩
    · subst e; simp
    · exact Nat.lt_of_lt_of_le (I.lt g l e) hS.size
  · rcases hk' g l h with ⟨e, q⟩ | ⟨_, e⟩ <;> rcases hk' g' l h' with ⟨e', q'⟩ | ⟨_, e'⟩
    · rw [e, e']
    · subst q; exact absurd e' (hf _ _)
    · subst q'; exact absurd e (hf _ _)
    · exact I.inj _ _ _ e e'
  · by_cases e : s = OB + j
    · subst e
      rw [upd_same]
      exact ⟨w.heap.size, newO_same _ _ _, fun p => I.mem_none (Nat.le_refl _), #[], 0, (MapKept.heap_alloc w _).1, rfl, fun i x hi => by simp at hi⟩
    · rw [upd_other e]
      exact RepA.keep K (fun _ => e) (fun b off _ hb => ⟨fun e' => by have : b = OB + j := e'; omega, fun ⟨l', hl'⟩ => ⟨l', by rw [upd_other (by omega), hl']⟩⟩) (I.slots s)
theorem ok_mkm {j t : Nat} (hop : op.op = .makeMap t none) (hd : op.dst = some d) (hok : okD N pins S d = true) (hdO : d < OB) (hfree : S (OB + j) = .free) : OpOK P pins N op S (upd (upd S (OB + j) (.mp [])) d (.t (.mpt j))) := by
  refine ok_of_run fun w0 m0 o0 G a w m o hN I => ?_
  obtain ⟨h1, h2, h3⟩ := okD_iff hok
  have J := I.map_new hfree
  refine ⟨.map (some w.heap.size), _, _, _, ?_, by rw [hd]; exact J.set d _ _ (by omega) (by rw [upd_other (by omega)]; exact h2) ⟨_, newO_same _ _ _, rfl⟩⟩
  unfold execOp
  rw [hop]
  rfl
theorem run_mup {t kt et : TypeId} {κ ν : Type} [BEq κ] {kv : κ → Value} {cv : ν → D} (K : KeyT P kt kv) (hu : P.underlying t = some (.map kt et)) {g ck : Nat} {es : Array MapEntry} (hg : w.heap[g]? = some (.map es ck)) {l : List (κ × ν)} (hE : EntR m kv cv l es.toList) (k : κ) {v : ν} {u : Value} (hv : RepD m (cv v) u) :
    ∃ es' ck', (Instr.mapUpdate t (.map (some g)) (kv k) u).run P w = .ok () { w with heap := w.heap.setIfInBounds g (.map es' ck') } ∧ EntR m kv cv (mset l k v) es'.toList := by
  have hf := find_run (m := m) K k l es.toList 0 hE
  have hpos : (l.findIdx? fun p => k == p.1) = mpos l k := rfl
  rw [hpos] at hf
  have start : ∀ r, (match mpos l k with
      | some i => do
        let key ← Instr.keyThatStays (((es[i]?).map (·.key)).getD (kv k)) (kv k)
        setObj g (.map (es.modify i fun e => { e with key, val := u }) ck)
      | none => setObj g (.map (es.push { key := kv k, val := u, born := ck }) (ck + 1)) : Sem Unit).run P w = r → (Instr.mapUpdate t (.map (some g)) (kv k) u).run P w = r := fun r hr => by
    unfold Instr.mapUpdate
    simp only [Sem.run_bind, run_underlying hu, Result.andThen_ok]
    rw [MapKept.run_getObj_map hg]
    simp only [Result.andThen_ok, Sem.run_bind]
    rw [K.chk]
    simp only [Result.andThen_ok, Sem.run_bind]
    rw [MapKept.run_findKey K.und hf]
    simp only [Result.andThen_ok]
    cases hp : mpos l k with
    | none => rw [hp] at hr; exact hr
    | some q => rw [hp] at hr; simp only [Option.map_some, Nat.zero_add]; exact hr
  cases hp : mpos l k with
  | none =>
    rw [hp] at start
    refine ⟨es.push { key := kv k, val := u, born := ck }, ck + 1, start _ (MapKept.run_setObj_map _ hg), ?_⟩
    unfold mset
    rw [hp]
    refine ⟨by simp [hE.1], fun i x hi => ?_⟩
    rw [List.getElem?_append] at hi
    have hlen := hE.1
    split at hi
    · rename_i hlt
      obtain ⟨e, h1, h2, h3⟩ := hE.2 i x hi
      refine ⟨e, ?_, h2, h3⟩
      rw [Array.toList_push, List.getElem?_append_left (by omega)]
      exact h1
    · rename_i hlt
      have hil : i = l.length := by
        rcases Nat.lt_or_ge (i - l.length) 1 with h | h
        · omega
        · rw [List.getElem?_eq_none (by simpa using h)] at hi; cases hi
      subst hil
      rw [Nat.sub_self] at hi
      injection hi with hi
      subst hi
      refine ⟨{ key := kv k, val := u, born := ck }, ?_, rfl, hv⟩
      rw [Array.toList_push, List.getElem?_append_right (by omega), hlen, Nat.sub_self]
      rfl
  | some q =>
    rw [hp] at start
    have hp' := List.findIdx?_eq_some_iff_getElem.1 hp
    obtain ⟨hlt, heq, _⟩ := hp'
    obtain ⟨e, h4, h5, h6⟩ := hE.2 q l[q] (List.getElem?_eq_getElem hlt)
    have h4' : es[q]? = some e := by simpa using h4
    have hk : Instr.keyThatStays (((es[q]?).map (·.key)).getD (kv k)) (kv k) = pure (kv k) := by
      unfold Instr.keyThatStays
      rw [h4']
      simp only [Option.map_some, Option.getD_some]
      rw [h5, if_pos (K.bits _ _ heq)]
    refine ⟨es.modify q fun e => { e with key := kv k, val := u }, ck, start _ (by show (do let key ← Instr.keyThatStays (((es[q]?).map (·.key)).getD (kv k)) (kv k); setObj g (.map (es.modify q fun e => { e with key, val := u }) ck) : Sem Unit).run P w = _; rw [hk]; simp only [pure_bind]; exact MapKept.run_setObj_map _ hg), ?_⟩
    unfold mset
    rw [hp]
    have hes : (es.modify q fun e => { e with key := kv k, val := u }).toList = es.toList.modify q fun e => { e with key := kv k, val := u } := by simp
    rw [hes]
    refine ⟨by simp [hE.1], fun i x hi => ?_⟩
    rw [List.getElem?_set] at hi
    rw [List.getElem?_modify]
    split at hi
    · rename_i e2
      subst e2
      first | rw [if_pos hlt] at hi | skip
      injection hi with hi
      subst hi
      exact ⟨{ e with key := kv k, val := u }, by rw [h4]; simp, rfl, hv⟩
    · rename_i e2
      obtain ⟨e', h1, h2, h3⟩ := hE.2 i x hi
      exact ⟨e', by rw [h1]; simp [e2], h2, h3⟩
/-- An entry is set. -/
theorem ok_mup {κ ν : Type} [BEq κ] {kv : κ → Value} {cv : ν → D} (hM : Mk M S) {j t kt et : Nat} {x y z : Operand} {l : List (κ × ν)} {k : κ} {v : ν} (hop : op.op = .mapUpdate t x y z) (hx : cpO M x = .t (.mpt j)) (hb : S (OB + j) = mpA kv cv l) (hy : vO M y = some (kv k)) (hz : dO M z = some (cv v)) (hu : P.underlying t = some (.map kt et)) (K : KeyT P kt kv)
    (hd : op.dst = none) : OpOK P pins N op S (upd S (OB + j) (mpA kv cv (mset l k v))) := by
  refine ok_of_skip hd fun w0 m0 o0 G a w m o hN I => ?_
  have hxr := cpO_rep hM I x 0
  rw [hx] at hxr
  obtain ⟨g, k1, k2⟩ := hxr
  have hbs := I.slots (OB + j)
  rw [hb] at hbs
  obtain ⟨g', q1, q2, es, ck, q3, q4⟩ := hbs
  obtain rfl := I.inj _ _ _ k1 q1
  obtain ⟨es', ck', hr, hE'⟩ := run_mup (m := m) K hu q3 (mp_ent q4) k (dO_rep hM I hz)
  refine ⟨_, m, o, ?_, I.map_turn (ck' := ck') hb q1 q3 q2 (ent_mp K.one hE')⟩
  unfold execOp
  rw [hop]
  simp only [Sem.run_bind]
  rw [vO_eq hM I hy, k2, hr]
  rfl
/-! ### As walks that a program writes want them -/
end
end Go.Proofs.Ytjomnccladjpgaa

/-
  Maps that the heap holds.
-/
namespace Go.Proofs.Ytjomnccladjpgaa
open Go Go.RowKit
set_option linter.unusedVariables false

section
variable {w0 : World} {m0 : Mem} {o0 : OwnM} {G : GD} {pins : List Nat} {S M : Nat → A} {a : Act} {w : World} {m : Mem} {o : OwnM} {P : Program} {N : Nat} {op : Oper} {d c : Nat} {f f' : Nat → A}
theorem hx_mp {l : List (D × D)} (hl : Low S) (hk : S HK = .hp f) (hf : f c = .mp l) : hx S (OB + (OB + c)) = .mp l := by rw [hx_hp hl hk, hf]; rfl
theorem h_putM {l' : List (D × D)} (hk : S HK = .hp f) (hf' : f' = updF f c (.mp l')) (h : N ≤ OB → Low S → OpOK P pins N op (hx S) (upd (hx S) (OB + (OB + c)) (.mp l'))) : OpH P pins N op S (app S [(HK, .hp f')]) := by
  subst hf'
  intro hN hl
  refine ⟨?_, hl.upd hk_lt⟩
  show OpOK P pins N op (hx S) (hx (upd S HK _))
  rw [hx_set hl hk rfl]
  refine (h hN hl).hkpost (f := f) ?_
  rw [upd_other (by unfold HK OB; omega)]
  exact hx_of hk (by simp)
theorem h_mkM {l' : List (D × D)} {x : A} (hk : S HK = .hp f) (hf' : f' = updF f c (.mp l')) (hok : okD N pins S d = true) (h : N ≤ OB → Low S → OpOK P pins N op (hx S) (upd (upd (hx S) (OB + (OB + c)) (.mp l')) d x)) : OpH P pins N op S (app S [(HK, .hp f'), (d, x)]) := by
  subst hf'
  intro hN hl
  have hdO := okD_lo hN hok
  have hd2 : d ≠ HK := by unfold HK; unfold OB at hdO; omega
  refine ⟨?_, (hl.upd hk_lt).upd (lt2 hdO)⟩
  show OpOK P pins N op (hx S) (hx (upd (upd S HK _) d x))
  rw [hx_updL (lt2 hdO) hd2, hx_set hl hk rfl, upd_comm (Ne.symm hd2)]
  refine (h hN hl).hkpost (f := f) ?_
  show upd (upd (hx S) (OB + (OB + c)) _) d x HK = _
  rw [upd_other (Ne.symm hd2), upd_other (by unfold HK OB; omega)]
  exact hx_of hk (by simp)
/-- A new map of the heap. -/
theorem h_mkmH {t : Nat} (hk : S HK = .hp f) (hop : op.op = .makeMap t none) (hd : op.dst = some d) (hok : okD N pins S d = true) (hf : f c = .free) (hf' : f' = updF f c (.mp [])) : OpH P pins N op S (app S [(HK, .hp f'), (d, .t (.mpt (OB + c)))]) :=
  h_mkM hk hf' hok fun hN hlo => ok_mkm hop hd (okD_hx hN hok) (by simpa using okD_lo hN hok) (hx_free hlo hk hf)
/-- What stands under a key, and whether anything does. -/
theorem ok_mlk2 {κ ν : Type} [BEq κ] {kv : κ → Value} {cv : ν → D} (hM : Mk M S) {j t kt et : Nat} {x y : Operand} {l : List (κ × ν)} {k : κ} {z : ν} (hop : op.op = .lookup t x y true) (hx : cpO M x = .t (.mpt j)) (hb : S (OB + j) = mpA kv cv l) (hy : vO M y = some (kv k)) (hu : P.underlying t = some (.map kt et)) (K : KeyT P kt kv)
    {i : TypeInfo} {zv : Value} (hi : P.info? et = some i) (hz : i.zero = some zv) (hzr : ∀ m, RepD m (cv z) zv) (hd : op.dst = some d) (hok : okD N pins S d = true) : OpOK P pins N op S (upd S d (.tup [.d (cv ((mfind l k).getD z)), .d (.lit (.bool (mfind l k).isSome))])) := by
  refine ok_of_run fun w0 m0 o0 G a w m o hN I => ?_
  obtain ⟨h1, h2, h3⟩ := okD_iff hok
  have hxr := cpO_rep hM I x 0
  rw [hx] at hxr
  obtain ⟨g, k1, k2⟩ := hxr
  have hbs := I.slots (OB + j)
  rw [hb] at hbs
  obtain ⟨g', q1, q2, es, ck, q3, q4⟩ := hbs
  obtain rfl := I.inj _ _ _ k1 q1
  have hE := mp_ent q4
  have hf := find_run (m := m) K k l es.toList 0 hE
  have hpos : (l.findIdx? fun p => k == p.1) = mpos l k := rfl
  rw [hpos] at hf
  have hrun : ∀ r, (match mpos l k with | some q => (((es[q]?).map (·.val)).getD undef) | none => zv) = r → (Instr.lookup t (.map (some g)) (kv k) true).run P w = .ok (.tuple #[r, .bool (mpos l k).isSome]) w := fun r hr => by
    unfold Instr.lookup
    simp only [Sem.run_bind, run_underlying hu, Result.andThen_ok]
    rw [MapKept.run_getObj_map q3]
    simp only [Result.andThen_ok, Sem.run_pure, pure_bind, Sem.run_bind]
    rw [K.chk]
    simp only [Result.andThen_ok, Sem.run_bind]
    rw [MapKept.run_findKey K.und hf]
    simp only [Result.andThen_ok]
    cases hp : mpos l k with
    | none => rw [hp] at hr; simp only [Option.map_none]; simp [zeroValue, typeInfo, hi, hz, go_sem, ← hr]
    | some q => rw [hp] at hr; simp only [Option.map_some]; simp [← hr]
  have hv : RepD m (cv ((mfind l k).getD z)) (match mpos l k with | some q => (((es[q]?).map (·.val)).getD undef) | none => zv) := by
    unfold mfind
    cases hp : mpos l k with
    | none => exact hzr m
    | some q =>
      have hlt : q < l.length := (List.findIdx?_eq_some_iff_getElem.1 hp).1
      obtain ⟨e, h4, h5, h6⟩ := hE.2 q l[q] (List.getElem?_eq_getElem hlt)
      simp only [List.getElem?_eq_getElem hlt, Option.map_some, Option.getD_some]
      have h4 : es[q]? = some e := by simpa using h4
      rw [h4]
      exact h6
  have hs : (mpos l k).isSome = (mfind l k).isSome := by
    unfold mfind
    cases hp : mpos l k with
    | none => rfl
    | some q =>
      have hlt : q < l.length := (List.findIdx?_eq_some_iff_getElem.1 hp).1
      simp [List.getElem?_eq_getElem hlt]
  rw [hs] at hrun
  obtain ⟨rv, hrv⟩ : ∃ rv : Value, (match mpos l k with | some q => (((es[q]?).map (fun e : MapEntry => e.val)).getD undef) | none => zv) = rv := ⟨_, rfl⟩
  rw [hrv] at hv
  have hrep : RepA m w o S d (.tup [.d (cv ((mfind l k).getD z)), .d (.lit (.bool (mfind l k).isSome))]) (.tuple #[rv, .bool (mfind l k).isSome]) := by
    refine ⟨#[rv, .bool (mfind l k).isSome], rfl, rfl, fun q x hq => ?_⟩
    match q, hq with
    | 0, hq =>
      injection hq with hq
      subst hq
      exact ⟨_, rfl, hv⟩
    | 1, hq =>
      injection hq with hq
      subst hq
      exact ⟨_, rfl, .lit _ rfl⟩
    | q + 2, hq => simp at hq
  refine ⟨.tuple #[rv, .bool (mfind l k).isSome], w, m, o, ?_, by rw [hd]; exact I.set d _ _ (by omega) h2 hrep⟩
  unfold execOp
  rw [hop]
  simp only [Sem.run_bind]
  rw [vO_eq hM I hy, k2, hrun _ hrv]
  rfl
theorem h_mlk2H {κ ν : Type} [BEq κ] {kv : κ → Value} {cv : ν → D} (hM : Mk M S) (hk : S HK = .hp f) {t kt et : Nat} {x y : Operand} {l : List (κ × ν)} {k : κ} {z : ν} (hop : op.op = .lookup t x y true) (hx : cpO M x = .t (.mpt (OB + c))) (hf : f c = mpA kv cv l) (hy : vO M y = some (kv k)) (hu : P.underlying t = some (.map kt et)) (K : KeyT P kt kv)
    {i : TypeInfo} {zv : Value} (hi : P.info? et = some i) (hz : i.zero = some zv) (hzr : ∀ m, RepD m (cv z) zv) (hd : op.dst = some d) (hok : okD N pins S d = true) : OpH P pins N op S (app S [(d, .tup [.d (cv ((mfind l k).getD z)), .d (.lit (.bool (mfind l k).isSome))])]) :=
  .of' (e := [(d, _)]) fun hN hlo => ⟨ok_mlk2 hM.hx hop hx (hx_mp hlo hk hf) hy hu K hi hz hzr hd (okD_hx hN hok), eff_1 (okD_lo hN hok)⟩
/-- An entry is set. -/
theorem h_mupH {κ ν : Type} [BEq κ] {kv : κ → Value} {cv : ν → D} (hM : Mk M S) (hk : S HK = .hp f) {t kt et : Nat} {x y z : Operand} {l : List (κ × ν)} {k : κ} {v : ν} (hop : op.op = .mapUpdate t x y z) (hx : cpO M x = .t (.mpt (OB + c))) (hf : f c = mpA kv cv l) (hy : vO M y = some (kv k)) (hz : dO M z = some (cv v)) (hu : P.underlying t = some (.map kt et)) (K : KeyT P kt kv)
    (hd : op.dst = none) (hf' : f' = updF f c (mpA kv cv (mset l k v))) : OpH P pins N op S (app S [(HK, .hp f')]) :=
  h_putM hk hf' fun hN hlo => ok_mup hM.hx hop hx (hx_mp hlo hk hf) hy hz hu K hd
/-- A map held against nil. -/
theorem ok_mn (hM : Mk M S) {bop : BinOp} {t yt kt et j : Nat} {x : Operand} {ng : Bool} (hop : op.op = .binOp bop t x (.const (.map none)) yt) (hb : bop = bif ng then .neq else .eql) (ht : P.underlying t = some (.map kt et)) (hx : cpO M x = .t (.mpt j)) (hd : op.dst = some d) (hok : okD N pins S d = true) : OpOK P pins N op S (upd S d (.t (.d (.lit (.bool ng))))) := by
  refine ok_of_run fun w0 m0 o0 G a w m o hN I => ?_
  obtain ⟨h1, h2, h3⟩ := okD_iff hok
  have hxr := cpO_rep hM I x 0
  rw [hx] at hxr
  obtain ⟨g, k1, k2⟩ := hxr
  refine ⟨.bool ng, w, m, o, ?_, by rw [hd]; exact I.set d _ _ (by omega) h2 (.lit _ rfl)⟩
  subst hb
  unfold execOp
  rw [hop]
  show Sem.run P (do pure (Next.value (← (do eqGuard _ t x _ (a.eval x) (.map none); binOp _ t (a.eval x) (.map none))))) w = _
  rw [k2, Sem.run_bind]
  have hg : ∀ bop : BinOp, (eqGuard bop t x (.const (.map none)) (.map (some g)) (.map none)).run P w = .ok () w := by
    intro bop
    unfold eqGuard
    cases bop <;> rfl
  cases ng with
  | false =>
    show Result.andThen (Sem.run P (do eqGuard .eql t x _ (.map (some g)) (.map none); binOp .eql t (.map (some g)) (.map none)) w) _ = _
    rw [Sem.run_bind, hg, Result.andThen_ok, run_eql_map_nil w t kt et (some g) ht]
    rfl
  | true =>
    show Result.andThen (Sem.run P (do eqGuard .neq t x _ (.map (some g)) (.map none); binOp .neq t (.map (some g)) (.map none)) w) _ = _
    rw [Sem.run_bind, hg, Result.andThen_ok, run_neq_map_nil w t kt et (some g) ht]
    rfl
theorem h_mn (hM : Mk M S) {bop : BinOp} {t yt kt et j : Nat} {x : Operand} {ng : Bool} (hop : op.op = .binOp bop t x (.const (.map none)) yt) (hb : bop = bif ng then .neq else .eql) (ht : P.underlying t = some (.map kt et)) (hx : cpO M x = .t (.mpt j)) (hd : op.dst = some d) (hok : okD N pins S d = true) : OpH P pins N op S (app S [(d, .t (.d (.lit (.bool ng))))]) :=
  .of (e := [(d, _)]) fun hN => ⟨ok_mn hM.hx hop hb ht hx hd (okD_hx hN hok), eff_1 (okD_lo hN hok)⟩
theorem mpt_loc (c : Nat) : (T.mpt (OB + c)).isLoc = false := by
  show Nat.blt (OB + c) OB = false
  have h : ¬ (OB + c < OB) := by omega
  cases hb : Nat.blt (OB + c) OB with
  | false => rfl
  | true => exact absurd (by simpa using hb) h
/-- The maps of the heap. -/
def arM {κ ν : Type} (kv : κ → Value) (cv : ν → D) (l : List (List (κ × ν))) (i : Nat) : A := match l[i]? with
  | some x => mpA kv cv x
  | none => .free
variable {κ ν : Type} {kv : κ → Value} {cv : ν → D} {ms : List (List (κ × ν))} {i : Nat} {x x' : List (κ × ν)}
theorem arM_get (h : ms[i]? = some x) : arM kv cv ms i = mpA kv cv x := by unfold arM; rw [h]
theorem arM_ne {j : Nat} (h : j ≠ i) : arM kv cv (ms.set i x') j = arM kv cv ms j := by unfold arM; rw [List.getElem?_set_ne (Ne.symm h)]
theorem arM_eq (h : ms[i]? = some x) : arM kv cv (ms.set i x') i = mpA kv cv x' := arM_get (set_get h)
theorem arM_free : arM kv cv ms ms.length = .free := by unfold arM; rw [List.getElem?_eq_none (Nat.le_refl _)]
theorem arM_new : arM kv cv (ms ++ [x]) ms.length = mpA kv cv x := by
  unfold arM
  rw [List.getElem?_append_right (Nat.le_refl _)]
  simp
theorem arM_old {j : Nat} (h : j ≠ ms.length) : arM kv cv (ms ++ [x]) j = arM kv cv ms j := by
  unfold arM
  rcases Nat.lt_or_ge j ms.length with h1 | h1
  · rw [List.getElem?_append_left h1]
  · rw [List.getElem?_eq_none h1, List.getElem?_eq_none (by simp; omega)]
theorem arM_pure {l : List T} (h : arM kv cv ms i = .box l) : ∀ y ∈ l, y.isLoc = false := by
  unfold arM at h
  split at h <;> cases h
theorem san_arM (kv : κ → Value) (cv : ν → D) (l : List (List (κ × ν))) (i : Nat) : san (arM kv cv l i) = arM kv cv l i := by unfold arM; split <;> rfl
end

/-! ### copy from a string that fits -/
open Go.Lib
end Go.Proofs.Ytjomnccladjpgaa
