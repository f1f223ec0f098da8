/-
  Slices that may grow: out of a call's results; made.
-/
import Derived.Test.YtimdogdplphmoaaDoorClo
import Derived.Laws.MakeOwn
namespace Go.Proofs.YtimdogdplphmoaaDoor
open Go Go.RowKit
set_option linter.unusedVariables false
section
variable {w0 : World} {m0 : Mem} {o0 : OwnM} {G : Nat → Prop} {pins : List Nat} {S M : Nat → A} {a : Act} {w : World} {m : Mem} {o : OwnM} {P : Program} {N : Nat}
/-- A part of a call's results is told as data; what it held is owned by nobody. -/
theorem Inv.dropPart (I : Inv w0 m0 o0 G pins S a w m o) {s i E k : Nat} {l : List T} {ls : List (List D)} (hb : S s = .tup l) (hl : l[i]? = some (.own E k ls)) :
    ∃ o', Inv w0 m0 o0 G pins (upd S s (.tup (l.set i (.d (.seq k ls))))) a w m o' ∧ (∀ g x, o' g = some x → x ≠ (s, i + 1) ∧ o g = some x) := by
  have hk : ∀ g x, (fun g => if o g = some (s, i + 1) then none else o g) g = some x → x ≠ (s, i + 1) ∧ o g = some x := by
    intro g x h
    simp only at h
    split at h
    · cases h
    · rename_i hn
      exact ⟨fun e => hn (by rw [h, e]), h⟩
  have K : Keep (fun x => x = (s, i + 1)) m w o m w (fun g => if o g = some (s, i + 1) then none else o g) :=
    ⟨Mle.refl _, fun _ _ _ _ => rfl, fun _ _ _ _ => rfl, fun g x h hn => by
      show (if o g = some (s, i + 1) then none else o g) = _
      rw [h, if_neg (by simpa using hn)], fun g j h => by
      show (if o g = some (s, i + 1) then none else o g) = _
      rw [h, if_neg (by intro e; injection e with e; injection e with _ e; omega)], fun g s k _ h => ⟨g, k, (hk g _ h).2⟩, fun g _ _ => .of_eq rfl⟩
  refine ⟨_, ⟨I.same, I.sat, I.mono, I.old, fun g x h => I.own g x (hk g x h).2, fun g x h => I.lt g x (hk g x h).2, fun g g' x h h' => I.inj g g' x (hk g x h).2 (hk g' x h').2, fun p hp g hg => ?_, fun t => ?_, I.defers, I.tbl, I.wide, I.shps⟩, hk⟩
  · exact K.own g _ (I.pinned p hp g hg) (fun e => by injection e with _ e; omega)
  · have h := I.slots t
    by_cases e : t = s
    · subst e
      rw [hb] at h
      rw [upd_same]
      obtain ⟨vs, e1, h1, h2⟩ := h
      refine ⟨vs, e1, by simpa using h1, fun j x hj => ?_⟩
      rw [List.getElem?_set] at hj
      split at hj
      · rename_i e
        subst e
        split at hj
        · injection hj with hj
          subst hj
          obtain ⟨u, h6, h7⟩ := h2 i _ hl
          exact ⟨u, h6, own_seq I.sat h7⟩
        · cases hj
      · rename_i e
        obtain ⟨u, h7, h8⟩ := h2 j x hj
        exact ⟨u, h7, h8.keep K (fun e2 => by injection e2 with _ e2; omega)⟩
    · rw [upd_other e]
      refine RepA.keep K (fun j e2 => by injection e2 with e2 _; exact e e2) (fun b' off' he _ => ⟨fun e2 => by injection e2 with _ e2; omega, fun ⟨l', hl'⟩ => ?_⟩) h
      have : b' ≠ s := fun e3 => by subst e3; rw [hb] at hl'; cases hl'
      exact ⟨l', by rw [upd_other this, hl']⟩
/-- What may grow goes from a part of a call's results to a slot. -/
theorem ok_xt {op : Oper} {s i d E k : Nat} {l : List T} {ls : List (List D)} (hop : op.op = .extract (.tmp s) i) (hb : S s = .tup l) (hl : l[i]? = some (.own E k ls)) (hne : (s == d) = false) (hd : op.dst = some d) (hok : okD N pins S d = true) :
    OpOK P pins N op S (app S [(s, .tup (l.set i (.d (.seq k ls)))), (d, .t (.own E k ls))]) := by
  refine ok_of_run fun w0 m0 o0 G a w m o hN I => ?_
  obtain ⟨h1, h2, h3⟩ := okD_iff hok
  have hne : s ≠ d := by simpa using hne
  have hs := I.slots s
  rw [hb] at hs
  obtain ⟨vs, e, k1, k2⟩ := hs
  obtain ⟨u, k3, hown⟩ := k2 i _ hl
  have hown : OwnAt m w o (s, i + 1) E k ls u := hown
  obtain ⟨o1, I2, ho1⟩ := I.dropPart hb hl
  have hbox2 : (upd S s (.tup (l.set i (.d (.seq k ls)))) d).isBox = false := by rw [upd_other (Ne.symm hne)]; exact h2
  suffices h : ∃ m' o', Inv w0 m0 o0 G pins (app S [(s, .tup (l.set i (.d (.seq k ls)))), (d, .t (.own E k ls))]) (a.put (some d) u) w m' o' by
    obtain ⟨m', o', h⟩ := h
    refine ⟨u, w, m', o', ?_, by rw [hd]; exact h⟩
    unfold execOp
    rw [hop]
    simp only [Sem.run_bind]
    rw [show a.eval (.tmp s) = _ from e]
    simp [Instr.extract, k3]
  obtain ⟨A', cap, xs, e, h1', h2', h3', h4'⟩ := hown
  rw [e]
  show ∃ m' o', Inv w0 m0 o0 G pins (upd (upd S s (.tup (l.set i (.d (.seq k ls))))) d (.t (.own E k ls))) _ w m' o'
  rcases blk_addr (w := w) (e := E) (sz := k) (n := ls.length) (c := cap) (xs := xs) (by rw [e] at h1'; exact h1') with rfl | ⟨g, rfl⟩
  · refine ⟨m, o1, I2.set d _ _ (by omega) hbox2 ⟨none, cap, xs, rfl, by rw [e] at h1'; exact h1', fun g hg => (by cases hg), h3', h4'⟩⟩
  · obtain ⟨hg, hm⟩ := h2' g rfl
    have hlt := I.lt g _ hg
    refine ⟨_, _, I2.own_put d _ _ (fun p => m g p) g w (by omega) hbox2 h3 (fun x hx => ?_) (I.own g _ hg) (Same.refl _ _) hlt (fun p u h => h) (fun p u h => I.sat g p u h) ?_⟩
    · obtain ⟨q1, q2⟩ := ho1 g x hx
      rw [hg] at q2
      injection q2 with q2
      exact absurd q2.symm q1
    · have hme : newM m g (fun p => m g p) = m := by
        funext b p
        unfold newM
        split
        · rename_i e; rw [e]
        · rfl
      rw [hme]
      exact ⟨some ⟨g, 0, none⟩, cap, xs, rfl, by rw [e] at h1'; exact h1', fun g' hg' => by injection hg' with hg'; subst hg'; exact ⟨newO_same _ _ _, hm⟩, h3', h4'⟩
/-- Is there room for n elements of so many bytes? -/
def mkI (nb : Nat) (n : Int) : Option Nat := if 0 ≤ n ∧ (nb : Int) * n ≤ 281474976710656 ∧ n ≤ 140737488351232 then some n.toNat else none
theorem mkI_iff {nb q : Nat} {n : Int} (h : mkI nb n = some q) : 0 ≤ n ∧ (nb : Int) * n ≤ 281474976710656 ∧ n ≤ 140737488351232 ∧ q = n.toNat := by
  unfold mkI at h
  split at h
  · rename_i hc; injection h with h; exact ⟨hc.1, hc.2.1, hc.2.2, h.symm⟩
  · cases h
/-- A made slice, of elements of one cell, that may grow. -/
theorem ok_mko (hM : Mk M S) {op : Oper} {d t e sz nb q : Nat} {xn xc : Operand} {kl kc : IntKind} {n : Int} {ie : TypeInfo} {z : Value} (hop : op.op = .makeSlice t xn xc) (hn : vO M xn = some (.int kl n)) (hc : vO M xc = some (.int kc n)) (hE : elF P t = some (e, 1, nb)) (hie : P.info? e = some ie) (hz : ie.zero = some z) (hz1 : z.cells = #[z]) (hz2 : z.oneCell' = true)
    (hq : mkI nb n = some q) (hd : op.dst = some d) (hok : okD N pins S d = true) :
    OpOK P pins N op S (upd S d (.t (.own e 1 (List.replicate q [.lit z])))) := by
  obtain ⟨q1, q2, q3, rfl⟩ := mkI_iff hq
  refine ok_of_run fun w0 m0 o0 G a w m o hN I => ?_
  obtain ⟨h1, h2, h3⟩ := okD_iff hok
  have E := elF_of hE
  obtain ⟨i, z', hi, hz', hs1, hnb, hzs⟩ := E.info
  rw [hie] at hi
  injection hi with hi
  subst hi
  rw [hz] at hz'
  injection hz' with hz'
  subst hz'
  subst hnb
  have hrun := run_make (P := P) (w := w) t e ie z E.under hie hz kl kc n n q1 (Int.le_refl _) q2 (by omega)
  rw [hs1, Nat.mul_one, hz1] at hrun
  have hmc : madeCells #[z] n.toNat = (List.replicate n.toNat z).toArray := by
    apply Array.ext_getElem?
    intro i
    unfold madeCells
    rw [Array.getElem?_map, Array.getElem?_range]
    by_cases h : i < n.toNat
    · rw [if_pos h]; simp [h, Nat.mod_one]
    · rw [if_neg h]; simp [h]
  rw [hmc] at hrun
  have hown : Own (w.alloc (.cells (List.replicate n.toNat z).toArray e)) 0 e 1 (some ⟨w.heap.size, 0, none⟩) n.toNat n.toNat (List.replicate n.toNat z) := by
    have := Own.lit (B := 0) w (List.replicate n.toNat z).toArray e 1 n.toNat (Nat.zero_le _) (by unfold maxLen; omega) (by simp)
    simpa using this
  have hw : ∀ (i : Nat) (r : List D), (List.replicate n.toNat [D.lit z])[i]? = some r → r.length = 1 := by
    intro i r hi
    rw [List.getElem?_replicate] at hi
    split at hi
    · injection hi with hi; subst hi; rfl
    · cases hi
  have hr : ∀ (m' : Mem) (i : Nat) (r : List D) (j : Nat) (x : D), (List.replicate n.toNat [D.lit z])[i]? = some r → r[j]? = some x → ∃ u, (List.replicate n.toNat z)[i * 1 + j]? = some u ∧ RepD m' x u := by
    intro m' i r j x hi hj
    rw [List.getElem?_replicate] at hi
    split at hi
    · rename_i hlt
      injection hi with hi
      subst hi
      cases j with
      | zero => injection hj with hj; subst hj; exact ⟨z, by rw [List.getElem?_replicate]; simp [hlt], .lit z hz2⟩
      | succ j => simp at hj
    · cases hi
  have J := I.own_put d (.t (.own e 1 (List.replicate n.toNat [.lit z]))) (.slice (some ⟨w.heap.size, 0, none⟩) n.toNat n.toNat) (fun p => (List.replicate n.toNat z)[p]?) w.heap.size (w.alloc (.cells (List.replicate n.toNat z).toArray e)) (by omega) h2 h3 (I.free (Nat.le_refl _)) (I.newG (Nat.le_refl _)) ((Same.alloc (fun _ => False) w _).weaken (fun _ h => h.elim)) (by simp) (fun p u h => by rw [I.mem_none (Nat.le_refl _)] at h; cases h) (fun p u hp => Own.cellAt hown rfl hp)
    ⟨some ⟨w.heap.size, 0, none⟩, n.toNat, List.replicate n.toNat z, by rw [List.length_replicate], by rw [List.length_replicate]; exact hown, (fun g hg => by injection hg with hg; subst hg; exact ⟨newO_same _ _ _, fun p => newM_same _ _ _ _⟩), hw, hr _⟩
  refine ⟨_, _, _, _, ?_, by rw [hd]; exact J⟩
  unfold execOp
  rw [hop]
  simp only [Sem.run_bind]
  rw [vO_eq hM I hn, vO_eq hM I hc, hrun]
  rfl
end
end Go.Proofs.YtimdogdplphmoaaDoor
