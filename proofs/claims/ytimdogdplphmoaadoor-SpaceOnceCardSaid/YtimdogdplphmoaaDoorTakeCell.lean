/-
  What may grow goes from a cell of a variable to a slot.
-/
import Derived.Test.YtimdogdplphmoaaDoorStepM
namespace Go.Proofs.YtimdogdplphmoaaDoor
open Go Go.RowKit
set_option linter.unusedVariables false
section
variable {w0 : World} {m0 : Mem} {o0 : OwnM} {G : Nat → Prop} {pins : List Nat} {S M : Nat → A} {a : Act} {w : World} {m : Mem} {o : OwnM} {P : Program} {N : Nat}
/-- The cell is told as data; what it held is owned by nobody. -/
theorem Inv.dropCell (I : Inv w0 m0 o0 G pins S a w m o) {b off E k : Nat} {l : List T} {ls : List (List D)} (hb : S b = .box l) (hl : l[off]? = some (.own E k ls)) :
    ∃ o', Inv w0 m0 o0 G pins (upd S b (.box (l.set off (.d (.seq k ls))))) a w m o' ∧ (∀ g x, o' g = some x → x ≠ (b, off + 1) ∧ o g = some x) := by
  have hk : ∀ g x, (fun g => if o g = some (b, off + 1) then none else o g) g = some x → x ≠ (b, off + 1) ∧ o g = some x := by
    intro g x h
    simp only at h
    split at h
    · cases h
    · rename_i hn
      exact ⟨fun e => hn (by rw [h, e]), h⟩
  have K : Keep (fun x => x = (b, off + 1)) m w o m w (fun g => if o g = some (b, off + 1) then none else o g) :=
    ⟨Mle.refl _, fun _ _ _ _ => rfl, fun _ _ _ _ => rfl, fun g x h hn => by
      show (if o g = some (b, off + 1) then none else o g) = _
      rw [h, if_neg (by simpa using hn)], fun g j h => by
      show (if o g = some (b, off + 1) then none else o g) = _
      rw [h, if_neg (by intro e; injection e with e; injection e with _ e; omega)], fun g s k _ h => ⟨g, k, (hk g _ h).2⟩, fun g _ _ => .of_eq rfl⟩
  refine ⟨_, ⟨I.same, I.sat, I.mono, I.old, fun g x h => I.own g x (hk g x h).2, fun g x h => I.lt g x (hk g x h).2, fun g g' x h h' => I.inj g g' x (hk g x h).2 (hk g' x h').2, fun p hp g hg => ?_, fun t => ?_, I.defers, I.tbl, I.wide, I.shps⟩, hk⟩
  · exact K.own g _ (I.pinned p hp g hg) (fun e => by injection e with _ e; omega)
  · have h := I.slots t
    by_cases e : t = b
    · subst e
      rw [hb] at h
      rw [upd_same]
      obtain ⟨g, hv, h1, h2, cs, E', h3, h4, h5⟩ := h
      refine ⟨g, hv, K.own g _ h1 (fun e => by injection e with _ e; omega), h2, cs, E', h3, by simpa using h4, fun j x hj => ?_⟩
      rw [List.getElem?_set] at hj
      split at hj
      · rename_i e
        subst e
        split at hj
        · injection hj with hj
          subst hj
          obtain ⟨_, u, h6, h7⟩ := h5 off _ hl
          exact ⟨rfl, u, h6, own_seq I.sat h7⟩
        · cases hj
      · rename_i e
        obtain ⟨h6, u, h7, h8⟩ := h5 j x hj
        exact ⟨h6, u, h7, h8.keep K (fun e2 => by injection e2 with _ e2; omega)⟩
    · rw [upd_other e]
      refine RepA.keep K (fun j e2 => by injection e2 with e2 _; exact e e2) (fun b' off' he _ => ⟨fun e2 => by injection e2 with _ e2; omega, fun ⟨l', hl'⟩ => ?_⟩) h
      by_cases e3 : b' = b
      · subst e3; exact ⟨_, upd_same ..⟩
      · exact ⟨l', by rw [upd_other e3, hl']⟩
theorem takeCell_inv (I : Inv w0 m0 o0 G pins S a w m o) {b off d E k : Nat} {l : List T} {ls : List (List D)} (hb : S b = .box l) (hl : l[off]? = some (.own E k ls)) (hne : b ≠ d) (hd : d < a.tmps.size) (hbox : (S d).isBox = false) (hpin : d ∉ pins) :
    ∃ g u m' o', o g = some (b, 0) ∧ w.cell? ⟨g, off, none⟩ = some u ∧ Inv w0 m0 o0 G pins (upd (upd S b (.box (l.set off (.d (.seq k ls))))) d (.t (.own E k ls))) (a.put (some d) u) w m' o' := by
  have hs := I.slots b
  rw [hb] at hs
  obtain ⟨gb, hv, k1, k2, cs, E', k3, k4, k5⟩ := hs
  obtain ⟨_, u, k6, hown⟩ := k5 off _ hl
  have hown : OwnAt m w o (b, off + 1) E k ls u := hown
  obtain ⟨o1, I2, ho1⟩ := I.dropCell hb hl
  have hbox2 : (upd S b (.box (l.set off (.d (.seq k ls)))) d).isBox = false := by rw [upd_other (Ne.symm hne)]; exact hbox
  obtain ⟨A', cap, xs, e, h1, h2, h3, h4⟩ := hown
  suffices h : ∃ m' o', Inv w0 m0 o0 G pins (upd (upd S b (.box (l.set off (.d (.seq k ls))))) d (.t (.own E k ls))) (a.put (some d) u) w m' o' by
    obtain ⟨m', o', h⟩ := h
    exact ⟨gb, u, m', o', k1, by rw [cell_of_row w gb off cs E' _ k3]; exact k6, h⟩
  rw [e]
  rcases blk_addr (w := w) (e := E) (sz := k) (n := ls.length) (c := cap) (xs := xs) (by rw [e] at h1; exact h1) with rfl | ⟨g, rfl⟩
  · refine ⟨m, o1, I2.set d _ _ hd hbox2 ⟨none, cap, xs, rfl, by rw [e] at h1; exact h1, fun g hg => (by cases hg), h3, h4⟩⟩
  · obtain ⟨hg, hm⟩ := h2 g rfl
    have hlt := I.lt g _ hg
    refine ⟨_, _, I2.own_put d _ _ (fun p => m g p) g w hd hbox2 hpin (fun x hx => ?_) (I.own g _ hg) (Same.refl _ _) hlt (fun p u h => h) (fun p u h => I.sat g p u h) ?_⟩
    · obtain ⟨q1, q2⟩ := ho1 g x hx
      rw [hg] at q2
      injection q2 with q2
      exact absurd q2.symm q1
    · have hme : newM m g (fun p => m g p) = m := by
        funext b p
        unfold newM
        split
        · rename_i e; rw [e]
        · rfl
      rw [hme]
      exact ⟨some ⟨g, 0, none⟩, cap, xs, rfl, by rw [e] at h1; exact h1, fun g' hg' => by injection hg' with hg'; subst hg'; exact ⟨newO_same _ _ _, hm⟩, h3, h4⟩
theorem ok_takeCell (hM : Mk M S) {op : Oper} {t b off d E k n : Nat} {x : Operand} {l : List T} {ls : List (List D)} (hop : op.op = .load t x) (ht : tyA P t = some (false, n)) (hx : cpO M x = .ref b off) (hb : S b = .box l) (hl : l[off]? = some (.own E k ls)) (hne : b ≠ d) (hd : op.dst = some d) (hok : okD N pins S d = true) :
    OpOK P pins N op S (upd (upd S b (.box (l.set off (.d (.seq k ls))))) d (.t (.own E k ls))) := by
  refine ok_of_run fun w0 m0 o0 G a w m o hN I => ?_
  obtain ⟨h1, h2, h3⟩ := okD_iff hok
  obtain ⟨g, u, m', o', k1, k2, J⟩ := takeCell_inv I hb hl hne (by omega) h2 h3
  have he := cpO_rep hM I x 0
  rw [hx] at he
  obtain ⟨g', k3, k4, _⟩ := he
  have := I.inj _ _ _ k1 k3
  subst this
  refine ⟨u, w, m', o', ?_, by rw [hd]; exact J⟩
  have hrun : (Instr.loadAt t (a.eval x)).run P w = .ok u w := by
    rw [k4]
    simp only [Instr.loadAt, Instr.sureAddr, Sem.run_bind, Sem.run_pure, Result.andThen_ok]
    exact run_loadVar_one ht k2
  unfold execOp
  rw [hop]
  simp only [Sem.run_bind, hrun, Result.andThen_ok]
  rfl
end
end Go.Proofs.YtimdogdplphmoaaDoor
