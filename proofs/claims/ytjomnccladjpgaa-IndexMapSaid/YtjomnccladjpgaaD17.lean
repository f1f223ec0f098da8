/-
  Texts joined: see the remark at the head of each part.
-/
import Derived.Test.YtjomnccladjpgaaD16
import Derived.Test.YtjomnccladjpgaaD08
import Derived.Test.YtjomnccladjpgaaD09
import Derived.RangeFuncSeq
import Derived.RangeFuncIn
import Derived.RangeFuncRecord
set_option linter.unusedVariables false
set_option linter.unusedSimpArgs false
/-
 Slices that may grow and of whose cells nobody else tells: taken out of a heap object's cell, appended to, put back; made an object that is written by index.
-/
namespace Go.Proofs.Ytjomnccladjpgaa
open Go Go.RowKit
set_option linter.unusedVariables false
section
variable {w0 : World} {m0 : Mem} {o0 : OwnM} {G : GD} {pins : List Nat} {S M : Nat → A} {a : Act} {w : World} {m : Mem} {o : OwnM} {P : Program} {N : Nat}
theorem Inv.dropCellX (I : Inv w0 m0 o0 G pins S a w m o) {b off E k : Nat} {l : List T} {ls : List (List D)} {rv : Option Value} (hb : S b = .box l) (hl : l[off]? = some (.xs E k ls rv)) :
  ∃ o', Inv w0 m0 o0 G pins (upd S b (.box (l.set off .any))) a w m o' ∧ (∀ g x, o' g = some x → x ≠ (b, off + 1) ∧ o g = some x) := by
 have hk : ∀ g x, (fun g => if o g = some (b, off + 1) then none else o g) g = some x → x ≠ (b, off + 1) ∧ o g = some x := by
  intro g x h
  simp only at h
  split at h
  · cases h
  ·
   rename_i hn
   exact ⟨fun e => hn (by rw [h, e]), h⟩
 have K : Keep (fun x => x = (b, off + 1)) m w o m w (fun g => if o g = some (b, off + 1) then none else o g) :=
  ⟨Mle.refl _, fun _ _ _ _ => rfl, fun _ _ _ _ => rfl, fun g x h hn => by
   show (if o g = some (b, off + 1) then none else o g) = _
   rw [h, if_neg (by simpa using hn)], fun g j h => by
   show (if o g = some (b, off + 1) then none else o g) = _
   rw [h, if_neg (by intro e; injection e with e; injection e with _ e; omega)], fun g s k _ h => ⟨g, k, (hk g _ h).2⟩, fun g _ _ => .of_eq rfl⟩
 refine ⟨_, ⟨I.same, I.sat, I.mono, I.old, fun g x h => I.own g x (hk g x h).2, fun g x h => I.lt g x (hk g x h).2, fun g g' x h h' => I.inj g g' x (hk g x h).2 (hk g' x h').2, fun p hp g hg => ?_, fun t => ?_, I.defers, I.tbl, I.wide, I.shps⟩, hk⟩
 · exact K.own g _ (I.pinned p hp g hg) (fun e => by injection e with _ e; omega)
 ·
  have h := I.slots t
  by_cases e : t = b
  ·
   subst e
   rw [hb] at h
   rw [zZ]
   obtain ⟨g, hv, h1, h2, cs, E', h3, h4, h5⟩ := h
   refine ⟨g, hv, K.own g _ h1 (fun e => by injection e with _ e; omega), h2, cs, E', h3, by simpa using h4, fun j x hj => ?_⟩
   rw [List.getElem?_set] at hj
   split at hj
   ·
    rename_i e
    subst e
    split at hj
    ·
     injection hj with hj
     subst hj
     obtain ⟨_, u, h6, h7⟩ := h5 off _ hl
     exact ⟨rfl, u, h6, RepT.one h7 rfl⟩
    · cases hj
   ·
    rename_i e
    obtain ⟨h6, u, h7, h8⟩ := h5 j x hj
    exact ⟨h6, u, h7, h8.keep K (fun e2 => by injection e2 with _ e2; omega)⟩
  ·
   rw [zH e]
   refine RepA.keep K (fun j e2 => by injection e2 with e2 _; exact e e2) (fun b' off' he _ => ⟨fun e2 => by injection e2 with _ e2; omega, fun ⟨l', hl'⟩ => ?_⟩) h
   by_cases e3 : b' = b
   · subst e3; exact ⟨_, zZ ..⟩
   · exact ⟨l', by rw [zH e3, hl']⟩
theorem zHc (I : Inv w0 m0 o0 G pins S a w m o) {b off d E k : Nat} {l : List T} {ls : List (List D)} {rv : Option Value} (hb : S b = .box l) (hl : l[off]? = some (.xs E k ls rv)) (hne : b ≠ d) (hd : d < a.tmps.size) (hbox : (S d).isBox = false) (hpin : d ∉ pins) :
  ∃ g u m' o', o g = some (b, 0) ∧ w.cell? ⟨g, off, none⟩ = some u ∧ Inv w0 m0 o0 G pins (upd (upd S b (.box (l.set off .any))) d (.t (.xs E k ls rv))) (a.put (some d) u) w m' o' := by
 have hs := I.slots b
 rw [hb] at hs
 obtain ⟨gb, hv, k1, k2, cs, E', k3, k4, k5⟩ := hs
 obtain ⟨_, u, k6, hown⟩ := k5 off _ hl
 have hown : XsAt m w o (b, off + 1) E k ls rv u := hown
 obtain ⟨o1, I2, ho1⟩ := I.dropCellX hb hl
 have hbox2 : (upd S b (.box (l.set off .any)) d).isBox = false := by rw [zH (Ne.symm hne)]; exact hbox
 obtain ⟨A', cap, xs, e, h1, h2, h3, h4⟩ := hown
 suffices h : ∃ m' o', Inv w0 m0 o0 G pins (upd (upd S b (.box (l.set off .any))) d (.t (.xs E k ls rv))) (a.put (some d) u) w m' o' by
  obtain ⟨m', o', h⟩ := h
  exact ⟨gb, u, m', o', k1, by rw [cell_of_row w gb off cs E' _ k3]; exact k6, h⟩
 rw [e]
 rcases zGg (w := w) (e := E) (sz := k) (n := ls.length) (c := cap) (xs := xs) (by rw [e] at h1; exact h1) with rfl | ⟨g, q, rfl⟩
 · refine ⟨m, o1, I2.set d _ _ hd hbox2 ⟨none, cap, xs, rfl, by rw [e] at h1; exact h1, fun g hg => (by cases hg), ⟨h3.1, h3.2.1, fun u' hu' => e.symm.trans (h3.2.2 u' hu')⟩, h4⟩⟩
 ·
  obtain ⟨hg, hm⟩ := h2 g rfl
  have hlt := I.lt g _ hg
  refine ⟨_, _, I2.own_put d _ _ (fun p => m g p) g w hd hbox2 hpin (fun x hx => ?_) (I.own g _ hg) (Same.refl _ _) hlt (fun p u h => h) (fun p u h => I.sat g p u h) ?_⟩
  ·
   obtain ⟨q1, q2⟩ := ho1 g x hx
   rw [hg] at q2
   injection q2 with q2
   exact absurd q2.symm q1
  ·
   have hme : newM m g (fun p => m g p) = m := by
    funext b p
    unfold newM
    split
    · rename_i e; rw [e]
    · rfl
   rw [hme]
   exact ⟨some ⟨g, q, none⟩, cap, xs, rfl, by rw [e] at h1; exact h1, fun g' hg' => by injection hg' with hg'; subst hg'; exact ⟨zAD _ _ _, hm⟩, ⟨h3.1, h3.2.1, fun u' hu' => e.symm.trans (h3.2.2 u' hu')⟩, h4⟩
theorem app_okX (I : Inv w0 m0 o0 G pins S a w m o) {t e sz nb : Nat} (E : zEY P t e sz nb) (ty : TypeId) {d : Nat} (hd : d < a.tmps.size) (hbox : (S d).isBox = false) (hpin : d ∉ pins)
  {A' : Option Addr} {c : Nat} {l : List (List D)} {xs : List Value} (hown : zDb w e sz (.slice A' l.length c) l.length xs) (hrows : zFX m sz l xs) (hblk : ∀ g, blk A' = some g → (∀ l, o g = some l → l.1 = d) ∧ (G g ∨ w0.heap.size ≤ g) ∧ ∀ p, m g p = none)
  {l' : List (List D)} {v' : Value} (hv' : RepD m (.seq sz l') v') (hne : l' ≠ []) (hb : (l.length + l'.length) * nb ≤ 140737488355328) :
  ∃ v w' m' o', (Builtin.append_ #[t, t] ty #[.slice A' l.length c, v']).run P w = .ok v w' ∧ Inv w0 m0 o0 G pins (upd S d (.t (.xs e sz (l ++ l') none))) (a.put (some d) v) w' m' o' := by
 obtain ⟨B', c', news, rfl, _, _, hr', h1, hm'⟩ := hv'.rows
 have hnews : Row w B' news := by
  intro j u hu
  obtain ⟨g, p, e, hmm⟩ := hm' j u hu
  exact ⟨_, e, by rw [Addr.add_mid]; exact I.sat _ _ _ hmm⟩
 have hpos : 0 < l'.length := List.length_pos_iff.2 hne
 have hnil : news ≠ [] := fun e => by
  have h2 := Nat.mul_pos hpos E.pos
  have h3 := hr'.1
  rw [e, List.length_nil] at h3
  omega
 obtain ⟨A2, c2, w', hrun, hown2, hcase⟩ := zJg (P := P) w E (.inl rfl) ty A' l.length c xs hown B' l'.length c' news hr'.1 hnews h1 hb hnil
 refine ⟨.slice A2 (l.length + l'.length) c2, w', ?_⟩
 have hwid : ∀ (i : Nat) (r : List D), (l ++ l')[i]? = some r → r.length = sz := (hrows.append hr').2.1
 have fin : ∀ (g : Nat), blk A2 = some g → (∀ l, o g = some l → l.1 = d) → (G g ∨ w0.heap.size ≤ g) → Same (fun b => b = g ∧ b < w.heap.size) w w' → (∀ p, m g p = none) → ∃ m' o', (Builtin.append_ #[t, t] ty #[.slice A' l.length c, .slice B' l'.length c']).run P w = .ok (.slice A2 (l.length + l'.length) c2) w' ∧ Inv w0 m0 o0 G pins (upd S d (.t (.xs e sz (l ++ l') none))) (a.put (some d) (.slice A2 (l.length + l'.length) c2)) w' m' o' := by
  intro g hg h2 h3 h4 h5
  have hlt : g < w'.heap.size := zDb.lt hown2 hg
  have hmle : Mle m (newM m g fun _ => none) := by
   intro b p u hu
   unfold newM
   split
   · rename_i e; subst e; rw [h5] at hu; cases hu
   · exact hu
  refine ⟨_, _, hrun, I.own_put d _ _ (fun _ => none) g w' hd hbox hpin h2 h3 h4 hlt (fun p u h => by rw [h5] at h; cases h) (fun p u hp => by cases hp) ?_⟩
  refine ⟨A2, c2, xs ++ news, by rw [List.length_append], by rw [List.length_append]; exact hown2, fun g' hg' => ?_, ⟨hwid, fun h => absurd (List.append_eq_nil_iff.1 h).2 hne, fun u h => by cases h⟩, ((hrows.append hr').mono hmle).2.2⟩
  rw [hg] at hg'
  injection hg' with hg'
  subst hg'
  exact ⟨zAD _ _ _, fun p => zCt _ _ _ _⟩
 rcases hcase with ⟨rfl, rfl, hroom, hcl, hgr, hshp⟩ | ⟨hb2, hgr⟩
 ·
  rcases hown.addr with ⟨rfl, h0⟩ | ⟨g, q, cur, rfl, _⟩
  · omega
  ·
   obtain ⟨h2, h3, h5⟩ := hblk g rfl
   refine fin g rfl h2 h3 ⟨hgr.os, hgr.tape, hgr.output, hgr.size, fun k hk hn => hgr.block k hk fun e => hn ?_, fun k => (hshp k).w⟩ h5
   injection e with e
   exact ⟨e, hk⟩
 ·
  subst hb2
  exact fin _ rfl (I.free (Nat.le_refl _)) (I.newG (Nat.le_refl _)) ⟨hgr.os, hgr.tape, hgr.output, hgr.size, fun k hk hn => hgr.block k hk (by simp), fun k => (zBA.of_lt fun hk => hgr.block k hk (by simp)).w⟩ (fun p => I.mem_none (Nat.le_refl _))
end
section
variable {pins : List Nat} {S M : Nat → A} {P : Program} {N : Nat} {op : Oper} {d c : Nat} {f f' : Nat → A}
theorem zH7 (hM : Mk M S) {op : Oper} {t b off s E' k : Nat} {ls : List (List D)} {rv : Option Value} {x : Operand} (hop : op.op = .store t x (.tmp s)) (hd : op.dst = none) {i : TypeInfo} (hi : P.info? t = some i) (hsz : i.size = 1) (hx : ∀ {w0 m0 o0 G a w m o}, Inv w0 m0 o0 G pins S a w m o → ∃ g, o g = some (b, 0) ∧ a.eval x = .pointer (some ⟨g, off, none⟩)) {l : List T} (hSb : S b = .box l) (hs : M s = .t (.xs E' k ls rv)) (hoff : off < l.length) (hne : s ≠ b) (hsp : s ∉ pins) :
  OpOK P pins N op S (upd (upd S s (.t .any)) b (.box (l.set off (.xs E' k ls rv)))) := by
 refine zDv hd fun w0 m0 o0 G a w m o hN I => ?_
 obtain ⟨g, h1, e⟩ := hx I
 have hss : S s = .t (.xs E' k ls rv) := by
  rcases hM s with q | q
  · rw [q] at hs; cases hs
  · rw [← q]; exact hs
 have hsl := I.slots b
 rw [hSb] at hsl
 obtain ⟨g', hv', h2, h3, cs, E, h4, h5, h6⟩ := hsl
 have := I.inj _ _ _ h1 h2
 subst this
 have hown : XsAt m w o (s, 0) E' k ls rv (a.tmps.getD s undef) := by
  have := I.slots s
  rw [hss] at this
  exact this
 have I1 := I.degrade s (by rw [hss]; rfl)
 rw [hss] at I1
 obtain ⟨A', cap, xs, e1, q1, q2, q3, q4⟩ := hown
 have hev : a.eval (.tmp s) = .slice A' ls.length cap := e1
 have hrun := zDF (P := P) (w := w) (off := off) hi h4 (v := a.eval (.tmp s)) (by rw [hev, hsz]; rfl) (by rw [hev]; intro u hu; simp [Value.cells] at hu; subst hu; rfl) (by omega)
 have hcells : (a.eval (.tmp s)).cells.toList = [.slice A' ls.length cap] := by rw [hev]; rfl
 rw [hcells] at hrun
 let o' : OwnM := fun x => if o x = some (s, 0) then some (b, off + 1) else if o x = some (b, off + 1) ∨ (o x).map (·.1) = some s then none else o x
 have ho1 : ∀ x loc, o x = some loc → loc.1 ≠ s → loc ≠ (b, off + 1) → o' x = some loc := by
  intro x loc h ha hb
  show (if _ then _ else _) = _
  rw [if_neg (by rw [h]; intro e; injection e with e; exact ha (by rw [e])), if_neg, h]
  rintro (e | e)
  · rw [h] at e; injection e with e; exact hb e
  · rw [h] at e; injection e with e; exact ha e
 have ho2 : ∀ x loc, o' x = some loc → (o x = some (s, 0) ∧ loc = (b, off + 1)) ∨ (o x = some loc ∧ loc ≠ (b, off + 1)) := by
  intro x loc h
  change (if _ then _ else _) = _ at h
  split at h
  ·
   rename_i h'
   injection h with h
   exact .inl ⟨h', h.symm⟩
  ·
   split at h
   · cases h
   ·
    rename_i hn
    exact .inr ⟨h, fun e => hn (.inl (by rw [h, e]))⟩
 have hsp1 : (qT cs.toList off [Value.slice A' ls.length cap]).length = cs.toList.length := zAV cs.toList off _ (by simp; omega)
 have hsO : s < OB := by
  rcases Nat.lt_or_ge s a.tmps.size with h | h
  · exact Nat.lt_of_lt_of_le h I.wide
  ·
   rw [Array.getD_eq_getD_getElem?, Array.getElem?_eq_none h] at e1
   cases e1
 refine ⟨_, m, o', ?_, I1.box_putX (b := b) (l := l) (l' := l.set off (.xs E' k ls rv)) (by rw [zH (Ne.symm hne)]; exact hSb) h1 h4 (cs' := (qT cs.toList off [Value.slice A' ls.length cap]).toArray) (by simpa using hsp1) o' (fun x => x = s) (fun x hx => ?_) (fun x loc h ha hb => ho1 x loc h ha (fun e => hb (by rw [e]))) ?_ (fun x loc h => ?_) (fun x y loc h h' => ?_) (fun x loc loc' h h' k => ?_) (by simp) (fun j z hj => ?_)⟩
 ·
  unfold execOp
  rw [hop]
  simp only [Sem.run_bind]
  rw [e, hrun]
  rfl
 ·
  subst hx
  exact ⟨hsO, hsp, .any, by rw [zZ]; rfl, .inr rfl⟩
 · exact ho1 g _ h1 (fun e => hne e.symm) (by intro e; injection e with _ e; omega)
 · rcases ho2 x loc h with ⟨h, _⟩ | ⟨h, _⟩ <;> exact ⟨_, h⟩
 ·
  rcases ho2 x loc h with ⟨k1, k2⟩ | ⟨k1, k2⟩ <;> rcases ho2 y loc h' with ⟨k3, k4⟩ | ⟨k3, k4⟩
  · exact I.inj _ _ _ k1 k3
  · exact absurd k2 k4
  · exact absurd k4 k2
  · exact I.inj _ _ _ k1 k3
 ·
  rcases ho2 x loc h with ⟨k1, k2⟩ | ⟨k1, k2⟩
  · rw [k2]; exact .inr rfl
  · rw [k1] at h'; injection h' with h'; rw [h']; exact k
 ·
  have hcs2 : (qT cs.toList off [Value.slice A' ls.length cap]).toArray[j]? = (qT cs.toList off [Value.slice A' ls.length cap])[j]? := by simp
  rw [hcs2, zBi cs.toList off _ (by simp; omega)]
  simp only [List.length_cons, List.length_nil, Nat.zero_add]
  rw [List.getElem?_set] at hj
  by_cases hjo : off = j
  ·
   subst hjo
   rw [if_pos rfl, if_pos hoff] at hj
   injection hj with hj
   subst hj
   rw [if_pos ⟨Nat.le_refl _, by omega⟩]
   refine ⟨rfl, .slice A' ls.length cap, by simp, A', cap, xs, rfl, zA3 (by rw [← e1]; exact q1) fun g2 hg2 => ?_, fun g2 hg2 => ?_, ⟨q3.1, q3.2.1, fun u' hu' => e1.symm.trans (q3.2.2 u' hu')⟩, q4⟩
   ·
    rw [qR] at hg2
    refine setRow_other w g g2 _ fun e2 => ?_
    subst e2
    have := (q2 _ hg2).1
    rw [h1] at this
    injection this with this
    injection this with this _
    exact hne this.symm
   ·
    obtain ⟨z1, z2⟩ := q2 g2 hg2
    refine ⟨?_, z2⟩
    show (if _ then _ else _) = _
    rw [if_pos z1]
  ·
   rw [if_neg hjo] at hj
   rw [if_neg (by omega)]
   obtain ⟨k0, u, k1, k2⟩ := h6 j z hj
   refine ⟨k0, u, by simpa using k1, ?_⟩
   cases z with
   | d x => exact k2
   | agg l => cases k0
   | ptr j2 off2 =>
    obtain ⟨g2, z1, z2⟩ := k2
    exact ⟨g2, ho1 g2 _ z1 (zE1 hsO) (fun e => by injection e with _ e; omega), z2⟩
   | view j2 off2 E2 k2 n2 =>
    exact zCG (m' := m) (fun g2 j2 y1 => ho1 g2 _ y1 (zE1 hsO) (fun e => by injection e with _ e; omega)) (fun g2 _ _ => zAb h4 (by simp [qT]; omega) g2) k2
   | hpt c off2 =>
    obtain ⟨g2, z1, z2⟩ := k2
    exact ⟨g2, ho1 g2 _ z1 (zE1 hsO) (fun e => by injection e with _ e; omega), z2⟩
   | xs E2 k ls =>
    obtain ⟨A', cap, xs, e1, q1, q2, q3, q4⟩ := k2
    refine ⟨A', cap, xs, e1, zA3 q1 fun g2 hg2 => ?_, fun g2 hg2 => ?_, q3, q4⟩
    ·
     rw [e1, qR] at hg2
     refine setRow_other w g g2 _ fun e2 => ?_
     subst e2
     have := (q2 _ hg2).1
     rw [h1] at this
     injection this with this
     injection this with _ this
     cases this
    ·
     obtain ⟨z1, z2⟩ := q2 g2 hg2
     refine ⟨ho1 g2 _ z1 (fun e => hne e.symm) (fun e => ?_), z2⟩
     injection e with _ e
     omega
   | any => exact k2
   | mpt c =>
    obtain ⟨g2, z1, z2⟩ := k2
    exact ⟨g2, ho1 g2 _ z1 (zE1 hsO) (fun e => by injection e with _ e; omega), z2⟩
   | hvw c off2 E2 k9 n2 =>
    exact zDe (m' := m) (fun g2 j2 y1 => ho1 g2 _ y1 (zE1 hsO) (fun e => by injection e with _ e; omega)) (fun g2 _ _ => zAb h4 (by simp [qT]; omega) g2) k2
   | own E2 k ls =>
    obtain ⟨A', cap, xs, e1, q1, q2, q3, q4⟩ := k2
    refine ⟨A', cap, xs, e1, zA3 q1 fun g2 hg2 => ?_, fun g2 hg2 => ?_, q3, q4⟩
    ·
     rw [e1, qR] at hg2
     refine setRow_other w g g2 _ fun e2 => ?_
     subst e2
     have := (q2 _ hg2).1
     rw [h1] at this
     injection this with this
     injection this with _ this
     cases this
    ·
     obtain ⟨z1, z2⟩ := q2 g2 hg2
     refine ⟨ho1 g2 _ z1 (fun e => hne e.symm) (fun e => ?_), z2⟩
     injection e with _ e
     omega
theorem h_xtake (hM : Mk M S) (hk : S HK = .hp f) {off t n E k : Nat} {x : Operand} {l l' : List T} {ls : List (List D)} {rv : Option Value} (hop : op.op = .load t x) (ht : tyA P t = some (false, n)) (hx : cpO M x = .t (.hpt c off)) (hb : f c = .box l) (hl : l[off]? = some (.xs E k ls rv)) (hl' : l.set off .any = l') (hd : op.dst = some d) (hok : okD N pins S d = true) (hf' : f' = updF f c (.box l')) :
  OpH P pins N op S (app S [(HK, .hp f'), (d, .t (.xs E k ls rv))]) := by
 subst hl'
 refine h_mk hk hf' hok fun hN hlo => ?_
 refine zV fun w0 m0 o0 G a w m o hNa I => ?_
 obtain ⟨h1, h2, h3⟩ := qA (qX hN hok)
 have hxr := qG hM.hx I x 0
 rw [hx] at hxr
 obtain ⟨g, q1, q2⟩ := hxr
 have hdO := qN hN hok
 obtain ⟨g', u, m', o', p1, p2, J⟩ := zHc (b := OB + (OB + c)) (d := d) I (zCy hlo hk hb) hl (by omega) (by omega) h2 h3
 have := I.inj _ _ _ q1 p1
 subst this
 refine ⟨u, w, m', o', ?_, by rw [hd]; exact J⟩
 unfold execOp
 rw [hop]
 simp only [Sem.run_bind]
 rw [q2]
 have e1 : (Instr.loadAt t (.pointer (some ⟨g, off, none⟩))).run P w = (loadVar t ⟨g, off, none⟩).run P w := rfl
 rw [e1, zAw ht p2]
 rfl
theorem h_xsto (hM : Mk M S) (hk : S HK = .hp f) {off t s E' k : Nat} {x : Operand} {l l' : List T} {ls : List (List D)} {rv : Option Value} {i : TypeInfo} (hop : op.op = .store t x (.tmp s)) (hd : op.dst = none) (hi : P.info? t = some i) (hsz : i.size = 1) (hx : cpO M x = .t (.hpt c off)) (hb : f c = .box l) (hs : M s = .t (.xs E' k ls rv)) (hoff : Nat.blt off l.length = true) (hl' : l.set off (.xs E' k ls rv) = l') (hok : okD N pins S s = true) (hf' : f' = updF f c (.box l')) :
  OpH P pins N op S (app S [(HK, .hp f'), (s, .t .any)]) := by
 subst hl'
 refine h_mk hk hf' hok fun hN hlo => ?_
 have hdO := qN hN hok
 obtain ⟨h1, h2, h3⟩ := qA (qX hN hok)
 have := zH7 (N := N) (b := OB + (OB + c)) (s := s) hM.hx hop hd hi hsz (fun {w0 m0 o0 G a w m o} I => by
  have h := qG hM.hx I x 0
  rw [hx] at h
  obtain ⟨g, q1, q2⟩ := h
  exact ⟨g, q1, q2⟩) (zCy hlo hk hb) hs (by simpa using hoff) (by omega) h3
 rw [zDi (by omega)] at this
 exact this
theorem ok_appX (hM : Mk M S) {t e sz nb s : Nat} {y : Operand} (hop : op.op = .call { callee := .builtin .append, args := #[.tmp s, y], argTypes := #[t, t] }) (hd : op.dst = some d) (hok : okD N pins S d = true) (hE : elF P t = some (e, sz, nb))
  {l l' l2 : List (List D)} {rv : Option Value} (hs : M s = .t (.xs e sz l rv)) (hne : (s == d) = false) (hsp : pins.contains s = false) (hl' : slD sz (dO M y) = some l') (hn : l'.isEmpty = false) (hb : (l.length + l'.length) * nb ≤ 140737488355328) (hl2 : l ++ l' = l2) :
  OpOK P pins N op S (upd (upd S s (.t .any)) d (.t (.xs e sz l2 none))) := by
 subst hl2
 have hne : s ≠ d := by simpa using hne
 have hsp : s ∉ pins := by simpa using hsp
 refine zV fun w0 m0 o0 G a w m o hN I => ?_
 obtain ⟨h1, h2, h3⟩ := qA hok
 have hS : S s = .t (.xs e sz l rv) := by
  rcases hM s with k | k
  · rw [k] at hs; cases hs
  · rw [← k]; exact hs
 have hown : XsAt m w o (s, 0) e sz l rv (a.tmps.getD s undef) := by
  have := I.slots s
  rw [hS] at this
  exact this
 have hv' : RepD m (.seq sz l') (a.eval y) := zFD hl' fun d hd => zD1 hM I hd
 have hsO : s < OB := by
  rcases Nat.lt_or_ge s a.tmps.size with h | h
  · exact Nat.lt_of_lt_of_le h I.wide
  ·
   obtain ⟨A', cap, xs, e, _⟩ := hown
   rw [Array.getD_eq_getD_getElem?, Array.getElem?_eq_none h] at e
   cases e
 have I1 := I.degrade s (by rw [hS]; rfl)
 rw [hS] at I1
 obtain ⟨o1, I2, ho1⟩ := I1.dropX s hsp hsO (x := .any) (by rw [zZ]; rfl) (.inr rfl)
 obtain ⟨A', cap, xs, e1, k1, k2, ⟨k3, _⟩, k4⟩ := hown
 have hrows : zFX m sz l xs := ⟨k1.1, k3, k4⟩
 rw [e1] at k1
 obtain ⟨v, w', m', o', hr, J⟩ := app_okX (d := d) I2 (zGr hE) op.type (by omega) (by rw [zH (Ne.symm hne)]; exact h2) h3 k1 hrows (fun g hg => by
  obtain ⟨q1, q2⟩ := k2 g hg
  refine ⟨fun l hl => ?_, I.own g _ q1, q2⟩
  obtain ⟨z1, z2⟩ := ho1 g l hl
  rw [q1] at z2
  injection z2 with z2
  exact absurd (by rw [← z2]) z1) hv' (fun e => by rw [e] at hn; cases hn) hb
 refine ⟨v, w', m', o', ?_, by rw [hd]; exact J⟩
 unfold execOp
 rw [hop]
 simp only [resolve, invoke, builtin, Sem.run_bind, Sem.run_pure, Result.andThen_ok, List.map_toArray, List.map_cons, List.map_nil]
 rw [show a.eval (.tmp s) = .slice A' l.length cap from e1, hr]
 rfl
theorem h_appX (hM : Mk M S) {t e sz nb s : Nat} {y : Operand} {l l' l2 : List (List D)} (hop : op.op = .call { callee := .builtin .append, args := #[.tmp s, y], argTypes := #[t, t] }) (hE : elF P t = some (e, sz, nb)) {rv : Option Value} (hs : M s = .t (.xs e sz l rv)) (hne : (s == d) = false) (hsp : pins.contains s = false) (hl' : slD sz (dO M y) = some l') (hn : l'.isEmpty = false) (hb : (l.length + l'.length) * nb ≤ 140737488355328) (hl2 : l ++ l' = l2) (hd : op.dst = some d) (hok : okD N pins S d = true) :
  OpH P pins N op S (app S [(s, .t .any), (d, .t (.xs e sz l2 none))]) :=
 .of (e := [(s, .t .any), (d, .t (.xs e sz l2 none))]) fun hN => ⟨ok_appX hM.hx hop hd (qX hN hok) hE hs hne hsp hl' hn hb hl2, fun y hy => eff_x hM hs rfl rfl (qN hN hok) hy⟩
end
end Go.Proofs.Ytjomnccladjpgaa

/-
 A growing slice in a heap object's cell that is sorted where it stands: its raw value is known for the while.
-/
namespace Go.Proofs.Ytjomnccladjpgaa
open Go Go.RowKit
set_option linter.unusedVariables false
section
variable {w0 : World} {m0 : Mem} {o0 : OwnM} {G : GD} {pins : List Nat} {S M : Nat → A} {a : Act} {w : World} {m : Mem} {o : OwnM} {P : Program}
theorem zJn {α : Type} {cc : α → List D} {y : List α} {k : Nat} (hk : 0 < k) (hcc : ∀ a, (cc a).length = k) {m : Mem} {cur : Array Value}
  (hel : ∀ (i : Nat) (r : List D) (j : Nat) (d : D), (y.map cc)[i]? = some r → r[j]? = some d → ∃ u, cur[i * k + j]? = some u ∧ RepD m d u) (i : Nat) (x : T) (hi : (fl (dT cc) y)[i]? = some x) : ∃ d, x = .d d ∧ ∃ u, cur[i]? = some u ∧ RepD m d u := by
 rw [zCm] at hi
 have hrl : ∀ r ∈ y.map cc, r.length = k := fun r hr => by
  obtain ⟨z, _, rfl⟩ := List.mem_map.1 hr
  exact hcc z
 have hlen : (((y.map cc).flatMap id).map T.d).length = y.length * k := by rw [List.length_map, zDR hrl, List.length_map]
 have hlt : i < y.length * k := by rw [← hlen]; exact (List.getElem?_eq_some_iff.1 hi).1
 have hi1 : i / k < (y.map cc).length := by rw [List.length_map]; exact Nat.div_lt_of_lt_mul (by rw [Nat.mul_comm]; exact hlt)
 have hi2 : i % k < k := Nat.mod_lt _ hk
 have he : i / k * k + i % k = i := by rw [Nat.mul_comm]; exact Nat.div_add_mod i k
 obtain ⟨r, hr⟩ : ∃ r, (y.map cc)[i / k]? = some r := ⟨_, List.getElem?_eq_getElem hi1⟩
 have hrm := List.mem_of_getElem? hr
 obtain ⟨dd, hdd⟩ : ∃ dd, r[i % k]? = some dd := ⟨_, List.getElem?_eq_getElem (by rw [hrl r hrm]; exact hi2)⟩
 have h2 := zCP hrl hr hi2
 rw [he, hdd] at h2
 rw [List.getElem?_map, h2] at hi
 injection hi with hi
 subst hi
 obtain ⟨u, q1, q2⟩ := hel _ r _ dd hr hdd
 rw [he] at q1
 exact ⟨dd, rfl, u, q1, q2⟩
theorem zJy {α : Type} {cc : α → List D} {y : List α} {k : Nat} (hcc : ∀ a, (cc a).length = k) {m : Mem} {w : World} {o : OwnM} {s : Nat} {cur : Array Value}
  (h : ∀ (i : Nat) (x : T), (fl (dT cc) y)[i]? = some x → x.isAgg = false ∧ ∃ u, cur[i]? = some u ∧ RepT m w o (s, i + 1) x u) (i : Nat) (r : List D) (j : Nat) (d : D) (hi : (y.map cc)[i]? = some r) (hj : r[j]? = some d) : ∃ u, cur[i * k + j]? = some u ∧ RepD m d u := by
 have hrl : ∀ r ∈ y.map cc, r.length = k := fun r hr => by
  obtain ⟨z, _, rfl⟩ := List.mem_map.1 hr
  exact hcc z
 have hjk : j < k := by rw [← hrl r (List.mem_of_getElem? hi)]; exact (List.getElem?_eq_some_iff.1 hj).1
 obtain ⟨_, u, q1, q2⟩ := h (i * k + j) (.d d) (by rw [zCm, List.getElem?_map, zCP hrl hi hjk, hj]; rfl)
 exact ⟨u, q1, q2⟩
theorem call_xsV (I : Inv w0 m0 o0 G pins S a w m o) {b off E k : Nat} {l : List T} {α : Type} {cc : α → List D} {y y' : List α} {v : Value} {f0 : Nat → A} (h0 : ∀ c, san (f0 c) = .free) (hb : S b = .box l) (hl : l[off]? = some (.xs E k (y.map cc) (some v))) {fn : FuncId} {args : List A} {r : A}
  (hf : FCH P fn (.t (.view 0 0 E k y.length) :: args) [.box (fl (dT cc) y)] [.box (fl (dT cc) y')] f0 f0 r) (hne : y ≠ []) (hlen : y'.length = y.length) (hk : 0 < k) (hEO : Nat.blt E OFB = true) (hcc : ∀ a, (cc a).length = k) (hr : r.isLits = true)
  {vals : Array Value} (hv : vals.size = args.length + 1) (hv0 : vals.getD 0 undef = v) (hvr : ∀ i x, args[i]? = some x → ∀ o' S' s', RepA m w o' S' s' x (vals.getD (i + 1) undef))
  {d : Nat} (hd : d < a.tmps.size) (hbox : (S d).isBox = false) :
  Calls P fn vals w fun e w' => ∃ u m2, e = .returned u ∧ Inv w0 m0 o0 G pins (upd (upd S b (.box (l.set off (.xs E k (y'.map cc) (some v))))) d r) (a.put (some d) u) w' m2 o := by
 have hs := I.slots b
 rw [hb] at hs
 obtain ⟨gb, hvb, k1, k2, cs, E', k3, k4, k5⟩ := hs
 obtain ⟨_, u0, k6, hown⟩ := k5 off _ hl
 obtain ⟨A', cap, xs, e, h1, h2, ⟨h3, h4, hval⟩, h5⟩ := hown
 have hu0 := hval v rfl
 subst hu0
 rw [List.length_map] at e h1
 have hlen0 : y.length ≠ 0 := fun h => hne (List.eq_nil_of_length_eq_zero h)
 rw [e] at h1
 obtain ⟨g, q, cap', cur, e1, ⟨E2, hg, hE2⟩, hcap, hmax, _, htk⟩ := h1.2.resolve_left fun h => hlen0 h.2
 obtain ⟨hEE, rfl, hsz⟩ := hE2.resolve_left fun h => by rw [h] at hEO; simp at hEO
 rw [hEE] at hg
 rw [List.drop_zero] at htk
 injection e1 with e1 _ e2
 subst e1 e2
 obtain ⟨hog, hmg⟩ := h2 g rfl
 let o1 : OwnM := fun x => if x = g then some (OB + 0, 0) else none
 have ho1 : ∀ x q, o1 x = some q → x = g ∧ q = (OB + 0, 0) := by
  intro x q h
  change (if x = g then some (OB + 0, 0) else none) = some q at h
  split at h
  · rename_i e; injection h with h; exact ⟨e, h.symm⟩
  · cases h
 have ho1g : o1 g = some (OB + 0, 0) := if_pos rfl
 have hglt := I.lt g _ hog
 have hxs : ∀ (i : Nat) (r : List D) (j : Nat) (d : D), (y.map cc)[i]? = some r → r[j]? = some d → ∃ u, cur[i * k + j]? = some u ∧ RepD m d u := by
  intro i r j d hi hj
  obtain ⟨u, q1, q2⟩ := h5 i r j d hi hj
  rw [← htk, List.getElem?_take] at q1
  split at q1
  · exact ⟨u, by simpa using q1, q2⟩
  · cases q1
 have hfl : ∀ z : List α, (fl (dT cc) z).length = z.length * k := fun z => by
  rw [zCm, List.length_map, zDR (fun r hr => by
   obtain ⟨z, _, rfl⟩ := List.mem_map.1 hr
   exact hcc z), List.length_map]
 refine Calls.mono (hf w m o1 vals I.sat (I.tbl.trans I.mono) (fun x q h => by rw [(ho1 x q h).1]; exact hglt) (fun x x' q h h' => (ho1 x q h).1.trans (ho1 x' q h').1.symm) (by simpa using hv) fun s => ?_) ?_
 ·
  unfold argH
  by_cases hs1 : s < OB
  ·
   rw [if_pos hs1]
   rcases s with _ | i
   ·
    rw [hv0]
    exact ⟨some ⟨g, 0, none⟩, cap, hcap, hmax, e, .inr ⟨g, cur, E, ho1g, rfl, hg, by rw [hsz]; omega, .inr rfl⟩⟩
   ·
    rw [List.getD_cons_succ, List.getD_eq_getElem?_getD]
    cases hx : args[i]? with
    | none => trivial
    | some x => exact hvr i x hx _ _ _
  ·
   rw [if_neg hs1]
   by_cases hs2 : OB2 ≤ s
   ·
    rw [if_pos hs2, h0]
    intro x q h
    have := (ho1 x _ h).2
    injection this with this _
    unfold OB OB2 at *
    omega
   ·
    rw [if_neg hs2]
    have hsi : s = OB + (s - OB) := by omega
    generalize s - OB = i at hsi ⊢
    rw [hsi]
    rcases i with _ | i
    ·
     refine ⟨g, fun h => absurd h (by omega), ho1g, hmg, cur, E, hg, by rw [hfl, hsz]; exact Nat.mul_le_mul_right _ hcap, fun j x hj => ?_⟩
     obtain ⟨dd, rfl, u, q1, q2⟩ := zJn hk hcc hxs j x hj
     exact ⟨rfl, u, q1, q2⟩
    ·
     intro x q h
     have := (ho1 x _ h).2
     injection this with this _
     omega
 ·
  rintro en w' ⟨u, m', o', S', a', ρ, rfl, J, hr', houts, hhp, hρ⟩
  have hS0 : S' (OB + 0) = .box (fl (dT cc) y') := houts 0 _ rfl
  have hJs := J.slots (OB + 0)
  rw [hS0] at hJs
  obtain ⟨g2, _, q1, q2, cs2, E3, q3, q4, q5⟩ := hJs
  have ho'g : o' g = some (OB + 0, 0) := J.pinned _ (.inr (by omega)) g ho1g
  have := J.inj _ _ _ q1 ho'g
  subst this
  obtain ⟨cs', p1, p2⟩ := (J.shps g2 0 ho1g).2 cur _ _ hg
  rw [p1] at q3
  injection q3 with q3
  injection q3 with q3 q6 _
  subst q3 q6
  have hno : ∀ x, x ≠ g2 → ¬ (o1 x ≠ none) := fun x hx h => h (if_neg hx)
  have hne2 : ∀ x lx, o x = some lx → lx ≠ (b, off + 1) → x ≠ g2 := fun x lx h hn e => by
   subst e; rw [hog] at h; injection h with h; exact hn h.symm
  have hsame : ∀ x, x < w.heap.size → x ≠ g2 → w'.heap[x]? = w.heap[x]? := fun x hx hn => J.same.block x hx (hno x hn)
  have K : Keep (fun x => x = (b, off + 1)) m w o m' w' o :=
   ⟨J.mono, fun x lx hx hn => J.old x (I.lt x lx hx) (hno x (hne2 x lx hx hn)), fun x lx hx hn => hsame x (I.lt x lx hx) (hne2 x lx hx hn), fun _ _ h _ => h, fun _ _ h => h, fun g s k _ h => ⟨g, k, h⟩, fun x j hx => .of_lt fun hlt => hsame x hlt (hne2 x _ hx (fun e => by injection e with _ e; omega))⟩
  have hwid : ∀ (i : Nat) (r : List D), (y'.map cc)[i]? = some r → r.length = k := fun i r hi => by
   obtain ⟨z, _, rfl⟩ := List.mem_map.1 (List.mem_of_getElem? hi)
   exact hcc z
  have J1 : Inv w0 m0 o0 G pins (upd S b (.box (l.set off (.xs E k (y'.map cc) (some u0))))) a w' m' o := by
   refine ⟨I.same.trans (J.same.weaken fun x hx => ?_), J.sat, I.mono.trans J.mono, fun x hx hG => ?_, I.own, fun x q h => Nat.lt_of_lt_of_le (I.lt x q h) J.same.size, I.inj, I.pinned, fun t => ?_, I.defers, I.tbl, I.wide, I.shps.keep I.pinned K.sh⟩
   ·
    have : x = g2 := Classical.byContradiction fun hn => hno x hn hx
    rw [this]
    exact I.own g2 _ hog
   ·
    have hxg : x ≠ g2 := fun e => by
     subst e
     rcases I.own x _ hog with h | h
     · exact hG h
     · omega
    rw [J.old x (Nat.lt_of_lt_of_le hx I.same.size) (hno x hxg)]
    exact I.old x hx hG
   ·
    by_cases et : t = b
    ·
     subst et
     rw [zZ]
     have hgb : gb ≠ g2 := hne2 gb _ k1 (fun e => by injection e with _ e; omega)
     refine ⟨gb, hvb, k1, fun p => by rw [K.mem gb _ k1 (fun e => by injection e with _ e; omega)]; exact k2 p, cs, E', by rw [K.heap gb _ k1 (fun e => by injection e with _ e; omega)]; exact k3, by simpa using k4, fun j x hj => ?_⟩
     rw [List.getElem?_set] at hj
     split at hj
     ·
      rename_i ej
      subst ej
      split at hj
      ·
       injection hj with hj
       subst hj
       refine ⟨rfl, u0, k6, some ⟨g2, 0, none⟩, cap, cs'.toList.take (y'.length * k), by rw [List.length_map, hlen]; exact e, ?_, fun g' hg' => ?_, ⟨hwid, fun h => absurd (List.map_eq_nil_iff.1 h) (fun h => hlen0 (by rw [← hlen, h]; rfl)), fun u hu => by injection hu⟩, fun i r j d hi hj => ?_⟩
       ·
        rw [List.length_map]
        refine ⟨?_, .inr ⟨g2, 0, cap, cs', by rw [e, hlen], ⟨E, p1, .inr ⟨rfl, rfl, by rw [p2]; exact hsz⟩⟩, by omega, hmax, .inl (by rw [p2, hsz]; omega), by rw [List.drop_zero]⟩⟩
        rw [List.length_take, Nat.min_eq_left]
        show y'.length * k ≤ cs'.size
        rw [hlen, p2, hsz]
        exact Nat.mul_le_mul_right k hcap
       ·
        injection hg' with hg'
        subst hg'
        exact ⟨hog, q2⟩
       ·
        obtain ⟨u, z1, z2⟩ := zJy hcc q5 i r j d hi hj
        refine ⟨u, ?_, z2⟩
        have hi1 := (List.getElem?_eq_some_iff.1 hi).1
        rw [List.length_map] at hi1
        have hj1 := (List.getElem?_eq_some_iff.1 hj).1
        rw [hwid i r hi] at hj1
        have : i * k + j < y'.length * k := Nat.lt_of_lt_of_le (Nat.add_lt_add_left hj1 _) (by rw [← Nat.succ_mul]; exact Nat.mul_le_mul_right _ hi1)
        rw [List.getElem?_take, if_pos this]
        simpa using z1
      · cases hj
     ·
      obtain ⟨z0, z1, z2, z3⟩ := k5 j x hj
      exact ⟨z0, z1, z2, z3.keep K (fun e2 => by injection e2 with _ e2; omega)⟩
    ·
     rw [zH et]
     refine RepA.keep K (fun j e2 => by injection e2 with e2 _; exact et e2) (fun b' off' he _ => ⟨fun e2 => by injection e2 with _ e2; omega, fun ⟨l', hl'⟩ => ?_⟩) (I.slots t)
     by_cases e3 : b' = b
     · subst e3; exact ⟨_, zZ ..⟩
     · exact ⟨l', by rw [zH e3, hl']⟩
  have hbd : d ≠ b := fun e => by subst e; rw [hb] at hbox; cases hbox
  exact ⟨u, m', rfl, J1.set d r u hd (by rw [zH hbd]; exact hbox) (zHZ hr hr' m')⟩
theorem call_xsV0 (I : Inv w0 m0 o0 G pins S a w m o) {b off E k : Nat} {l : List T} {v : Value} {f0 : Nat → A} (h0 : ∀ c, san (f0 c) = .free) (hb : S b = .box l) (hl : l[off]? = some (.xs E k [] (some v))) {fn : FuncId} {args : List A} {r : A}
  (hf : FCH P fn (.t (.d (.seq k [])) :: args) [] [] f0 f0 r) (hr : r.isLits = true)
  {vals : Array Value} (hv : vals.size = args.length + 1) (hv0 : vals.getD 0 undef = v) (hvr : ∀ i x, args[i]? = some x → ∀ o' S' s', RepA m w o' S' s' x (vals.getD (i + 1) undef))
  {d : Nat} (hd : d < a.tmps.size) (hbox : (S d).isBox = false) :
  Calls P fn vals w fun e w' => ∃ u m2, e = .returned u ∧ Inv w0 m0 o0 G pins (upd S d r) (a.put (some d) u) w' m2 o := by
 have hs := I.slots b
 rw [hb] at hs
 obtain ⟨gb, hvb, k1, k2, cs, E', k3, k4, k5⟩ := hs
 obtain ⟨_, u0, k6, hown⟩ := k5 off _ hl
 obtain ⟨A', cap, xs, e, h1, h2, ⟨h3, h4, hval⟩, h5⟩ := hown
 have hu0 := hval v rfl
 subst hu0
 have hc0 := h4 rfl
 subst hc0
 refine Calls.mono (hf w m (fun _ => none) vals I.sat (I.tbl.trans I.mono) (fun x q h => by cases h) (fun x x' q h h' => by cases h) (by simpa using hv) fun s => ?_) ?_
 ·
  unfold argH
  by_cases hs1 : s < OB
  ·
   rw [if_pos hs1]
   rcases s with _ | i
   ·
    rw [hv0]
    rw [e]
    exact .seq k [] A' 0 0 0 (fun _ _ => undef) (Nat.le_refl _) (Nat.zero_le _) (fun h => absurd rfl h) (fun i r h => by simp at h) (fun i r j d h => by simp at h) (fun i r j d h => by simp at h)
   ·
    rw [List.getD_cons_succ, List.getD_eq_getElem?_getD]
    cases hx : args[i]? with
    | none => trivial
    | some x => exact hvr i x hx _ _ _
  ·
   rw [if_neg hs1]
   by_cases hs2 : OB2 ≤ s
   ·
    rw [if_pos hs2, h0]
    intro x q h
    cases h
   ·
    rw [if_neg hs2]
    intro x q h
    cases h
 ·
  rintro en w' ⟨u, m', o', S', a', ρ, rfl, J, hr', houts, hhp, hρ⟩
  have hno : ∀ x, ¬ (((fun _ => none : OwnM) x) ≠ none) := fun x h => h rfl
  have hsame : ∀ x, x < w.heap.size → w'.heap[x]? = w.heap[x]? := fun x hx => J.same.block x hx (hno x)
  exact ⟨u, m', rfl, I.put d r u hd hbox (zHZ hr hr' m') (I.same.trans (J.same.weaken fun x h => absurd h (hno x))) J.sat J.mono (fun x hx => J.old x hx (hno x)) hsame J.same.size⟩
theorem Inv.recell (I : Inv w0 m0 o0 G pins S a w m o) {b off : Nat} {l : List T} {x y : T} (hb : S b = .box l) (hl : l[off]? = some x) (h : ∀ g cs E' u, o g = some (b, 0) → w.heap[g]? = some (.cells cs E' (0, 0)) → cs[off]? = some u → RepT m w o (b, off + 1) x u → RepT m w o (b, off + 1) y u ∧ y.isAgg = false) : Inv w0 m0 o0 G pins (upd S b (.box (l.set off y))) a w m o := by
 refine ⟨I.same, I.sat, I.mono, I.old, I.own, I.lt, I.inj, I.pinned, fun t => ?_, I.defers, I.tbl, I.wide, I.shps⟩
 by_cases e : t = b
 ·
  subst e
  have hs := I.slots t
  rw [hb] at hs
  rw [zZ]
  obtain ⟨g, hv, h1, h2, cs, E', h3, h4, h5⟩ := hs
  refine ⟨g, hv, h1, h2, cs, E', h3, by simpa using h4, fun j z hj => ?_⟩
  rw [List.getElem?_set] at hj
  split at hj
  ·
   rename_i ej
   subst ej
   split at hj
   ·
    injection hj with hj
    subst hj
    obtain ⟨_, u, q1, q2⟩ := h5 off _ hl
    exact ⟨(h g cs E' u h1 h3 q1 q2).2, u, q1, (h g cs E' u h1 h3 q1 q2).1⟩
   · cases hj
  · exact h5 j z hj
 ·
  rw [zH e]
  refine (I.slots t).turn fun b' l' hl' => ?_
  by_cases e3 : b' = b
  · subst e3; exact ⟨_, zZ ..⟩
  · exact ⟨l', by rw [zH e3, hl']⟩
theorem Inv.memo (I : Inv w0 m0 o0 G pins S a w m o) {g E : Nat} {cur : Array Value} (hg : w.heap[g]? = some (.cells cur E (0, 0))) (ho : o g = none) (hG : G g ∨ w0.heap.size ≤ g) (hm : ∀ p, m g p = none) : Inv w0 m0 o0 G pins S a w (newM m g fun p => cur[p]?) o := by
 have hmle : Mle m (newM m g fun p => cur[p]?) := by
  intro b p u hu
  unfold newM
  split
  · rename_i e; subst e; rw [hm] at hu; cases hu
  · exact hu
 have hne : ∀ x l, o x = some l → x ≠ g := fun x l h e => by subst e; rw [ho] at h; cases h
 have hother : ∀ x, x ≠ g → newM m g (fun p => cur[p]?) x = m x := fun x hx => by
  funext p
  unfold newM
  rw [if_neg hx]
 have K : Keep (fun _ => False) m w o (newM m g fun p => cur[p]?) w o :=
  ⟨hmle, fun x l h _ => hother x (hne x l h), fun _ _ _ _ => rfl, fun _ _ h _ => h, fun _ _ h => h, fun g s k _ h => ⟨g, k, h⟩, fun x _ _ => .of_eq rfl⟩
 refine ⟨I.same, fun b p u h => ?_, I.mono.trans hmle, fun b hb hG' => ?_, I.own, I.lt, I.inj, I.pinned, fun t => RepA.keep K (fun _ h => h) (fun _ _ _ _ => ⟨fun h => h, fun h => h⟩) (I.slots t), I.defers, I.tbl, I.wide, I.shps⟩
 ·
  by_cases e : b = g
  ·
   subst e
   unfold newM at h
   rw [if_pos rfl] at h
   rw [cell_of_row w b p cur E _ hg]
   exact h
  ·
   rw [hother b e] at h
   exact I.sat b p u h
 ·
  rw [hother b (fun e => by
   subst e
   rcases hG with h | h
   · exact hG' h
   · omega)]
  exact I.old b hb hG'
end
section
variable {pins : List Nat} {S M : Nat → A} {P : Program} {N : Nat} {op : Oper} {d c : Nat} {f f' : Nat → A}
theorem h_xldV (hM : Mk M S) (hk : S HK = .hp f) {off t n E k : Nat} {x : Operand} {l : List T} {ls : List (List D)} {v : Value} (hop : op.op = .load t x) (ht : tyA P t = some (false, n)) (hx : cpO M x = .t (.hpt c off)) (hb : f c = .box l) (hl : l[off]? = some (.xs E k ls (some v))) (hd : op.dst = some d) (hok : okD N pins S d = true) :
  OpH P pins N op S (app S [(d, .t (.d (.lit v)))]) := by
 refine .of' (e := [(d, _)]) fun hN hlo => ⟨?_, zBU (qN hN hok)⟩
 refine zV fun w0 m0 o0 G a w m o hNa I => ?_
 obtain ⟨h1, h2, h3⟩ := qA (qX hN hok)
 have hxr := qG hM.hx I x 0
 rw [hx] at hxr
 obtain ⟨g, q1, q2⟩ := hxr
 have hs := I.slots (OB + (OB + c))
 rw [zCy hlo hk hb] at hs
 obtain ⟨g', _, k1, k2, cs, E', k3, k4, k5⟩ := hs
 have := I.inj _ _ _ q1 k1
 subst this
 obtain ⟨_, u, k6, hown⟩ := k5 off _ hl
 obtain ⟨A', cap, xs, e, _, _, ⟨_, _, hval⟩, _⟩ := hown
 have hu := hval v rfl
 subst hu
 refine ⟨u, w, m, o, ?_, by rw [hd]; exact I.set d _ _ (by omega) h2 (.lit u (by rw [e]; rfl))⟩
 unfold execOp
 rw [hop]
 simp only [Sem.run_bind]
 rw [q2]
 have e1 : (Instr.loadAt t (.pointer (some ⟨g, off, none⟩))).run P w = (loadVar t ⟨g, off, none⟩).run P w := rfl
 rw [e1, zAw ht (u := u) (by rw [cell_of_row w g off cs E' _ k3]; exact k6)]
 rfl
theorem clo_fn {m : Mem} (fc : FuncId) : RepD m (.clo fc []) (.func (.func fc) #[] #[]) :=
 .clo fc [] #[] (fun _ => 0) (fun _ => 0) (fun _ _ => undef) rfl (fun i r h => by simp at h) (fun i r j d h => by simp at h) (fun i r j d h => by simp at h)
theorem h_sortV (hM : Mk M S) (hk : S HK = .hp f) {fn fc : Nat} {x0 x1 : Operand} {ts : Array TypeId} {fx : Operand} {off E k : Nat} {l l' : List T} {α : Type} {cc : α → List D} {y y' : List α} {v : Value} {f0 : Nat → A} {r : A} (hop : op.op = .call { callee := .value fx, args := #[x0, x1], argTypes := ts }) (hfx : vO M fx = some (.func (.func fn) #[] #[])) (hx0 : cpO M x0 = .t (.d (.lit v))) (hx1 : vO M x1 = some (.func (.func fc) #[] #[])) (hb : f c = .box l) (hl : l[off]? = some (.xs E k (y.map cc) (some v)))
  (hd : op.dst = some d) (hok : okD N pins S d = true) (hf' : f' = updF f c (.box l')) {F : Func} (hfn : P.funcs[fn]? = some F) (hbody : F.body.isNone = false) (hname : (F.name == "runtime.NumGoroutine") = false)
  (hf : FCH P fn [.t (.view 0 0 E k y.length), .t (.d (.clo fc []))] [.box (fl (dT cc) y)] [.box (fl (dT cc) y')] f0 f0 r) (h0 : ∀ c, san (f0 c) = .free) (hne : y ≠ []) (hlen : y'.length = y.length) (hkE : (Nat.blt 0 k && Nat.blt E OFB) = true) (hcc : ∀ a, (cc a).length = k) (hr : r.isLits = true) (hl' : l.set off (.xs E k (y'.map cc) (some v)) = l') :
  OpH P pins N op S (app S [(HK, .hp f'), (d, r)]) := by
 subst hl'
 rw [Bool.and_eq_true] at hkE
 refine h_mk hk hf' hok fun hN hlo => ?_
 intro w0 m0 o0 G a w m o hNa I K Q hK
 obtain ⟨h1, h2, h3⟩ := qA (qX hN hok)
 have e0 : a.eval x0 = v := by
  have := qG hM.hx I x0 0
  rw [hx0] at this
  cases this
  rfl
 have e1 : a.eval x1 = .func (.func fc) #[] #[] := zB1 hM.hx I hx1
 unfold Oper.wp
 rw [zGp (xs := [x0, x1]) hM.hx I hop hfx hfn hbody hname]
 refine Calls.mono (call_xsV (d := d) I h0 (zCy hlo hk hb) hl hf hne hlen (by simpa using hkE.1) hkE.2 hcc hr (vals := ([x0, x1].map a.eval).toArray) rfl e0 (fun i x hi o' S' s' => ?_) (by omega) h2) ?_
 ·
  rcases i with _ | i
  ·
   injection hi with hi
   subst hi
   show RepD m _ (a.eval x1)
   rw [e1]
   exact clo_fn fc
  · cases hi
 ·
  rintro e w' ⟨u, m2, rfl, J⟩
  rw [← hd] at J
  exact hK _ _ _ _ (by rw [zA6, hNa]) J
theorem h_sortV0 (hM : Mk M S) (hk : S HK = .hp f) {fn fc : Nat} {x0 x1 : Operand} {ts : Array TypeId} {fx : Operand} {off E k : Nat} {l : List T} {v : Value} {f0 : Nat → A} {r : A} (hop : op.op = .call { callee := .value fx, args := #[x0, x1], argTypes := ts }) (hfx : vO M fx = some (.func (.func fn) #[] #[])) (hx0 : cpO M x0 = .t (.d (.lit v))) (hx1 : vO M x1 = some (.func (.func fc) #[] #[])) (hb : f c = .box l) (hl : l[off]? = some (.xs E k [] (some v)))
  (hd : op.dst = some d) (hok : okD N pins S d = true) {F : Func} (hfn : P.funcs[fn]? = some F) (hbody : F.body.isNone = false) (hname : (F.name == "runtime.NumGoroutine") = false)
  (hf : FCH P fn [.t (.d (.seq k [])), .t (.d (.clo fc []))] [] [] f0 f0 r) (h0 : ∀ c, san (f0 c) = .free) (hr : r.isLits = true) :
  OpH P pins N op S (app S [(d, r)]) := by
 refine .of' (e := [(d, _)]) fun hN hlo => ⟨?_, zBU (qN hN hok)⟩
 intro w0 m0 o0 G a w m o hNa I K Q hK
 obtain ⟨h1, h2, h3⟩ := qA (qX hN hok)
 have e0 : a.eval x0 = v := by
  have := qG hM.hx I x0 0
  rw [hx0] at this
  cases this
  rfl
 have e1 : a.eval x1 = .func (.func fc) #[] #[] := zB1 hM.hx I hx1
 unfold Oper.wp
 rw [zGp (xs := [x0, x1]) hM.hx I hop hfx hfn hbody hname]
 refine Calls.mono (call_xsV0 (d := d) I h0 (zCy hlo hk hb) hl hf hr (vals := ([x0, x1].map a.eval).toArray) rfl e0 (fun i x hi o' S' s' => ?_) (by omega) h2) ?_
 ·
  rcases i with _ | i
  ·
   injection hi with hi
   subst hi
   show RepD m _ (a.eval x1)
   rw [e1]
   exact clo_fn fc
  · cases hi
 ·
  rintro e w' ⟨u, m2, rfl, J⟩
  rw [← hd] at J
  exact hK _ _ _ _ (by rw [zA6, hNa]) J
theorem c_xv {cd : Code} {L : SL} {Q : Exit → SL → Prop} (i off : Nat) {l : List T} {E k : Nat} {ls : List (List D)} {rv : Option Value} (hk : gt L HK = .hp f) (hb : f i = .box l) (hl : l[off]? = some (.xs E k ls rv))
  {f' : Value → Nat → A} (hf' : ∀ v, f' v = updF f i (.box (l.set off (.xs E k ls (some v))))) (h : ∀ v, qI P pins N cd Q ((HK, .hp (f' v)) :: L)) : qI P pins N cd Q L := by
 intro Fe ne hF w0 m0 o0 G a w hS
 obtain ⟨hN, hlo, m, o, I⟩ := hS
 have hs := I.slots (OB + (OB + i))
 rw [zCy hlo hk hb] at hs
 obtain ⟨g', _, k1, k2, cs, E', k3, k4, k5⟩ := hs
 obtain ⟨_, u, k6, hown⟩ := k5 off _ hl
 have hcE : OB + (OB + i) ≠ HK := by unfold HK OB; omega
 refine h u Fe ne hF w0 m0 o0 G a w ⟨hN, by rw [qH]; exact hlo.upd zFm, m, o, ?_⟩
 rw [hf', qH, zGl hlo hk rfl]
 refine (I.recell (x := .xs E k ls rv) (zCy hlo hk hb) hl fun g cs2 E2 u2 z1 z2 z3 z4 => ?_).hk (f := f) (by rw [zH (Ne.symm hcE)]; exact zBq hk (by simp)) _
 have := I.inj _ _ _ z1 k1
 subst this
 rw [k3] at z2
 injection z2 with z2
 injection z2 with z2 _ _
 subst z2
 rw [k6] at z3
 injection z3 with z3
 subst z3
 obtain ⟨A', cap, xs, e, q1, q2, ⟨q3, q4, _⟩, q5⟩ := z4
 exact ⟨⟨A', cap, xs, e, q1, q2, ⟨q3, q4, fun u' hu' => by injection hu'⟩, q5⟩, rfl⟩
theorem c_xfrzV {cd : Code} {L : SL} {Q : Exit → SL → Prop} (d i off : Nat) {l : List T} {E k : Nat} {rows : List (List D)} {v : Value} (hk : gt L HK = .hp f) (hb : f i = .box l) (hl : l[off]? = some (.xs E k rows (some v))) (hd : gt L d = .t (.d (.lit v))) (hc : Nat.blt d OB = true)
  (hf' : f' = updF f i (.box (l.set off .any))) (h : qI P pins N cd Q ((d, .t (.d (.seq k rows))) :: (HK, .hp f') :: L)) : qI P pins N cd Q L := by
 subst hf'
 have hc : d < OB := by simpa using hc
 intro Fe ne hF w0 m0 o0 G a w hS
 obtain ⟨hN, hlo, m, o, I⟩ := hS
 have hcE : OB + (OB + i) ≠ HK := by unfold HK OB; omega
 have hdK : d ≠ HK := by unfold HK; unfold OB at hc; omega
 have hdb : d ≠ OB + (OB + i) := by omega
 have hs := I.slots (OB + (OB + i))
 rw [zCy hlo hk hb] at hs
 obtain ⟨g', _, k1, k2, cs, E', k3, k4, k5⟩ := hs
 obtain ⟨_, u, k6, hown⟩ := k5 off _ hl
 obtain ⟨A', cap, xs, e, q1, q2, ⟨q3, q4, hval⟩, q5⟩ := hown
 have hu := hval v rfl
 subst hu
 have hsd := I.slots d
 rw [zDZ (lt2 hc), hd] at hsd
 have hraw : a.tmps.getD d undef = u := by cases hsd; rfl
 obtain ⟨o1, I1, ho1⟩ := I.dropCellX (zCy hlo hk hb) hl
 suffices hJ : ∃ m', Inv w0 m0 o0 G pins (upd (upd (hx (gt L)) (OB + (OB + i)) (.box (l.set off .any))) d (.t (.d (.seq k rows)))) a w m' o1 by
  obtain ⟨m', J⟩ := hJ
  refine h Fe ne hF w0 m0 o0 G a w ⟨hN, ?_, m', o1, ?_⟩
  ·
   rw [qH, qH]
   exact (hlo.upd zFm).upd (lt2 hc)
  ·
   rw [qH, qH, zBt (lt2 hc) hdK, zGl hlo hk rfl]
   have J2 := J.hk (f := f) (by rw [zH (Ne.symm hdK), zH (Ne.symm hcE)]; exact zBq hk (by simp)) (updF f i (.box (l.set off .any)))
   rw [zDi hdK] at J2
   exact J2
 have hnb : ((upd (hx (gt L)) (OB + (OB + i)) (.box (l.set off .any))) d).isBox = false := by
  rw [zH hdb, zDZ (lt2 hc), hd]
  rfl
 rcases q1.2 with ⟨e1, e2⟩ | ⟨g, q, cap', cur, e1, ⟨E2, hg, _⟩, hcap, hmax, _, htk⟩
 ·
  have hnil : rows = [] := List.eq_nil_of_length_eq_zero e2
  subst hnil
  refine ⟨m, I1.tell d _ hnb ?_⟩
  rw [hraw, e1]
  exact .seq k [] none 0 0 0 (fun _ _ => undef) (Nat.le_refl _) (Nat.zero_le _) (fun h => absurd rfl h) (fun i r h => by simp at h) (fun i r j d h => by simp at h) (fun i r j d h => by simp at h)
 ·
  rw [e] at e1
  injection e1 with e1 _ e2
  subst e1 e2
  obtain ⟨hog, hmg⟩ := q2 g rfl
  have ho1g : o1 g = none := by
   cases h : o1 g with
   | none => rfl
   | some l =>
    obtain ⟨z1, z2⟩ := ho1 g l h
    rw [hog] at z2
    injection z2 with z2
    exact absurd z2.symm z1
  have I2 := I1.memo hg ho1g (I.own g _ hog) hmg
  refine ⟨_, I2.tell d _ hnb ?_⟩
  rw [hraw, e]
  have hx : ∀ (i : Nat) (r : List D) (j : Nat) (z : D), rows[i]? = some r → r[j]? = some z → ∃ u, xs[i * k + j]? = some u ∧ cur[q + i * k + j]? = some u ∧ RepD m z u := by
   intro i r j z hi hj
   obtain ⟨u, h1, h2⟩ := q5 i r j z hi hj
   refine ⟨u, h1, ?_, h2⟩
   rw [← htk, List.getElem?_take] at h1
   split at h1
   ·
    rw [List.getElem?_drop, ← Nat.add_assoc] at h1
    simpa using h1
   · cases h1
  refine .seq k rows _ cap g q (fun i j => (xs[i * k + j]?).getD undef) hcap hmax (fun _ => rfl) q3 (fun i r j z hi hj => ?_) (fun i r j z hi hj => ?_)
  ·
   obtain ⟨u, h1, h2, h3⟩ := hx i r j z hi hj
   show newM m g _ g _ = _
   unfold newM
   rw [if_pos rfl, h1]
   exact h2
  ·
   obtain ⟨u, h1, h2, h3⟩ := hx i r j z hi hj
   show RepD _ z ((xs[i * k + j]?).getD undef)
   rw [h1]
   refine RepD.mono ?_ h3
   intro b p u hu
   unfold newM
   split
   · rename_i e; subst e; rw [hmg] at hu; cases hu
   · exact hu
theorem c_xany {cd : Code} {L : SL} {Q : Exit → SL → Prop} (i off : Nat) {l : List T} {E k : Nat} {ls : List (List D)} {rv : Option Value} (hk : gt L HK = .hp f) (hb : f i = .box l) (hl : l[off]? = some (.xs E k ls rv))
  (hf' : f' = updF f i (.box (l.set off .any))) (h : qI P pins N cd Q ((HK, .hp f') :: L)) : qI P pins N cd Q L := by
 subst hf'
 intro Fe ne hF w0 m0 o0 G a w hS
 obtain ⟨hN, hlo, m, o, I⟩ := hS
 have hcE : OB + (OB + i) ≠ HK := by unfold HK OB; omega
 refine h Fe ne hF w0 m0 o0 G a w ⟨hN, by rw [qH]; exact hlo.upd zFm, m, o, ?_⟩
 rw [qH, zGl hlo hk rfl]
 refine (I.recell (x := .xs E k ls rv) (zCy hlo hk hb) hl fun g cs2 E2 u2 z1 z2 z3 z4 => ?_).hk (f := f) (by rw [zH (Ne.symm hcE)]; exact zBq hk (by simp)) _
 obtain ⟨A', cap, xs, e, _⟩ := z4
 exact ⟨by rw [e]; rfl, rfl⟩
end
end Go.Proofs.Ytjomnccladjpgaa

/-
 Calls of yield within a function that is ranged over: what a round does, told as a call.
-/
namespace Go.Proofs.Ytjomnccladjpgaa
open Go Go.RowKit
set_option linter.unusedVariables false
def YK (P : Program) (l : Nat) (vals : Array Value) (w : World) (R : Ending → World → Prop) : Prop :=
 ∃ fn tmps assign body, (Instr.yield l vals).run P w = .ok (.round l fn tmps assign body) w ∧ ∀ n, RoundIn Fence.wide n P l fn tmps assign body w R
theorem YK.mono {P : Program} {l : Nat} {vals : Array Value} {w : World} {R R' : Ending → World → Prop} (h : YK P l vals w R) (k : ∀ e w', R e w' → R' e w') : YK P l vals w R' := by
 obtain ⟨fn, tmps, asn, body, h1, h2⟩ := h
 exact ⟨fn, tmps, asn, body, h1, fun n => (h2 n).mono k⟩
end Go.Proofs.Ytjomnccladjpgaa

/-
 More objects in the heap: what a function does to a heap, it does to a heap that holds more (the objects of kind 63).
-/
namespace Go.Proofs.Ytjomnccladjpgaa
open Go Go.RowKit
set_option linter.unusedVariables false
def hz (f z : Nat → A) : Nat → A := fun c => if c % 64 = 63 then z (c / 64) else f c
def isZ (s : Nat) : Prop := OB2 ≤ s ∧ (s - OB2) % 64 = 63
instance (s : Nat) : Decidable (isZ s) := by unfold isZ; exact inferInstance
theorem zHA {s : Nat} (h : s < OB2) : ¬ isZ s := fun e => by have := e.1; omega
theorem zF4 {c : Nat} : isZ (OB + (OB + c)) ↔ c % 64 = 63 := by
 unfold isZ
 rw [← zAZ, Nat.add_sub_cancel_left]
 exact ⟨fun h => h.2, fun h => ⟨Nat.le_add_right _ _, h⟩⟩
def nzT : T → Bool
 | .hpt c _ | .hvw c _ _ _ _ => !(c % 64 == 63)
 | .mpt i => !(Nat.ble OB i && (i - OB) % 64 == 63)
 | .ptr _ _ | .view _ _ _ _ _ => false
 | _ => true
def nzA : A → Bool
 | .t x => nzT x
 | .tup l | .ag l | .lst l | .imt l => l.all nzT
 | .imm _ | .any => true
 | _ => false
def dzO (o : OwnM) : OwnM := fun g => match o g with
 | some l => if isZ l.1 then none else some l
 | none => none
theorem zAf {o : OwnM} {g : Nat} {l : Nat × Nat} : dzO o g = some l ↔ ¬ isZ l.1 ∧ o g = some l := by
 unfold dzO
 constructor
 ·
  intro h
  split at h
  ·
   split at h
   · cases h
   · rename_i hn; injection h with h; subst h; exact ⟨hn, by assumption⟩
  · cases h
 ·
  rintro ⟨h1, h2⟩
  rw [h2]
  simp only
  rw [if_neg h1]
section
variable {m : Mem} {w : World} {o : OwnM}
theorem zFF {loc : Nat × Nat} (hl : ¬ isZ loc.1) {x : T} (hx : nzT x = true) {v : Value} (h : RepT m w o loc x v) : RepT m w (dzO o) loc x v := by
 cases x with
 | d x => exact h
 | agg l => exact h
 | own E k l =>
  obtain ⟨A', cap, xs, e, h1, h2, h3, h4⟩ := h
  exact ⟨A', cap, xs, e, h1, fun g hg => ⟨zAf.2 ⟨hl, (h2 g hg).1⟩, (h2 g hg).2⟩, h3, h4⟩
 | xs E k l rv =>
  obtain ⟨A', cap, xs, e, h1, h2, h3, h4⟩ := h
  exact ⟨A', cap, xs, e, h1, fun g hg => ⟨zAf.2 ⟨hl, (h2 g hg).1⟩, (h2 g hg).2⟩, h3, h4⟩
 | any => exact h
 | ptr i off => cases hx
 | view i off E k n => cases hx
 | hpt i off =>
  have hx : i % 64 ≠ 63 := by simpa [nzT] using hx
  obtain ⟨g, h1, h2⟩ := h
  exact ⟨g, zAf.2 ⟨fun e => hx (zF4.1 e), h1⟩, h2⟩
 | mpt i =>
  obtain ⟨g, h1, h2⟩ := h
  refine ⟨g, zAf.2 ⟨fun e => ?_, h1⟩, h2⟩
  have e : isZ (OB + i) := e
  have h3 : OB ≤ i := by have := e.1; unfold OB OB2 at *; omega
  have h4 : i = OB + (i - OB) := by omega
  rw [h4] at e
  have h5 := zF4.1 e
  have hx : (!(Nat.ble OB i && (i - OB) % 64 == 63)) = true := hx
  rw [h5, Nat.ble_eq_true_of_le h3] at hx
  cases hx
 | hvw i off E k n =>
  have hx : i % 64 ≠ 63 := by simpa [nzT] using hx
  obtain ⟨A', q, h1, h2, h3, h4⟩ := h
  exact ⟨A', q, h1, h2, h3, h4.imp id fun ⟨g, cs, E1, k1, k2⟩ => ⟨g, cs, E1, zAf.2 ⟨fun e => hx (zF4.1 e), k1⟩, k2⟩⟩
theorem zI3 {l : List T} (h : l.all nzT = true) {j : Nat} {x : T} (hj : l[j]? = some x) : nzT x = true := List.all_eq_true.1 h x (List.mem_of_getElem? hj)
theorem nzA_rep {s : Nat} (hs : ¬ isZ s) {S S' : Nat → A} {x : A} (hx : nzA x = true) {v : Value} (h : RepA m w o S s x v) : RepA m w (dzO o) S' s x v := by
 cases x with
 | t x => exact zFF hs hx h
 | tup l =>
  obtain ⟨vs, e, h1, h2⟩ := h
  exact ⟨vs, e, h1, fun j x hj => let ⟨u, a, b⟩ := h2 j x hj; ⟨u, a, zFF hs (zI3 hx hj) b⟩⟩
 | ag l =>
  obtain ⟨vs, e, h1, h2⟩ := h
  exact ⟨vs, e, h1, fun j x hj => let ⟨u, a, c, b⟩ := h2 j x hj; ⟨u, a, c, zFF hs (zI3 hx hj) b⟩⟩
 | lst l =>
  obtain ⟨g, cap, e, h1, h2, h3⟩ := h
  exact ⟨g, cap, e, h1, h2, fun j x hj => let ⟨u, a, b⟩ := h3 j x hj; ⟨u, a, zFF hs (zI3 hx hj) b⟩⟩
 | imt l =>
  obtain ⟨g, e, h3⟩ := h
  exact ⟨g, e, fun j x hj => let ⟨u, a, b⟩ := h3 j x hj; ⟨u, a, zFF hs (zI3 hx hj) b⟩⟩
 | imm l => exact h
 | any => trivial
 | _ => cases hx
end
structure NZ (f : Nat → A) : Prop where
 z : ∀ c, c % 64 = 63 → san (f c) = .free
 b : ∀ c l, san (f c) = .box l → ∀ x ∈ l, nzT x = true
 r : ∀ c b u mE oE, san (f c) ≠ .rcd b u mE oE
theorem FCK.frame {K : Array Value → World → (Ending → World → Prop) → Prop} (hKm : ∀ (v : Array Value) (w : World) (R R' : Ending → World → Prop), K v w R → (∀ e w', R e w' → R' e w') → K v w R')
  {args : List A} {f f' : Nat → A} {r : A} (hf : FCK K args [] [] f f' r) (h0 : NZ f) (h0' : NZ f') (ha : args.all nzA = true) (hle : args.length ≤ OB) (z : Nat → A) : FCK K args [] [] (hz f z) (hz f' z) r := by
 intro w m o vals hsat htbl hlt hinj hsz hrep
 refine hKm _ _ _ _ (hf w m (dzO o) vals hsat htbl (fun g l h => hlt g l (zAf.1 h).2) (fun g g' l h h' => hinj g g' l (zAf.1 h).2 (zAf.1 h').2) hsz fun s => ?_) ?_
 ·
  have hs := hrep s
  revert hs
  generalize vals.getD s undef = v
  intro hs
  unfold argH at hs ⊢
  by_cases h1 : s < OB
  ·
   rw [if_pos h1] at hs ⊢
   have hnz : ¬ isZ s := zHA (by unfold OB OB2 at *; omega)
   refine nzA_rep hnz ?_ hs
   rw [List.getD_eq_getElem?_getD]
   cases hx : args[s]? with
   | none => rfl
   | some x => exact List.all_eq_true.1 ha x (List.mem_of_getElem? hx)
  ·
   rw [if_neg h1] at hs ⊢
   by_cases h2 : OB2 ≤ s
   ·
    rw [if_pos h2] at hs ⊢
    obtain ⟨c, rfl⟩ : ∃ c, s = OB2 + c := ⟨s - OB2, by omega⟩
    rw [Nat.add_sub_cancel_left] at hs ⊢
    by_cases hc : c % 64 = 63
    ·
     rw [h0.z c hc]
     intro g k h
     have := (zAf.1 h).1
     rw [zAZ] at this
     exact this (zF4.2 hc)
    ·
     have hnz : ¬ isZ (OB2 + c) := by rw [zAZ]; exact fun e => hc (zF4.1 e)
     have e1 : hz f z c = f c := by unfold hz; rw [if_neg hc]
     rw [e1] at hs
     rcases zDY (f c) with ⟨l, hl⟩ | hl | hl | ⟨l, hl⟩ | ⟨b, u, mE, oE, hl⟩
     ·
      have hb := h0.b c l hl
      rw [hl] at hs ⊢
      obtain ⟨g, e, k1, k2, cs, E, k3, k4, k5⟩ := hs
      refine ⟨g, e, zAf.2 ⟨hnz, k1⟩, k2, cs, E, k3, k4, fun j x hj => ?_⟩
      obtain ⟨q1, u, q2, q3⟩ := k5 j x hj
      exact ⟨q1, u, q2, zFF hnz (hb x (List.mem_of_getElem? hj)) q3⟩
     ·
      rw [hl] at hs ⊢
      exact fun g k h => hs g k (zAf.1 h).2
     · rw [hl]; trivial
     ·
      rw [hl] at hs ⊢
      obtain ⟨g, k1, k2⟩ := hs
      exact ⟨g, zAf.2 ⟨hnz, k1⟩, k2⟩
     · exact absurd hl (h0.r c _ _ _ _)
   ·
    rw [if_neg h2] at hs ⊢
    exact fun g k h => hs g k (zAf.1 h).2
 ·
  rintro e w' ⟨u, m', o', S', a', ρ, he, J, hr, _, hhp, hρ⟩
  have hzn : ∀ g l, o g = some l → isZ l.1 → dzO o g = none := fun g l h hl => by unfold dzO; rw [h]; simp only; rw [if_pos hl]
  have hzo : ∀ g l, o g = some l → isZ l.1 → o' g = none := by
   intro g l h hl
   cases hq : o' g with
   | none => rfl
   | some l' =>
    rcases J.own g l' hq with hG | hG
    · exact absurd (hzn g l h hl) hG
    · exact absurd (hlt g l h) (by omega)
  let o2 : OwnM := fun g => match o g with
   | some l => if isZ l.1 then some l else o' g
   | none => o' g
  have h2z : ∀ g l, o g = some l → isZ l.1 → o2 g = some l := fun g l h hl => by
   show (match o g with | some l => if isZ l.1 then some l else o' g | none => o' g) = _
   rw [h]; simp only; rw [if_pos hl]
  have h2n : ∀ g l, o' g = some l → o2 g = some l := by
   intro g l h
   show (match o g with | some l => if isZ l.1 then some l else o' g | none => o' g) = _
   cases hq : o g with
   | none => exact h
   | some l' =>
    simp only
    by_cases hl : isZ l'.1
    · rw [hzo g l' hq hl] at h; cases h
    · rw [if_neg hl]; exact h
  have h2 : ∀ g l, o2 g = some l → (isZ l.1 ∧ o g = some l) ∨ o' g = some l := by
   intro g l h
   have h : (match o g with | some l => if isZ l.1 then some l else o' g | none => o' g) = some l := h
   cases hq : o g with
   | none => rw [hq] at h; exact .inr h
   | some l' =>
    rw [hq] at h
    simp only at h
    by_cases hl : isZ l'.1
    · rw [if_pos hl] at h; injection h with h; subst h; exact .inl ⟨hl, rfl⟩
    · rw [if_neg hl] at h; exact .inr h
  have hfz : ∀ g l, o' g = some l → ¬ isZ l.1 := by
   rintro g ⟨s, k⟩ h hl
   obtain ⟨c, rfl⟩ : ∃ c, s = OB + (OB + c) := ⟨s - OB2, by rw [← zAZ]; have := hl.1; show s = _; have h3 : OB2 ≤ s := this; omega⟩
   have hs := J.slots (OB + (OB + c))
   rw [hhp, h0'.z c (zF4.1 hl)] at hs
   exact hs g k h
  have hpin : ∀ s, OB ≤ s → ∀ g, o g = some (s, 0) → o2 g = some (s, 0) := by
   intro s hs g h
   by_cases hl : isZ s
   · exact h2z g _ h hl
   · exact h2n g _ (J.pinned s (.inr hs) g (zAf.2 ⟨hl, h⟩))
  have hblk : ∀ g l, o g = some l → isZ l.1 → m' g = m g ∧ w'.heap[g]? = w.heap[g]? := fun g l h hl =>
   ⟨J.old g (hlt g l h) fun hn => hn (hzn g l h hl), J.same.block g (hlt g l h) fun hn => hn (hzn g l h hl)⟩
  have hshp : ∀ g j, o g = some (OB + j, 0) → zBA w w' g := by
   intro g j h
   by_cases hl : isZ (OB + j)
   · exact .of_eq (hblk g _ h hl).2
   · exact (J.shps g j (zAf.2 ⟨hl, h⟩)).2
  let S2 : Nat → A := fun t => if isZ t then san (z ((t - OB2) / 64)) else S' t
  have K1 : Keep (fun l => isZ l.1) m' w' o' m' w' o2 := ⟨Mle.refl _, fun _ _ _ _ => rfl, fun _ _ _ _ => rfl, fun g l h _ => h2n g l h, fun g j h => h2n g _ h, fun g s k hn h => by
   rcases h2 g _ h with ⟨hl, _⟩ | h
   · exact absurd hl hn
   · exact ⟨g, k, h⟩, fun g j _ => .refl _ _⟩
  have hbox : ∀ b l, b < OB → S' b = .box l → ∃ l, S2 b = .box l := fun b l hb h => ⟨l, by show (if isZ b then _ else S' b) = _; rw [if_neg (zHA (by unfold OB OB2 at *; omega))]; exact h⟩
  refine ⟨u, m', o2, S2, a', ρ, he, ⟨J.same.weaken fun g h e => h ?_, J.sat, J.mono, fun b hb hn => J.old b hb fun h => h ?_, fun g l h => ?_, fun g l h => ?_, fun g g' l h h' => ?_, fun s hs g hg => ?_, fun s => ?_, J.defers, J.tbl, J.wide, fun g j h => ⟨.inr ?_, hshp g j h⟩⟩, ?_, fun i x h => by simp at h, fun c => ?_, hρ⟩
  ·
   show dzO o g = none
   unfold dzO; rw [e]
  ·
   have hn : o b = none := by
    cases hq : o b with
    | none => rfl
    | some l => exact absurd (show o b ≠ none by rw [hq]; simp) hn
   show dzO o b = none
   unfold dzO; rw [hn]
  ·
   rcases h2 g l h with ⟨_, h⟩ | h
   · exact .inl (by show o g ≠ none; rw [h]; simp)
   ·
    rcases J.own g l h with hG | hG
    ·
     refine .inl fun e => hG ?_
     show dzO o g = none
     unfold dzO; rw [e]
    · exact .inr hG
  ·
   rcases h2 g l h with ⟨_, h⟩ | h
   · exact Nat.lt_of_lt_of_le (hlt g l h) J.same.size
   · exact J.lt g l h
  ·
   rcases h2 g l h with ⟨hl, h⟩ | h <;> rcases h2 g' l h' with ⟨hl', h'⟩ | h'
   · exact hinj g g' l h h'
   · exact absurd hl (hfz g' l h')
   · exact absurd hl' (hfz g l h)
   · exact J.inj g g' l h h'
  ·
   rcases hs with hs | hs
   · simp [zH2] at hs
   · exact hpin s hs g hg
  ·
   by_cases hl : isZ s
   ·
    obtain ⟨c, rfl⟩ : ∃ c, s = OB + (OB + c) := ⟨s - OB2, by rw [← zAZ]; have := hl.1; omega⟩
    have e2 : S2 (OB + (OB + c)) = san (z (c / 64)) := by
     show (if isZ (OB + (OB + c)) then _ else _) = _
     rw [if_pos hl, ← zAZ, Nat.add_sub_cancel_left]
    have hs := hrep (OB + (OB + c))
    have e3 : argH args [] (hz f z) (OB + (OB + c)) = san (z (c / 64)) := by
     unfold argH
     rw [if_neg (by omega), ← zAZ, if_pos (Nat.le_add_right _ _), Nat.add_sub_cancel_left]
     unfold hz
     rw [if_pos (zF4.1 hl)]
    rw [e3] at hs
    rw [e2]
    have K2 : Keep (fun l => ¬ isZ l.1) m w o m' w' o2 := ⟨J.mono, fun g l h hn => (hblk g l h (by simpa using hn)).1, fun g l h hn => (hblk g l h (by simpa using hn)).2, fun g l h hn => h2z g l h (by simpa using hn), fun g j h => hpin _ (Nat.le_add_right _ _) g h, fun g s k hn h => by
     rcases h2 g _ h with ⟨_, h⟩ | h
     · exact ⟨g, k, h⟩
     · exact absurd (by simpa using hn) (hfz g _ h), hshp⟩
    have hnr : ∀ b off, san (z (c / 64)) ≠ .ref b off := fun b off e => by cases hq : z (c / 64) <;> rw [hq] at e <;> cases e
    have h3 := RepA.keep (S' := S2) K2 (fun j => by simpa using hl) (fun b off e _ => absurd e (hnr b off)) hs
    rcases zDY (z (c / 64)) with ⟨l, hq⟩ | hq | hq | ⟨l, hq⟩ | ⟨b, u, mE, oE, hq⟩
    ·
     rw [hq] at h3 ⊢
     obtain ⟨g, _, rest⟩ := h3
     exact ⟨g, fun h => absurd h (by omega), rest⟩
    · rw [hq] at h3 ⊢; exact h3
    · rw [hq]; trivial
    · rw [hq] at h3 ⊢; exact h3
    · rw [hq] at h3 ⊢; exact h3
   ·
    have e2 : S2 s = S' s := by show (if isZ s then _ else _) = _; rw [if_neg hl]
    rw [e2]
    exact RepA.keep K1 (fun _ => hl) (fun b off _ hb => ⟨zHA (by unfold OB OB2 at *; omega), fun ⟨l, hl⟩ => hbox b l hb hl⟩) (J.slots s)
  ·
   by_cases hl : isZ (OB + j)
   · exact hl.1
   · exact ((J.shps g j (zAf.2 ⟨hl, h⟩)).1).resolve_left fun h => by simp [zH2] at h
  · exact RepA.keep K1 (fun _ => zHA (by unfold OB OB2 at *; omega)) (fun b off _ hb => ⟨zHA (by unfold OB OB2 at *; omega), fun ⟨l, hl⟩ => hbox b l hb hl⟩) hr
  ·
   show (if isZ (OB + (OB + c)) then _ else _) = _
   by_cases hl : isZ (OB + (OB + c))
   ·
    rw [if_pos hl, ← zAZ, Nat.add_sub_cancel_left]
    unfold hz
    rw [if_pos (zF4.1 hl)]
   ·
    rw [if_neg hl, hhp]
    unfold hz
    rw [if_neg fun e => hl (zF4.2 e)]
end Go.Proofs.Ytjomnccladjpgaa

/-
 A range over a function: what is told at its head, in its rounds and behind it.
-/
namespace Go.Proofs.Ytjomnccladjpgaa
open Go Go.RowKit
set_option linter.unusedVariables false
def rs (pins : List Nat) (o : OwnM) : OwnM := fun g => match o g with
 | some l => if OB ≤ l.1 ∧ l.1 < OB2 ∧ l.1 ∉ pins then none else some l
 | none => none
theorem rs_iff {pins : List Nat} {o : OwnM} {g : Nat} {l : Nat × Nat} : rs pins o g = some l ↔ (OB ≤ l.1 → l.1 < OB2 → l.1 ∈ pins) ∧ o g = some l := by
 unfold rs
 constructor
 ·
  intro h
  split at h
  ·
   split at h
   · cases h
   ·
    rename_i hn
    injection h with h
    subst h
    refine ⟨fun h1 h2 => ?_, by assumption⟩
    exact Classical.byContradiction fun h3 => hn ⟨h1, h2, h3⟩
  · cases h
 ·
  rintro ⟨h1, h2⟩
  rw [h2]
  simp only
  rw [if_neg]
  rintro ⟨h3, h4, h5⟩
  exact h5 (h1 h3 h4)
section
variable {w0 : World} {m0 : Mem} {o0 : OwnM} {G : GD} {pins : List Nat} {S : Nat → A} {a : Act} {w : World} {m : Mem} {o : OwnM}
theorem Inv.base (I : Inv w0 m0 o0 G pins S a w m o) : Inv w m (rs pins o) ⟨fun g => o g ≠ none, G.ds⟩ pins S a w m o :=
 ⟨.refl _ _, I.sat, .refl _, fun _ _ _ => rfl, fun g l h => .inl (by show o g ≠ none; rw [h]; simp), I.lt, I.inj, fun s hs g h => (rs_iff.1 h).2, I.slots, I.defers, I.tbl.trans I.mono, I.wide, fun g j h => by
  obtain ⟨h1, h2⟩ := rs_iff.1 h
  refine ⟨?_, .refl _ _⟩
  rcases Nat.lt_or_ge (OB + j) OB2 with h3 | h3
  · exact .inl (h1 (Nat.le_add_right _ _) h3)
  · exact .inr h3⟩
theorem Inv.comp (I : Inv w0 m0 o0 G pins S a w m o) {G2 : GD} (hG : ∀ g, G2.p g → o g ≠ none) {S' : Nat → A} {a' : Act} {w' : World} {m' : Mem} {o' : OwnM} (J : Inv w m (rs pins o) G2 pins S' a' w' m' o') : Inv w0 m0 o0 ⟨G.p, G2.ds⟩ pins S' a' w' m' o' := by
 have key : ∀ g, o g ≠ none → G.p g ∨ w0.heap.size ≤ g := fun g h => by
  cases hq : o g with
  | none => exact absurd hq h
  | some l => exact I.own g l hq
 have hpin : ∀ s, (s ∈ pins ∨ OB ≤ s) → ∀ g, o0 g = some (s, 0) → rs pins o g = some (s, 0) := by
  intro s hs g h
  refine rs_iff.2 ⟨fun h1 h2 => ?_, I.pinned s hs g h⟩
  have h1 : OB ≤ s := h1
  have h2 : s < OB2 := h2
  obtain ⟨j, rfl⟩ : ∃ j, s = OB + j := ⟨s - OB, by omega⟩
  exact ((I.shps g j h).1).resolve_right fun h => by omega
 refine ⟨I.same.trans (J.same.weaken fun g h => key g (hG g h)), J.sat, I.mono.trans J.mono, fun b hb hn => ?_, fun g l h => ?_, J.lt, J.inj, fun s hs g h => J.pinned s hs g (hpin s hs g h), J.slots, J.defers, I.tbl, J.wide, fun g j h => ⟨(I.shps g j h).1, (I.shps g j h).2.trans (J.shps g j (hpin _ (.inr (Nat.le_add_right _ _)) g h)).2⟩⟩
 ·
  rw [J.old b (Nat.lt_of_lt_of_le hb I.same.size) fun h => (key b (hG b h)).elim hn fun h => by omega]
  exact I.old b hb hn
 ·
  rcases J.own g l h with h | h
  · exact key g (hG g h)
  · exact .inr (Nat.le_trans I.same.size h)
theorem Inv.at (I : Inv w0 m0 o0 G pins S a w m o) {l : Nat} (hl : o l = none) (hm : ∀ p, m l p = none) (u : Obj) : Inv (w.putObj l u) m (rs pins o) ⟨fun g => o g ≠ none, G.ds⟩ pins S a (w.putObj l u) m o := by
 have hne : ∀ g k, o g = some k → g ≠ l := fun g k h e => by subst e; rw [hl] at h; cases h
 have hh : ∀ g k, o g = some k → (w.putObj l u).heap[g]? = w.heap[g]? := fun g k h => World.putObj_heap_other (hne g k h)
 have K : Keep (fun _ => False) m w o m (w.putObj l u) o := ⟨.refl _, fun _ _ _ _ => rfl, fun g k h _ => hh g k h, fun _ _ h _ => h, fun _ _ h => h, fun g _ k _ h => ⟨g, k, h⟩, fun g j h => .of_eq (hh g _ h)⟩
 have B := I.base
 refine ⟨.refl _ _, fun b p v h => ?_, .refl _, fun _ _ _ => rfl, fun g k h => .inl (by show o g ≠ none; rw [h]; simp), fun g k h => by rw [World.putObj_size]; exact I.lt g k h, I.inj, B.pinned, fun s => RepA.keep K (fun _ => id) (fun _ _ _ _ => ⟨id, id⟩) (I.slots s), I.defers, B.tbl, I.wide, fun g j h => ⟨(B.shps g j h).1, .refl _ _⟩⟩
 have hb : b ≠ l := fun e => by subst e; rw [hm] at h; cases h
 have := I.sat b p v h
 unfold World.cell? at this ⊢
 rw [World.putObj_heap_other hb]
 exact this
end
structure VW (bs : List Nat) (o1 o2 : OwnM) : Prop where
 hh : ∀ g c k, c % 64 ≠ 63 → (o1 g = some (OB + (OB + c), k) ↔ o2 g = some (OB + (OB + c), k))
 hb : ∀ (i b g k : Nat), bs[i]? = some b → (o1 g = some (b, k) ↔ o2 g = some (OB + (OB + cd 63 (i + 1)), k))
section
variable {m : Mem} {w : World} {o o' : OwnM}
def nzC (l : List T) : Prop := ∀ x ∈ l, nzT x = true ∧ ∀ i, x = .mpt i → OB ≤ i
end
end Go.Proofs.Ytjomnccladjpgaa

/-
 A round, out of its body's walk.
-/
namespace Go.Proofs.Ytjomnccladjpgaa
open Go Go.RowKit
set_option linter.unusedVariables false
def Stat (mE : Mem) (oE : OwnM) : A → Value → Prop
 | .any, _ => True
 | .t (.d x), v => RepD mE x v
 | .t (.agg l), v => ∃ vs : Array Value, v = .agg vs ∧ RepL mE l vs.toList
 | .t (.hpt c off), v => c % 64 ≠ 63 ∧ ∃ g, oE g = some (OB + (OB + c), 0) ∧ v = .pointer (some ⟨g, off, none⟩)
 | .imm l, v => ∃ g p, v = .pointer (some ⟨g, p, none⟩) ∧ ∀ (j : Nat) (d : D), l[j]? = some d → ∃ u, mE g (p + j) = some u ∧ RepD mE d u
 | _, _ => False
theorem Stat.rep {mE m : Mem} {oE o : OwnM} {w : World} {S : Nat → A} {s : Nat} (hm : Mle mE m) (ho : ∀ g c, c % 64 ≠ 63 → oE g = some (OB + (OB + c), 0) → o g = some (OB + (OB + c), 0)) {x : A} {v : Value} (h : Stat mE oE x v) : RepA m w o S s x v := by
 cases x with
 | any => trivial
 | imm l => obtain ⟨g, p, e, h⟩ := h; exact ⟨g, p, e, fun j d hj => let ⟨u, a, b⟩ := h j d hj; ⟨u, hm _ _ _ a, b.mono hm⟩⟩
 | t x =>
  cases x with
  | d x => exact RepD.mono hm h
  | agg l => obtain ⟨vs, e, h⟩ := h; exact ⟨vs, e, h.mono hm⟩
  | hpt c off => obtain ⟨hc, g, h1, h2⟩ := h; exact ⟨g, ho g c hc h1, h2⟩
  | _ => exact h.elim
 | _ => exact h.elim
structure Head (bs : List Nat) (N : Nat) (r : Loop) (mE : Mem) (oE : OwnM) (L0 : SL) : Prop where
 size : r.tmps.size = N
 st : ∀ s, s < OB → s ∉ bs → Stat mE oE (gt L0 s) (r.tmps.getD s undef)
 bx : ∀ (i b : Nat), bs[i]? = some b → ∃ g, r.tmps.getD b undef = .pointer (some ⟨g, 0, none⟩) ∧ oE g = some (OB + (OB + cd 63 (i + 1)), 0)
 lo : ∀ s, OB ≤ s → gt L0 s = .any ∨ (gt L0 s = .free ∧ s < HK)
structure NC (f : Nat → A) : Prop extends NZ f where
 c : ∀ c l, san (f c) = .box l → nzC l
end Go.Proofs.Ytjomnccladjpgaa
