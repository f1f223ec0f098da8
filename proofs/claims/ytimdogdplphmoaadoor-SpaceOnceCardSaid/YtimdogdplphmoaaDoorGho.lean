/-
  Steps that only turn what is told: a local object becomes the heap's, becomes data, is forgotten. The rules of local objects.
-/
import Derived.Test.YtimdogdplphmoaaDoorLoc
namespace Go.Proofs.YtimdogdplphmoaaDoor
open Go Go.RowKit
set_option linter.unusedVariables false

section
variable {w0 : World} {m0 : Mem} {o0 : OwnM} {G : Nat → Prop} {pins : List Nat} {S M : Nat → A} {a : Act} {w : World} {m : Mem} {o : OwnM} {P : Program} {N : Nat}
/-- Less is told. -/
theorem Inv.less (I : Inv w0 m0 o0 G pins S a w m o) {S' : Nat → A} (h : ∀ s, S' s = S s ∨ (S' s = .any ∧ (S s).isBox = false)) : Inv w0 m0 o0 G pins S' a w m o := by
  refine ⟨I.same, I.sat, I.mono, I.old, I.own, I.lt, I.inj, I.pinned, fun s => ?_, I.defers, I.tbl, I.wide, I.shps⟩
  rcases h s with e | ⟨e, _⟩
  · rw [e]
    refine (I.slots s).turn fun b l hb => ?_
    rcases h b with e2 | ⟨_, e2⟩
    · exact ⟨l, by rw [e2, hb]⟩
    · rw [hb] at e2; cases e2
  · rw [e]; trivial
/-- Object j, a made slice that only slot d knows, becomes a slice that may grow. rs: its rows. -/
theorem Inv.frz (I : Inv w0 m0 o0 G pins S a w m o) {j d E k : Nat} {l : List T} {rs : List (List D)} (hj : j < OB) (hd : d < OB) (hp : OB + j ∉ pins) (hpd : d ∉ pins) (hS : S d = .t (.view j 0 E k rs.length)) (hb : S (OB + j) = .box l) (hm : ∀ s, s ≠ d → s ≠ OB + j → mentA j (S s) = false) (hk : 0 < k) (hrk : ∀ r ∈ rs, r.length = k) (hl : l = (rs.flatMap id).map .d) :
    ∃ m' o', Inv w0 m0 o0 G pins (upd (upd S (OB + j) .free) d (.t (.d (.seq k rs)))) a w m' o' := by
  have hs := I.slots (OB + j)
  rw [hb] at hs
  obtain ⟨g, _, h1, h2, cs, E', h3, h4, h5⟩ := hs
  have hsd := I.slots d
  rw [hS] at hsd
  obtain ⟨A', c, q2, q3, q5, q4⟩ := hsd
  have hlen : l.length = rs.length * k := by
    subst hl
    rw [List.length_map]
    exact fl_len_of hrk
  have hcell : ∀ (i : Nat) (r : List D) (q : Nat) (e : D), rs[i]? = some r → r[q]? = some e → ∃ u, cs[i * k + q]? = some u ∧ RepD m e u := by
    intro i r q e hi hq
    have hrl := hrk r (List.mem_of_getElem? hi)
    have hqk : q < k := by rw [← hrl]; exact (List.getElem?_eq_some_iff.1 hq).1
    have : l[i * k + q]? = some (.d e) := by
      subst hl
      rw [List.getElem?_map, fl_cell_of hrk hi hqk, hq]
      rfl
    obtain ⟨_, u, k1, k2⟩ := h5 _ _ this
    exact ⟨u, k1, k2⟩
  let m' : Mem := newM m g fun p => cs[p]?
  have hmle : Mle m m' := by
    intro b p u hu
    show newM m g (fun p => cs[p]?) b p = some u
    unfold newM
    rw [if_neg]
    · exact hu
    · intro e; subst e; rw [h2] at hu; cases hu
  have hk' : ∀ g1 l1, dropO o j g1 = some l1 → g1 ≠ g ∧ o g1 = some l1 := by
    intro g1 l1 h
    obtain ⟨a1, a2⟩ := dropO_iff.1 h
    exact ⟨fun e => by subst e; rw [h1] at a1; injection a1 with a1; exact a2 (by rw [← a1]), a1⟩
  refine ⟨m', dropO o j, ⟨I.same, fun b p u h => ?_, I.mono.trans hmle, fun b hb' hg => ?_, fun g l h => I.own g l (dropO_iff.1 h).1, fun g l h => I.lt g l (dropO_iff.1 h).1, fun g g' l h h' => I.inj g g' l (dropO_iff.1 h).1 (dropO_iff.1 h').1, fun s hs g hg => dropO_iff.2 ⟨I.pinned s hs g hg, fun e => hs.elim (fun hs => hp (by rw [← e]; exact hs)) fun _ => ((I.shps g j (by have e : s = OB + j := e; rw [← e]; exact hg)).1).elim hp fun h => by unfold OB OB2 at *; omega⟩, fun s => ?_, I.defers, I.tbl, I.wide, I.shps⟩⟩
  · change newM m g (fun p => cs[p]?) b p = some u at h
    unfold newM at h
    split at h
    · rename_i e
      subst e
      rw [cell_of_row w b p cs E' _ h3]
      exact h
    · exact I.sat b p u h
  · rw [← I.old b hb' hg]
    funext p
    show newM m g (fun p => cs[p]?) b p = _
    unfold newM
    rw [if_neg]
    intro e
    subst e
    rcases I.own b _ h1 with h | h
    · exact hg h
    · omega
  · by_cases e : s = d
    · subst e
      rw [upd_same, q5]
      refine .seq k rs _ c g 0 (fun i q => (cs[i * k + q]?).getD undef) q2 q3 (fun hne => ?_) (fun i r hi => hrk r (List.mem_of_getElem? hi)) (fun i r q e hi hq => ?_) (fun i r q e hi hq => ?_)
      · obtain ⟨g', _, q1, q6, _⟩ := q4.resolve_left fun h => by have := List.length_pos_iff.2 hne; omega
        have := I.inj _ _ _ h1 q1
        subst this
        exact q6
      · obtain ⟨u, k1, _⟩ := hcell i r q e hi hq
        show newM m g (fun p => cs[p]?) g (0 + i * k + q) = _
        rw [newM_same, Nat.zero_add, k1]
        rfl
      · obtain ⟨u, k1, k2⟩ := hcell i r q e hi hq
        rw [k1]
        exact k2.mono hmle
    · rw [upd_other e]
      by_cases e2 : s = OB + j
      · subst e2
        rw [upd_same]
        exact fun g k h => (dropO_iff.1 h).2 rfl
      · rw [upd_other e2]
        have h := mentA_rep hj (S' := upd (upd S (OB + j) .free) d (.t (.d (.seq k rs)))) (hm s e e2) e2 (fun b l hb hl => ⟨l, by
          rw [upd_other (fun e3 => by subst e3; rw [hS] at hl; cases hl), upd_other (by omega), hl]⟩) (I.slots s)
        have K : Keep (fun _ => False) m w (dropO o j) m' w (dropO o j) := ⟨hmle, fun g1 l1 h _ => by
          funext p
          show newM m g (fun p => cs[p]?) g1 p = _
          unfold newM
          rw [if_neg (hk' g1 l1 h).1], fun _ _ _ _ => rfl, fun _ _ h _ => h, fun _ _ h => h, fun g _ k _ h => ⟨g, k, h⟩, fun g _ _ => .of_eq rfl⟩
        exact RepA.keep K (fun _ => id) (fun b off _ _ => ⟨id, id⟩) h

end

/-! ### What is told turns -/
def dropM (j d : Nat) : SL → SL
  | [] => []
  | (s, x) :: r => (s, bif Nat.blt s OB && (mentA j x && !Nat.beq s d) then .any else x) :: dropM j d r
theorem gt_dropM (j d : Nat) : ∀ (L : SL) (t : Nat), gt (dropM j d L) t = bif Nat.blt t OB && (mentA j (gt L t) && !Nat.beq t d) then .any else gt L t
  | [], t => by show A.any = bif _ && (mentA j .any && _) then .any else .any; cases (Nat.blt t OB && (mentA j .any && !Nat.beq t d)) <;> rfl
  | (s, x) :: r, t => by
    show gt ((s, _) :: dropM j d r) t = _
    rw [gt_cons, gt_cons]
    unfold upd
    by_cases h : t = s
    · subst h; rw [if_pos rfl, if_pos rfl]
    · rw [if_neg h, if_neg h, gt_dropM j d r t]
theorem gt_dropM_hi {j d : Nat} (L : SL) {t : Nat} (h : OB ≤ t) : gt (dropM j d L) t = gt L t := by
  rw [gt_dropM]
  have : Nat.blt t OB = false := by
    cases e : Nat.blt t OB with
    | false => rfl
    | true => have : t < OB := by simpa using e
              omega
  rw [this]
  rfl
/-- No variable of the frame knows object j. -/
def noBoxM (j d : Nat) : SL → Bool
  | [] => true
  | (s, x) :: r => (!Nat.blt s OB || (!x.isBox || !(mentA j x && !Nat.beq s d))) && noBoxM j d r
theorem noBoxM_gt {j d : Nat} : ∀ {L : SL}, noBoxM j d L = true → ∀ t, (Nat.blt t OB && (mentA j (gt L t) && !Nat.beq t d)) = true → (gt L t).isBox = false
  | [], _, t, h => by rfl
  | (s, x) :: r, h, t, hm => by
    unfold noBoxM at h
    rw [Bool.and_eq_true] at h
    rw [gt_cons] at hm ⊢
    unfold upd at hm ⊢
    by_cases e : t = s
    · subst e
      rw [if_pos rfl] at hm ⊢
      have h1 := h.1
      rw [Bool.and_eq_true] at hm
      rw [hm.1, hm.2] at h1
      simpa using h1
    · rw [if_neg e] at hm ⊢
      exact noBoxM_gt h.2 t hm
theorem hx_less {L L' : SL} (hl : Low (gt L)) (hk : gt L' HK = gt L HK) (h : ∀ s, gt L' s = gt L s ∨ (gt L' s = .any ∧ (gt L s).isBox = false)) : Low (gt L') ∧ ∀ s, hx (gt L') s = hx (gt L) s ∨ (hx (gt L') s = .any ∧ (hx (gt L) s).isBox = false) := by
  have hl' : Low (gt L') := fun t ht => by
    rcases h t with e | ⟨e, _⟩
    · rw [e, hl t ht]
    · exact e
  refine ⟨hl', fun s => ?_⟩
  rcases Nat.lt_or_ge s OB2 with h2 | h2
  · rw [hx_lo h2, hx_lo h2]; exact h s
  · refine .inl ?_
    unfold hx
    rw [hl s h2, hl' s h2]
    simp only
    rw [hk]
section
variable {P : Program} {pins : List Nat} {N : Nat} {Q : Exit → SL → Prop} {L : SL}
/-- The heap, if it is told, knows no local object. -/
def ObP (L : SL) : Prop := ∀ t, OB ≤ t → ∀ j, mentA j (gt L t) = false
theorem ObP.nil : ObP [] := fun _ _ _ => rfl
theorem ObP.cons {s : Nat} {x : A} {L : SL} (h : Nat.blt s OB = true ∨ ∀ j, mentA j x = false) (hr : ObP L) : ObP ((s, x) :: L) := fun t ht j => by
  rw [gt_cons]
  unfold upd
  by_cases e : t = s
  · rw [if_pos e]
    subst e
    rcases h with h | h
    · have : t < OB := by simpa using h
      omega
    · exact h j
  · rw [if_neg e]; exact hr t ht j
theorem ob_box {l : List T} (h : noPt l = true) (j : Nat) : mentA j (.box l) = false := by
  show l.any (mentT j) = false
  cases hb : l.any (mentT j) with
  | false => rfl
  | true =>
    obtain ⟨x, h1, h2⟩ := List.any_eq_true.1 hb
    unfold noPt at h
    have h3 := List.all_eq_true.1 h x h1
    cases x <;> first | (cases h2; done) | (cases h3; done)
def heapP (L : SL) : Prop := (gt L HK = .any ∨ ∃ f, gt L HK = .hp f ∧ pureH f) ∧ ObP L
theorem ObP.fgt {L : SL} {j d : Nat} (h : ObP L) : ObP ((OB + j, .free) :: dropM j d L) := .cons (.inr fun _ => rfl) fun t ht i => by
  rw [gt_dropM_hi L ht]
  exact h t ht i
theorem heap_ment {S : Nat → A} (hlo : Low S) (hh : S HK = .any ∨ ∃ f, S HK = .hp f ∧ pureH f) {j : Nat} (k : Nat) : mentA j (hx S (OB2 + k)) = false := by
  rcases hh with e | ⟨f, e, hp⟩
  · unfold hx
    rw [hlo _ (Nat.le_add_right _ _), e]
    simp only
    split <;> rfl
  · rw [ob2_eq, hx_hp hlo e]
    rcases san_cases (f k) with ⟨l, hl⟩ | hl | hl
    · rw [hl]
      have := pure_san hp k l hl
      cases hb : l.any (mentT j) with
      | false => exact hb
      | true =>
        obtain ⟨x, h1, h2⟩ := List.any_eq_true.1 hb
        have h3 := this x h1
        cases x <;> first | (cases h2; done) | (cases h3; done) | (exfalso; simp only [mentT, Bool.and_eq_true] at h2; have h3 : Nat.blt _ OB = false := h3; rw [h2.1] at h3; cases h3)
    · rw [hl]; rfl
    · rw [hl]; rfl
/-- A slice that was made becomes data. -/
theorem c_frz {c : Code} {L' : SL} (d j : Nat) {E k n : Nat} {l : List T} {rs : List (List D)} (hd : gt L d = .t (.view j 0 E k n)) (hb : gt L (OB + j) = .box l) (hn : n = rs.length) (hl : l = (rs.flatMap id).map .d) (hrk : ∀ r ∈ rs, r.length = k)
    (hc : (Nat.blt d OB && Nat.blt (j + 1) OB && !pins.contains (OB + j) && !pins.contains d && Nat.blt 0 k && noBoxM j d L) = true) (hh : heapP L) (hL : (d, .t (.d (.seq k rs))) :: (OB + j, .free) :: dropM j d L = L') (h : CodeOK P pins N c Q L') : CodeOK P pins N c Q L := by
  subst hL hn
  simp only [Bool.and_eq_true, Bool.not_eq_true', List.contains_eq_mem, decide_eq_false_iff_not] at hc
  obtain ⟨⟨⟨⟨⟨c1, c2⟩, c3⟩, c4⟩, c5⟩, c6⟩ := hc
  have c1 : d < OB := by simpa using c1
  have c2 : j + 1 < OB := by simpa using c2
  have c5 : 0 < k := by simpa using c5
  intro w0 m0 o0 G a w hS
  obtain ⟨hN, hlo, m, o, I⟩ := hS
  have hjd : OB + j ≠ d := by omega
  have hL2 : ∀ s, gt (dropM j d L) s = gt L s ∨ (gt (dropM j d L) s = .any ∧ (gt L s).isBox = false) := fun s => by
    rw [gt_dropM]
    cases hm : (Nat.blt s OB && (mentA j (gt L s) && !Nat.beq s d)) with
    | true => exact .inr ⟨rfl, noBoxM_gt c6 s hm⟩
    | false => exact .inl rfl
  have hk2 : gt (dropM j d L) HK = gt L HK := gt_dropM_hi L (by unfold HK OB; omega)
  obtain ⟨hlo2, hx2⟩ := hx_less hlo hk2 hL2
  have I2 := I.less hx2
  have hdd : gt (dropM j d L) d = .t (.view j 0 E k rs.length) := by
    rw [gt_dropM, hd]
    simp
  have hbb : gt (dropM j d L) (OB + j) = .box l := by
    rcases hL2 (OB + j) with e | ⟨_, e⟩
    · rw [e, hb]
    · rw [hb] at e; cases e
  have hm : ∀ s, s ≠ d → s ≠ OB + j → mentA j (hx (gt (dropM j d L)) s) = false := fun s h1 h2 => by
    rcases Nat.lt_or_ge s OB2 with h3 | h3
    · rw [hx_lo h3]
      rcases Nat.lt_or_ge s OB with h4 | h4
      · rw [gt_dropM]
        have hsd : Nat.beq s d = false := by
          cases hb : Nat.beq s d with
          | false => rfl
          | true => exact absurd (Nat.eq_of_beq_eq_true hb) h1
        have hso : Nat.blt s OB = true := by simpa using h4
        rw [hsd, hso]
        cases hm : mentA j (gt L s) with
        | true => rfl
        | false => exact hm
      · rw [gt_dropM_hi L h4]; exact hh.2 s h4 j
    · obtain ⟨k, rfl⟩ : ∃ k, s = OB2 + k := ⟨s - OB2, by omega⟩
      exact heap_ment hlo2 (by rw [hk2]; exact hh.1) k
  obtain ⟨m', o', J⟩ := I2.frz (j := j) (d := d) (E := E) (k := k) (l := l) (rs := rs) (by omega) c1 c3 c4 (hx_of hdd (by simp)) (hx_of hbb (by simp)) hm c5 hrk hl
  have e1 : OB + j < OB2 := by unfold OB OB2 at *; omega
  have e2 : OB + j ≠ HK := by unfold HK; unfold OB at *; omega
  refine h w0 m0 o0 G a w ⟨hN, ?_, m', o', ?_⟩
  · rw [gt_cons, gt_cons]
    exact (hlo2.upd e1).upd (lt2 c1)
  · rw [gt_cons, gt_cons, hx_updL (lt2 c1) (by unfold HK; unfold OB at c1; omega), hx_updL e1 e2]
    exact J
/-- A local object is forgotten: it may be made anew. -/
theorem c_fgt {c : Code} {L' : SL} (j : Nat) (hc : (Nat.blt (j + 1) OB && !pins.contains (OB + j) && noBoxM j HK L) = true) (hh : heapP L) (hL : (OB + j, .free) :: dropM j HK L = L') (h : CodeOK P pins N c Q L') : CodeOK P pins N c Q L := by
  subst hL
  simp only [Bool.and_eq_true, Bool.not_eq_true', List.contains_eq_mem, decide_eq_false_iff_not] at hc
  obtain ⟨⟨c2, c3⟩, c6⟩ := hc
  have c2 : j + 1 < OB := by simpa using c2
  intro w0 m0 o0 G a w hS
  obtain ⟨hN, hlo, m, o, I⟩ := hS
  have hL2 : ∀ s, gt (dropM j HK L) s = gt L s ∨ (gt (dropM j HK L) s = .any ∧ (gt L s).isBox = false) := fun s => by
    rw [gt_dropM]
    cases hm : (Nat.blt s OB && (mentA j (gt L s) && !Nat.beq s HK)) with
    | true => exact .inr ⟨rfl, noBoxM_gt c6 s hm⟩
    | false => exact .inl rfl
  have hk2 : gt (dropM j HK L) HK = gt L HK := gt_dropM_hi L (by unfold HK OB; omega)
  obtain ⟨hlo2, hx2⟩ := hx_less hlo hk2 hL2
  have I2 := I.less hx2
  have hm : ∀ s, mentA j (hx (gt (dropM j HK L)) s) = false := fun s => by
    rcases Nat.lt_or_ge s OB2 with h3 | h3
    · rw [hx_lo h3]
      rcases Nat.lt_or_ge s OB with h4 | h4
      · rw [gt_dropM]
        have hsd : Nat.beq s HK = false := by
          cases hb : Nat.beq s HK with
          | false => rfl
          | true => have := Nat.eq_of_beq_eq_true hb
                    unfold HK at this; unfold OB at h4
                    omega
        have hso : Nat.blt s OB = true := by simpa using h4
        rw [hsd, hso]
        cases hm : mentA j (gt L s) with
        | true => rfl
        | false => exact hm
      · rw [gt_dropM_hi L h4]; exact hh.2 s h4 j
    · obtain ⟨k, rfl⟩ : ∃ k, s = OB2 + k := ⟨s - OB2, by omega⟩
      exact heap_ment hlo2 (by rw [hk2]; exact hh.1) k
  have e1 : OB + j < OB2 := by unfold OB OB2 at *; omega
  have e2 : OB + j ≠ HK := by unfold HK; unfold OB at *; omega
  refine h w0 m0 o0 G a w ⟨hN, ?_, m, dropO o j, ?_⟩
  · rw [gt_cons]
    exact hlo2.upd e1
  · rw [gt_cons, hx_updL e1 e2]
    exact I2.forget (by omega) c3 hm
end
end Go.Proofs.YtimdogdplphmoaaDoor
