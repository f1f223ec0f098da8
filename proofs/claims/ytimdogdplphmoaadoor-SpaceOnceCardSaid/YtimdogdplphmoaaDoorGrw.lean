/-
  append onto a slice of an object: the object grows, or its cells move to a new block.
-/
import Derived.Test.YtimdogdplphmoaaDoorGho
namespace Go.Proofs.YtimdogdplphmoaaDoor
open Go Go.RowKit
set_option linter.unusedVariables false

section
variable {P : Program}
theorem run_app4 (w : World) {t e sz nb : Nat} (E : ElemOf P t e sz nb) (ty : TypeId) (A' : Option Addr) (n c : Nat) (xs : List Value) (hx : xs.length = n * sz) (hnc : n ≤ c) (hcm : c ≤ maxLen)
    (hA : c = 0 ∨ ∃ (g : Nat) (cur : Array Value), A' = some ⟨g, 0, none⟩ ∧ w.heap[g]? = some (.cells cur e (0, 0)) ∧ c * sz ≤ cur.size ∧ cur.toList.take (n * sz) = xs)
    (B' : Option Addr) (k c' : Nat) (news : List Value) (hk : 0 < k) (hl : news.length = k * sz) (hnews : Row w B' news) (h1 : ∀ u ∈ news, u.oneCell' = true) (hb : (n + k) * nb ≤ 140737488355328) :
    ∃ (A2 : Option Addr) (c2 : Nat) (w' : World), (Builtin.append_ #[t, t] ty #[.slice A' n c, .slice B' k c']).run P w = .ok (.slice A2 (n + k) c2) w' ∧ n + k ≤ c2 ∧ c2 ≤ maxLen ∧ ∃ cur' : Array Value, c2 * sz ≤ cur'.size ∧ cur'.toList.take ((n + k) * sz) = xs ++ news ∧
      ((∃ (g : Nat) (cur : Array Value), A' = some ⟨g, 0, none⟩ ∧ A2 = A' ∧ c ≠ 0 ∧ w.heap[g]? = some (.cells cur e (0, 0)) ∧ w' = w.setRow g cur' ∧ cur'.size = cur.size) ∨
       (A2 = some ⟨w.heap.size, 0, none⟩ ∧ w' = w.drew.alloc (.cells cur' e))) := by
  obtain ⟨i, z, hi, hz, rfl, rfl, hzs⟩ := E.info
  have h63 : n + k ≤ maxLen := by
    have := Nat.le_mul_of_pos_right (n + k) E.posb
    unfold maxLen; omega
  have hsmall : n + k ≤ 9223372036854775807 := by simp only [maxLen] at h63; omega
  have hpos : 0 < news.length := by rw [hl]; exact Nat.mul_pos hk E.pos
  cases B' with
  | none =>
    cases news with
    | nil => simp at hpos
    | cons u r =>
      obtain ⟨ad, h, _⟩ := hnews 0 u rfl
      cases h
  | some ad =>
    have hcells : ∀ j u, news[j]? = some u → w.cell? (ad.add j) = some u := by
      intro j u hu
      obtain ⟨ad', h, hc⟩ := hnews j u hu
      injection h with h
      subst h
      exact hc
    have hlen : (xs ++ news).length = (n + k) * i.size := by rw [List.length_append, hx, hl, Nat.add_mul]
    have grown : ∀ (old : Nat), old < n + k → (Builtin.append_ #[t, t] ty #[.slice A' n c, .slice (some ad) k c']).run P w = .ok (.slice (some ⟨w.heap.size, 0, none⟩) (n + k) (grownCap w (n + k) old e)) (w.drew.alloc (.cells (xs.toArray ++ news.toArray ++ Builtin.zeroCells z.cells (grownCap w (n + k) old e - (n + k))) e)) →
      ∃ (A2 : Option Addr) (c2 : Nat) (w' : World), (Builtin.append_ #[t, t] ty #[.slice A' n c, .slice (some ad) k c']).run P w = .ok (.slice A2 (n + k) c2) w' ∧ n + k ≤ c2 ∧ c2 ≤ maxLen ∧ ∃ cur' : Array Value, c2 * i.size ≤ cur'.size ∧ cur'.toList.take ((n + k) * i.size) = xs ++ news ∧
      ((∃ (g : Nat) (cur : Array Value), A' = some ⟨g, 0, none⟩ ∧ A2 = A' ∧ c ≠ 0 ∧ w.heap[g]? = some (.cells cur e (0, 0)) ∧ w' = w.setRow g cur' ∧ cur'.size = cur.size) ∨
       (A2 = some ⟨w.heap.size, 0, none⟩ ∧ w' = w.drew.alloc (.cells cur' e))) := by
      intro old ho hr
      have hge := grownCap_ge w (n + k) old e
      have hcm : grownCap w (n + k) old e ≤ maxLen := grownCap_le_maxLen w (n + k) old e h63
      refine ⟨_, _, _, hr, hge, hcm, _, ?_, ?_, .inr ⟨rfl, rfl⟩⟩
      · simp only [Array.size_append, List.size_toArray, size_zeroCells, hzs, hx, hl, ← Nat.add_mul]
        exact Nat.mul_le_mul_right _ (by omega)
      · simp only [Array.toList_append, List.append_assoc]
        rw [← List.append_assoc, ← hlen]
        exact List.take_left
    rcases hA with h0 | ⟨g, cur, rfl, hg, hcs, htake⟩
    · have hn0 : n = 0 := by omega
      subst hn0 h0
      have hx0 : xs = [] := List.eq_nil_of_length_eq_zero (by simpa using hx)
      subst hx0
      refine grown 0 (by omega) ?_
      cases A' with
      | none =>
        have hr := run_append_nil (P := P) w t ty e i z E.under hi hz ad k c' news hl hcells (by omega) (by omega) (by have hb := hb; simp only [Nat.zero_add] at hb; omega)
        simp only [Nat.zero_add, List.nil_append, Array.empty_append] at hr ⊢
        exact hr
      | some b =>
        exact run_append_grow (P := P) w t ty e i z E.under hi hz b 0 0 [] (by simp) (fun j u h => by cases h) ad k c' news hl hcells (by omega) (by omega) (growslice_fits (by omega) hb)
    · by_cases hroom : n + k ≤ c
      · have hfit : n * i.size + news.length ≤ cur.size := by
          rw [hl, ← Nat.add_mul]; exact Nat.le_trans (Nat.mul_le_mul_right _ hroom) hcs
        have hr := run_append_room (P := P) w t ty e i E.under hi g n c cur hg ad k c' news hl hcells h1 hroom hfit
        have hsz : (cur.toList.take (n * i.size) ++ news ++ cur.toList.drop (n * i.size + news.length)).toArray.size = cur.size := by
          simp only [List.size_toArray, List.length_append, List.length_take, List.length_drop, Array.length_toList]
          omega
        refine ⟨_, _, _, hr, hroom, hcm, _, ?_, ?_, .inl ⟨g, cur, rfl, rfl, by omega, hg, rfl, hsz⟩⟩
        · rw [hsz]; exact hcs
        · rw [htake, ← hlen]
          exact List.take_left
      · have holds : ∀ j u, xs[j]? = some u → w.cell? ((⟨g, 0, none⟩ : Addr).add j) = some u := by
          intro j u hu
          have hlt : j < n * i.size := by rw [← hx]; exact (List.getElem?_eq_some_iff.1 hu).1
          rw [Addr.add_mid, Nat.zero_add, cell_of_row w g j cur e _ hg]
          rw [← htake, List.getElem?_take, if_pos hlt] at hu
          simpa using hu
        exact grown c (by omega) (run_append_grow (P := P) w t ty e i z E.under hi hz ⟨g, 0, none⟩ n c xs hx holds ad k c' news hl hcells (by omega) (by omega) (growslice_fits (by omega) hb))
end
section
variable {w0 : World} {m0 : Mem} {o0 : OwnM} {G : Nat → Prop} {pins : List Nat} {S M : Nat → A} {a : Act} {w : World} {m : Mem} {o : OwnM} {P : Program} {N : Nat}
/-- A block that nobody owns becomes object j; its cells may have turned. -/
theorem Inv.adopt (I : Inv w0 m0 o0 G pins S a w m o) {j g : Nat} {l : List T} {cs cs' : Array Value} {E : Nat} (hfree : S (OB + j) = .free) (hg : w.heap[g]? = some (.cells cs E (0, 0))) (hsz : cs'.size = cs.size) (ho : o g = none) (hG : G g ∨ w0.heap.size ≤ g) (hm : ∀ p, m g p = none) (hlen : l.length ≤ cs'.size)
    (hc : ∀ (i : Nat) (x : T), l[i]? = some x → ∃ d, x = .d d ∧ ∃ u, cs'[i]? = some u ∧ RepD m d u) :
    Inv w0 m0 o0 G pins (upd S (OB + j) (.box l)) a (w.setRow g cs') m (newO o (OB + j) g) := by
  have hf : ∀ g k, o g ≠ some (OB + j, k) := by have := I.slots (OB + j); rw [hfree] at this; exact this
  have hother : ∀ k, k ≠ g → (w.setRow g cs').heap[k]? = w.heap[k]? := fun k hk => setRow_other w g k cs' hk
  have hS : Same (fun x => G x ∨ w0.heap.size ≤ x) w (w.setRow g cs') := ⟨rfl, rfl, rfl, by simp, fun k _ hk => hother k fun e => hk (by rw [e]; exact hG)⟩
  have hglt : g < w.heap.size := (Array.getElem?_eq_some_iff.1 hg).1
  have hne : ∀ b l, o b = some l → b ≠ g := fun b l h e => by rw [e, ho] at h; cases h
  have hk : ∀ b l, o b = some l → newO o (OB + j) g b = some l := by
    intro b l h
    unfold newO
    rw [if_neg (hne b l h), h, if_neg]
    intro e
    obtain ⟨s, k⟩ := l
    injection e with e
    subst e
    exact hf b k h
  have hk' : ∀ b l, newO o (OB + j) g b = some l → (b = g ∧ l = (OB + j, 0)) ∨ (b ≠ g ∧ o b = some l) := by
    intro b l h
    unfold newO at h
    split at h
    · rename_i e; injection h with h; exact .inl ⟨e, h.symm⟩
    · split at h
      · cases h
      · rename_i e _; exact .inr ⟨e, h⟩
  have hsh : ∀ g', ShpAt w (w.setRow g cs') g' := shp_setRow hg hsz
  have K : Keep (fun l => l.1 = OB + j) m w o m (w.setRow g cs') (newO o (OB + j) g) :=
    ⟨Mle.refl _, fun _ _ _ _ => rfl, fun b l h _ => hother b (hne b l h), fun b l h _ => hk b l h, fun b j' h => hk b _ h, fun b s k hs h => by
      rcases hk' b _ h with ⟨_, e⟩ | ⟨_, e⟩
      · injection e with e _; exact absurd e hs
      · exact ⟨b, k, e⟩, fun g _ _ => hsh g⟩
  refine ⟨I.same.trans hS, fun b p u h => ?_, I.mono, I.old, fun g' l h => ?_, fun g' l h => ?_, fun g1 g2 l h h' => ?_, fun s hs g hg => hk g _ (I.pinned s hs g hg), fun s => ?_, I.defers, I.tbl, I.wide, I.shps.keep I.pinned K.sh⟩
  · have h1 := I.sat b p u h
    have hb : b ≠ g := fun e => by rw [e, hm] at h; cases h
    rw [World.cell?_of_block (w := w) (hother b hb)]
    exact h1
  · rcases hk' g' l h with ⟨e, _⟩ | ⟨_, e⟩
    · subst e; exact hG
    · exact I.own g' l e
  · rcases hk' g' l h with ⟨e, _⟩ | ⟨_, e⟩
    · subst e; exact Nat.lt_of_lt_of_le hglt hS.size
    · exact Nat.lt_of_lt_of_le (I.lt g' l e) hS.size
  · rcases hk' g1 l h with ⟨e, q⟩ | ⟨_, e⟩ <;> rcases hk' g2 l h' with ⟨e', q'⟩ | ⟨_, e'⟩
    · rw [e, e']
    · subst q; exact absurd e' (hf _ _)
    · subst q'; exact absurd e (hf _ _)
    · exact I.inj _ _ _ e e'
  · by_cases e : s = OB + j
    · subst e
      rw [upd_same]
      refine ⟨g, fun h => absurd h (by omega), newO_same _ _ _, hm, cs', E, setRow_heap w g cs cs' E _ hg, hlen, fun i x hi => ?_⟩
      obtain ⟨d, rfl, u, h2, h3⟩ := hc i x hi
      exact ⟨rfl, u, h2, h3⟩
    · rw [upd_other e]
      exact RepA.keep K (fun _ => e) (fun b off _ hb => ⟨fun e' => by have : b = OB + j := e'; omega, fun ⟨l', hl'⟩ => ⟨l', by rw [upd_other (by omega), hl']⟩⟩) (I.slots s)
/-- append onto a slice whose cells nobody owns: what comes out is object j. -/
theorem app_obj (I : Inv w0 m0 o0 G pins S a w m o) {t e sz nb : Nat} (E : ElemOf P t e sz nb) (ty : TypeId) {j d : Nat} (hd : d < a.tmps.size) (hdO : d < OB) (hbox : (S d).isBox = false) (hfree : S (OB + j) = .free)
    {A' : Option Addr} {c : Nat} {l : List (List D)} {xs : List Value} (hnc : l.length ≤ c) (hcm : c ≤ maxLen) (hrows : RowsR m sz l xs)
    (hA : c = 0 ∨ ∃ (g : Nat) (cur : Array Value), A' = some ⟨g, 0, none⟩ ∧ w.heap[g]? = some (.cells cur e (0, 0)) ∧ c * sz ≤ cur.size ∧ cur.toList.take (l.length * sz) = xs ∧ o g = none ∧ (G g ∨ w0.heap.size ≤ g) ∧ ∀ p, m g p = none)
    {l' : List (List D)} {v' : Value} (hv' : RepD m (.seq sz l') v') (hpos : 0 < l'.length) (hb : (l.length + l'.length) * nb ≤ 140737488355328) :
    ∃ v w' o', (Builtin.append_ #[t, t] ty #[.slice A' l.length c, v']).run P w = .ok v w' ∧ Inv w0 m0 o0 G pins (upd (upd S (OB + j) (.box (((l ++ l').flatMap id).map .d))) d (.t (.view j 0 e sz (l ++ l').length))) (a.put (some d) v) w' m o' := by
  obtain ⟨B', c', news, rfl, _, _, hr', h1, hm'⟩ := hv'.rows
  have hnews : Row w B' news := by
    intro j u hu
    obtain ⟨g, p, e, hmm⟩ := hm' j u hu
    exact ⟨_, e, by rw [Addr.add_mid]; exact I.sat _ _ _ hmm⟩
  obtain ⟨A2, c2, w', hrun, q1, q2, cur', q3, q4, hcase⟩ := run_app4 (P := P) w E ty A' l.length c xs hrows.1 hnc hcm (hA.imp id fun ⟨g, cur, z1, z2, z3, z4, _⟩ => ⟨g, cur, z1, z2, z3, z4⟩) B' l'.length c' news hpos hr'.1 hnews h1 hb
  have hrr := hrows.append hr'
  have hwid : ∀ r ∈ l ++ l', r.length = sz := fun r hr => by
    obtain ⟨i, hi⟩ := List.getElem?_of_mem hr
    exact hrr.2.1 i r hi
  have hlen : (((l ++ l').flatMap id).map T.d).length = (l.length + l'.length) * sz := by rw [List.length_map, fl_len_of hwid, List.length_append]
  have hlen2 : (((l ++ l').flatMap id).map T.d).length ≤ cur'.size := by
    rw [hlen]
    exact Nat.le_trans (Nat.mul_le_mul_right _ q1) q3
  have hcell : ∀ (i : Nat) (x : T), (((l ++ l').flatMap id).map T.d)[i]? = some x → ∃ d, x = .d d ∧ ∃ u, cur'[i]? = some u ∧ RepD m d u := by
    intro i x hi
    have hlt : i < (l.length + l'.length) * sz := by rw [← hlen]; exact (List.getElem?_eq_some_iff.1 hi).1
    have hp : 0 < sz := E.pos
    have hi1 : i / sz < (l ++ l').length := by rw [List.length_append]; exact Nat.div_lt_of_lt_mul (by rw [Nat.mul_comm]; exact hlt)
    have hi2 : i % sz < sz := Nat.mod_lt _ hp
    have he : i / sz * sz + i % sz = i := by rw [Nat.mul_comm]; exact Nat.div_add_mod i sz
    obtain ⟨r, hr⟩ : ∃ r, (l ++ l')[i / sz]? = some r := ⟨_, List.getElem?_eq_getElem hi1⟩
    have hrl : r.length = sz := hwid r (List.mem_of_getElem? hr)
    obtain ⟨dd, hdd⟩ : ∃ dd, r[i % sz]? = some dd := ⟨_, List.getElem?_eq_getElem (by rw [hrl]; exact hi2)⟩
    have h2 := fl_cell_of hwid hr hi2
    rw [he, hdd] at h2
    rw [List.getElem?_map, h2] at hi
    injection hi with hi
    subst hi
    obtain ⟨u, k1, k2⟩ := hrr.2.2 _ r _ dd hr hdd
    rw [he, ← q4, List.getElem?_take, if_pos hlt] at k1
    exact ⟨dd, rfl, u, by simpa using k1, k2⟩
  have hll : (l ++ l').length = l.length + l'.length := List.length_append
  rcases hcase with ⟨g, cur, rfl, rfl, hc0, hg, rfl, hsz⟩ | ⟨rfl, rfl⟩
  · obtain ⟨g', cur2, z1, z2, z3, z4, z5, z6, z7⟩ := hA.resolve_left hc0
    injection z1 with z1
    injection z1 with z1
    subst z1
    have J := I.adopt (j := j) hfree hg hsz z5 z6 z7 hlen2 hcell
    refine ⟨_, _, _, hrun, J.set d _ _ hd (by rw [upd_other (by omega)]; exact hbox) ?_⟩
    rw [hll]
    exact ⟨_, c2, q1, q2, rfl, .inr ⟨g, cur', newO_same _ _ _, rfl, setRow_heap w g cur cur' e _ hg, by rw [Nat.zero_add]; exact q3⟩⟩
  · have J := I.drew.obj_new (j := j) (E := e) hfree hlen2 (fun i x hi => by
      obtain ⟨dd, rfl, u, k1, k2⟩ := hcell i x hi
      exact ⟨rfl, u, k1, k2⟩)
    refine ⟨_, _, _, hrun, J.set d _ _ hd (by rw [upd_other (by omega)]; exact hbox) ?_⟩
    rw [hll]
    exact ⟨_, c2, q1, q2, rfl, .inr ⟨w.heap.size, cur', newO_same _ _ _, rfl, heap_alloc_new w.drew _, by rw [Nat.zero_add]; exact q3⟩⟩
theorem upd_twice (S : Nat → A) (b : Nat) (x y : A) : upd (upd S b x) b y = upd S b y := by
  funext t
  unfold upd
  split <;> rfl
theorem noPt_d (l : List D) : noPt (l.map T.d) = true := by
  unfold noPt
  rw [List.all_map]
  exact List.all_eq_true.2 fun _ _ => rfl
/-- append onto a slice of object j. S1: as S, but only the object itself tells of j. -/
theorem ok_apg (hM : Mk M S) {op : Oper} {d j E k nb t : Nat} {x y : Operand} {l l' : List (List D)} {S1 : Nat → A} (hop : op.op = .call { callee := .builtin .append, args := #[x, y], argTypes := #[t, t] }) (hd : op.dst = some d) (hok : okD N pins S d = true) (hdO : d < OB) (hE : elF P t = some (E, k, nb))
    (hj : j < OB) (hp : OB + j ∉ pins) (hx : cpO M x = .t (.view j 0 E k l.length)) (hb : S (OB + j) = .box ((l.flatMap id).map .d)) (hrk : ∀ r ∈ l, r.length = k) (hl' : slD k (dO M y) = some l') (hpos : 0 < l'.length) (hbd : (l.length + l'.length) * nb ≤ 140737488355328)
    (hS1 : ∀ s, S1 s = S s ∨ (S1 s = .any ∧ (S s).isBox = false)) (hm : ∀ s, s ≠ OB + j → mentA j (S1 s) = false) :
    OpOK P pins N op S (upd (upd S1 (OB + j) (.box (((l ++ l').flatMap id).map .d))) d (.t (.view j 0 E k (l ++ l').length))) := by
  refine ok_of_run fun w0 m0 o0 G a w m o hN I => ?_
  obtain ⟨h1, h2, h3⟩ := okD_iff hok
  have hv' : RepD m (.seq k l') (a.eval y) := slD_rep hl' fun d hd => dO_rep hM I hd
  have hxr := cpO_rep hM I x 0
  rw [hx] at hxr
  obtain ⟨A', c, q2, q3, q5, q4⟩ := hxr
  have hbs := I.slots (OB + j)
  rw [hb] at hbs
  obtain ⟨g, _, b1, b2, cs, E', b3, b4, b5⟩ := hbs
  have Ek := elF_of hE
  have hlen : ((l.flatMap id).map T.d).length = l.length * k := by rw [List.length_map, fl_len_of hrk]
  rw [hlen] at b4
  have hrows : RowsR m k l (cs.toList.take (l.length * k)) := by
    refine ⟨by have e := Array.length_toList (xs := cs); rw [List.length_take]; omega, fun i r hi => hrk r (List.mem_of_getElem? hi), fun i r q e hi hq => ?_⟩
    have hrl := hrk r (List.mem_of_getElem? hi)
    have hqk : q < k := by rw [← hrl]; exact (List.getElem?_eq_some_iff.1 hq).1
    have hc : ((l.flatMap id).map T.d)[i * k + q]? = some (.d e) := by rw [List.getElem?_map, fl_cell_of hrk hi hqk, hq]; rfl
    have hlt : i * k + q < l.length * k := by rw [← hlen]; exact (List.getElem?_eq_some_iff.1 hc).1
    obtain ⟨_, u, k1, k2⟩ := b5 _ _ hc
    exact ⟨u, by rw [List.getElem?_take, if_pos hlt]; simpa using k1, k2⟩
  have hbb : S1 (OB + j) = .box ((l.flatMap id).map .d) := by
    rcases hS1 (OB + j) with e | ⟨_, e⟩
    · rw [e, hb]
    · rw [hb] at e; cases e
  have J0 := (I.less hS1).forget hj hp fun s => by
    by_cases e : s = OB + j
    · subst e
      rw [hbb]
      exact ob_box (noPt_d _) j
    · exact hm s e
  have hdb : (upd S1 (OB + j) .free d).isBox = false := by
    rw [upd_other (by omega)]
    rcases hS1 d with e | ⟨e, _⟩
    · rw [e]; exact h2
    · rw [e]; rfl
  obtain ⟨v, w', o', hr, J⟩ := app_obj J0 Ek op.type (d := d) (j := j) (by omega) hdO hdb (upd_same _ _ _) q2 q3 hrows (q4.imp id fun ⟨g', cs', z1, z2, z3, z4⟩ => by
    have := I.inj _ _ _ b1 z1
    subst this
    refine ⟨g, cs', z2, z3, by omega, ?_, ?_, I.own g _ b1, b2⟩
    · rw [b3] at z3
      injection z3 with z3
      injection z3 with z3
      rw [z3]
    · cases hdr : dropO o j g with
      | none => rfl
      | some l0 =>
        obtain ⟨y1, y2⟩ := dropO_iff.1 hdr
        rw [b1] at y1
        injection y1 with y1
        exact absurd (by rw [← y1]) y2) hv' hpos hbd
  rw [upd_twice] at J
  refine ⟨v, w', m, o', ?_, by rw [hd]; exact J⟩
  unfold execOp
  rw [hop]
  simp only [resolve, invoke, builtin, Sem.run_bind, Sem.run_pure, Result.andThen_ok, List.map_toArray, List.map_cons, List.map_nil]
  rw [q5, hr]
  rfl
/-- append onto nil, as an object. -/
theorem ok_apg0 (hM : Mk M S) {op : Oper} {d j E k nb t : Nat} {x y : Operand} {l' : List (List D)} (hop : op.op = .call { callee := .builtin .append, args := #[x, y], argTypes := #[t, t] }) (hd : op.dst = some d) (hok : okD N pins S d = true) (hdO : d < OB) (hE : elF P t = some (E, k, nb))
    (hx : vO M x = some (.slice none 0 0)) (hb : S (OB + j) = .free) (hl' : slD k (dO M y) = some l') (hpos : 0 < l'.length) (hbd : l'.length * nb ≤ 140737488355328) :
    OpOK P pins N op S (upd (upd S (OB + j) (.box ((l'.flatMap id).map .d))) d (.t (.view j 0 E k l'.length))) := by
  refine ok_of_run fun w0 m0 o0 G a w m o hN I => ?_
  obtain ⟨h1, h2, h3⟩ := okD_iff hok
  have hv' : RepD m (.seq k l') (a.eval y) := slD_rep hl' fun d hd => dO_rep hM I hd
  obtain ⟨v, w', o', hr, J⟩ := app_obj (l := []) (xs := []) (c := 0) (A' := none) I (elF_of hE) op.type (d := d) (j := j) (by omega) hdO h2 hb (Nat.le_refl _) (Nat.zero_le _) ⟨by simp, fun i r h => by simp at h, fun i r j d h => by simp at h⟩ (.inl rfl) hv' hpos (by simpa using hbd)
  refine ⟨v, w', m, o', ?_, by rw [hd]; exact J⟩
  unfold execOp
  rw [hop]
  simp only [resolve, invoke, builtin, Sem.run_bind, Sem.run_pure, Result.andThen_ok, List.map_toArray, List.map_cons, List.map_nil]
  rw [vO_eq hM I hx]
  simp only [List.length_nil] at hr
  rw [hr]
  rfl
/-- append onto an empty slice whose object is not there. -/
theorem ok_apg1 (hM : Mk M S) {op : Oper} {d j E k nb t : Nat} {x y : Operand} {l' : List (List D)} {S1 : Nat → A} (hop : op.op = .call { callee := .builtin .append, args := #[x, y], argTypes := #[t, t] }) (hd : op.dst = some d) (hok : okD N pins S d = true) (hdO : d < OB) (hE : elF P t = some (E, k, nb))
    (hx : cpO M x = .t (.view j 0 E k 0)) (hb : S (OB + j) = .free) (hl' : slD k (dO M y) = some l') (hpos : 0 < l'.length) (hbd : l'.length * nb ≤ 140737488355328)
    (hS1 : ∀ s, S1 s = S s ∨ (S1 s = .any ∧ (S s).isBox = false)) (hb1 : S1 (OB + j) = .free) :
    OpOK P pins N op S (upd (upd S1 (OB + j) (.box ((l'.flatMap id).map .d))) d (.t (.view j 0 E k l'.length))) := by
  refine ok_of_run fun w0 m0 o0 G a w m o hN I => ?_
  obtain ⟨h1, h2, h3⟩ := okD_iff hok
  have hv' : RepD m (.seq k l') (a.eval y) := slD_rep hl' fun d hd => dO_rep hM I hd
  have hxr := cpO_rep hM I x 0
  rw [hx] at hxr
  obtain ⟨A', c, q2, q3, q5, q4⟩ := hxr
  have hf : ∀ g k, o g ≠ some (OB + j, k) := by have := I.slots (OB + j); rw [hb] at this; exact this
  have hc0 : c = 0 := q4.resolve_right fun ⟨g, cs, z, _⟩ => hf g 0 z
  have hdb : (S1 d).isBox = false := by
    rcases hS1 d with e | ⟨e, _⟩
    · rw [e]; exact h2
    · rw [e]; rfl
  obtain ⟨v, w', o', hr, J⟩ := app_obj (l := []) (xs := []) (c := c) (A' := A') (I.less hS1) (elF_of hE) op.type (d := d) (j := j) (by omega) hdO hdb hb1 q2 q3 ⟨by simp, fun i r h => by simp at h, fun i r j d h => by simp at h⟩ (.inl hc0) hv' hpos (by simpa using hbd)
  refine ⟨v, w', m, o', ?_, by rw [hd]; exact J⟩
  unfold execOp
  rw [hop]
  simp only [resolve, invoke, builtin, Sem.run_bind, Sem.run_pure, Result.andThen_ok, List.map_toArray, List.map_cons, List.map_nil]
  simp only [List.length_nil] at hr
  rw [q5, hr]
  rfl
end
end Go.Proofs.YtimdogdplphmoaaDoor
