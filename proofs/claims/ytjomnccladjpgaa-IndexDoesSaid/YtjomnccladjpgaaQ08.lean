/-
  Texts joined: see the remark at the head of each part.
-/
import Derived.Test.YtjomnccladjpgaaQ07
import Derived.Laws.CopyRow
set_option linter.unusedVariables false
set_option linter.unusedSimpArgs false
/-
  append onto a slice of an object: the object grows, or its cells move to a new block.
-/
namespace Go.Proofs.Ytjomnccladjpgaa
open Go Go.RowKit
set_option linter.unusedVariables false

section
variable {P : Program}
theorem run_app4 (w : World) {t e sz nb : Nat} (E : ElemOf P t e sz nb) (ty : TypeId) (A' : Option Addr) (n c : Nat) (xs : List Value) (hx : xs.length = n * sz) (hnc : n ≤ c) (hcm : c ≤ maxLen)
    (hA : c = 0 ∨ ∃ (g : Nat) (cur : Array Value), A' = some ⟨g, 0, none⟩ ∧ w.heap[g]? = some (.cells cur e (0, 0)) ∧ c * sz ≤ cur.size ∧ cur.toList.take (n * sz) = xs)
    (B' : Option Addr) (k c' : Nat) (news : List Value) (hk : 0 < k) (hl : news.length = k * sz) (hnews : Row w B' news) (h1 : ∀ u ∈ news, u.oneCell' = true) (hb : (n + k) * nb ≤ 140737488355328) :
    ∃ (A2 : Option Addr) (c2 : Nat) (w' : World), (Builtin.append_ #[t, t] ty #[.slice A' n c, .slice B' k c']).run P w = .ok (.slice A2 (n + k) c2) w' ∧ n + k ≤ c2 ∧ c2 ≤ maxLen ∧ ∃ cur' : Array Value, c2 * sz ≤ cur'.size ∧ cur'.toList.take ((n + k) * sz) = xs ++ news ∧
      ((∃ (g : Nat) (cur : Array Value), A' = some ⟨g, 0, none⟩ ∧ A2 = A' ∧ c ≠ 0 ∧ w.heap[g]? = some (.cells cur e (0, 0)) ∧ w' = w.setRow g cur' ∧ cur'.size = cur.size) ∨
       (A2 = some ⟨w.heap.size, 0, none⟩ ∧ w' = w.drew.alloc (.cells cur' e))) := by
  obtain ⟨i, z, hi, hz, rfl, rfl, hzs⟩ := E.info
  have h63 : n + k ≤ maxLen := by
    have := Nat.le_mul_of_pos_right (n + k) E.posb
    unfold maxLen; omega
  have hsmall : n + k ≤ 9223372036854775807 := by simp only [maxLen] at h63; omega
  have hpos : 0 < news.length := by rw [hl]; exact Nat.mul_pos hk E.pos
  cases B' with
  | none =>
    cases news with
    | nil => simp at hpos
    | cons u r =>
      obtain ⟨ad, h, _⟩ := hnews 0 u rfl
      cases h
  | some ad =>
    have hcells : ∀ j u, news[j]? = some u → w.cell? (ad.add j) = some u := by
      intro j u hu
      obtain ⟨ad', h, hc⟩ := hnews j u hu
      injection h with h
      subst h
      exact hc
    have hlen : (xs ++ news).length = (n + k) * i.size := by rw [List.length_append, hx, hl, Nat.add_mul]
    have grown : ∀ (old : Nat), old < n + k → (Builtin.append_ #[t, t] ty #[.slice A' n c, .slice (some ad) k c']).run P w = .ok (.slice (some ⟨w.heap.size, 0, none⟩) (n + k) (grownCap w (n + k) old e)) (w.drew.alloc (.cells (xs.toArray ++ news.toArray ++ Builtin.zeroCells z.cells (grownCap w (n + k) old e - (n + k))) e)) →
      ∃ (A2 : Option Addr) (c2 : Nat) (w' : World), (Builtin.append_ #[t, t] ty #[.slice A' n c, .slice (some ad) k c']).run P w = .ok (.slice A2 (n + k) c2) w' ∧ n + k ≤ c2 ∧ c2 ≤ maxLen ∧ ∃ cur' : Array Value, c2 * i.size ≤ cur'.size ∧ cur'.toList.take ((n + k) * i.size) = xs ++ news ∧
      ((∃ (g : Nat) (cur : Array Value), A' = some ⟨g, 0, none⟩ ∧ A2 = A' ∧ c ≠ 0 ∧ w.heap[g]? = some (.cells cur e (0, 0)) ∧ w' = w.setRow g cur' ∧ cur'.size = cur.size) ∨
       (A2 = some ⟨w.heap.size, 0, none⟩ ∧ w' = w.drew.alloc (.cells cur' e))) := by
      intro old ho hr
      have hge := grownCap_ge w (n + k) old e
      have hcm : grownCap w (n + k) old e ≤ maxLen := grownCap_le_maxLen w (n + k) old e h63
      refine ⟨_, _, _, hr, hge, hcm, _, ?_, ?_, .inr ⟨rfl, rfl⟩⟩
      · simp only [Array.size_append, List.size_toArray, size_zeroCells, hzs, hx, hl, ← Nat.add_mul]
        exact Nat.mul_le_mul_right _ (by omega)
      · simp only [Array.toList_append, List.append_assoc]
        rw [← List.append_assoc, ← hlen]
        exact List.take_left
    rcases hA with h0 | ⟨g, cur, rfl, hg, hcs, htake⟩
    · have hn0 : n = 0 := by omega
      subst hn0 h0
      have hx0 : xs = [] := List.eq_nil_of_length_eq_zero (by simpa using hx)
      subst hx0
      refine grown 0 (by omega) ?_
      cases A' with
      | none =>
        have hr := run_append_nil (P := P) w t ty e i z E.under hi hz ad k c' news hl hcells (by omega) (by omega) (by have hb := hb; simp only [Nat.zero_add] at hb; omega)
        simp only [Nat.zero_add, List.nil_append, Array.empty_append] at hr ⊢
        exact hr
      | some b =>
        exact run_append_grow (P := P) w t ty e i z E.under hi hz b 0 0 [] (by simp) (fun j u h => by cases h) ad k c' news hl hcells (by omega) (by omega) (growslice_fits (by omega) hb)
    · by_cases hroom : n + k ≤ c
      · have hfit : n * i.size + news.length ≤ cur.size := by
          rw [hl, ← Nat.add_mul]; exact Nat.le_trans (Nat.mul_le_mul_right _ hroom) hcs
        have hr := run_append_room (P := P) w t ty e i E.under hi g n c cur hg ad k c' news hl hcells h1 hroom hfit
        have hsz : (cur.toList.take (n * i.size) ++ news ++ cur.toList.drop (n * i.size + news.length)).toArray.size = cur.size := by
          simp only [List.size_toArray, List.length_append, List.length_take, List.length_drop, Array.length_toList]
          omega
        refine ⟨_, _, _, hr, hroom, hcm, _, ?_, ?_, .inl ⟨g, cur, rfl, rfl, by omega, hg, rfl, hsz⟩⟩
        · rw [hsz]; exact hcs
        · rw [htake, ← hlen]
          exact List.take_left
      · have holds : ∀ j u, xs[j]? = some u → w.cell? ((⟨g, 0, none⟩ : Addr).add j) = some u := by
          intro j u hu
          have hlt : j < n * i.size := by rw [← hx]; exact (List.getElem?_eq_some_iff.1 hu).1
          rw [Addr.add_mid, Nat.zero_add, cell_of_row w g j cur e _ hg]
          rw [← htake, List.getElem?_take, if_pos hlt] at hu
          simpa using hu
        exact grown c (by omega) (run_append_grow (P := P) w t ty e i z E.under hi hz ⟨g, 0, none⟩ n c xs hx holds ad k c' news hl hcells (by omega) (by omega) (growslice_fits (by omega) hb))
end
section
variable {w0 : World} {m0 : Mem} {o0 : OwnM} {G : Nat → Prop} {pins : List Nat} {S M : Nat → A} {a : Act} {w : World} {m : Mem} {o : OwnM} {P : Program} {N : Nat}
/-- A block that nobody owns becomes object j; its cells may have turned. -/
theorem Inv.adopt (I : Inv w0 m0 o0 G pins S a w m o) {j g : Nat} {l : List T} {cs cs' : Array Value} {E : Nat} (hfree : S (OB + j) = .free) (hg : w.heap[g]? = some (.cells cs E (0, 0))) (hsz : cs'.size = cs.size) (ho : o g = none) (hG : G g ∨ w0.heap.size ≤ g) (hm : ∀ p, m g p = none) (hlen : l.length ≤ cs'.size)
    (hc : ∀ (i : Nat) (x : T), l[i]? = some x → ∃ d, x = .d d ∧ ∃ u, cs'[i]? = some u ∧ RepD m d u) :
    Inv w0 m0 o0 G pins (upd S (OB + j) (.box l)) a (w.setRow g cs') m (newO o (OB + j) g) := by
  have hf : ∀ g k, o g ≠ some (OB + j, k) := by have := I.slots (OB + j); rw [hfree] at this; exact this
  have hother : ∀ k, k ≠ g → (w.setRow g cs').heap[k]? = w.heap[k]? := fun k hk => setRow_other w g k cs' hk
  have hS : Same (fun x => G x ∨ w0.heap.size ≤ x) w (w.setRow g cs') := ⟨rfl, rfl, rfl, by simp, fun k _ hk => hother k fun e => hk (by rw [e]; exact hG)⟩
  have hglt : g < w.heap.size := (Array.getElem?_eq_some_iff.1 hg).1
  have hne : ∀ b l, o b = some l → b ≠ g := fun b l h e => by rw [e, ho] at h; cases h
  have hk : ∀ b l, o b = some l → newO o (OB + j) g b = some l := by
    intro b l h
    unfold newO
    rw [if_neg (hne b l h), h, if_neg]
    intro e
    obtain ⟨s, k⟩ := l
    injection e with e
    subst e
    exact hf b k h
  have hk' : ∀ b l, newO o (OB + j) g b = some l → (b = g ∧ l = (OB + j, 0)) ∨ (b ≠ g ∧ o b = some l) := by
    intro b l h
    unfold newO at h
    split at h
    · rename_i e; injection h with h; exact .inl ⟨e, h.symm⟩
    · split at h
      · cases h
      · rename_i e _; exact .inr ⟨e, h⟩
  have hsh : ∀ g', ShpAt w (w.setRow g cs') g' := shp_setRow hg hsz
  have K : Keep (fun l => l.1 = OB + j) m w o m (w.setRow g cs') (newO o (OB + j) g) :=
    ⟨Mle.refl _, fun _ _ _ _ => rfl, fun b l h _ => hother b (hne b l h), fun b l h _ => hk b l h, fun b j' h => hk b _ h, fun b s k hs h => by
      rcases hk' b _ h with ⟨_, e⟩ | ⟨_, e⟩
      · injection e with e _; exact absurd e hs
      · exact ⟨b, k, e⟩, fun g _ _ => hsh g⟩
  refine ⟨I.same.trans hS, fun b p u h => ?_, I.mono, I.old, fun g' l h => ?_, fun g' l h => ?_, fun g1 g2 l h h' => ?_, fun s hs g hg => hk g _ (I.pinned s hs g hg), fun s => ?_, I.defers, I.tbl, I.wide, I.shps.keep I.pinned K.sh⟩
  · have h1 := I.sat b p u h
    have hb : b ≠ g := fun e => by rw [e, hm] at h; cases h
    rw [World.cell?_of_block (w := w) (hother b hb)]
    exact h1
  · rcases hk' g' l h with ⟨e, _⟩ | ⟨_, e⟩
    · subst e; exact hG
    · exact I.own g' l e
  · rcases hk' g' l h with ⟨e, _⟩ | ⟨_, e⟩
    · subst e; exact Nat.lt_of_lt_of_le hglt hS.size
    · exact Nat.lt_of_lt_of_le (I.lt g' l e) hS.size
  · rcases hk' g1 l h with ⟨e, q⟩ | ⟨_, e⟩ <;> rcases hk' g2 l h' with ⟨e', q'⟩ | ⟨_, e'⟩
    · rw [e, e']
    · subst q; exact absurd e' (hf _ _)
    · subst q'; exact absurd e (hf _ _)
    · exact I.inj _ _ _ e e'
  · by_cases e : s = OB + j
    · subst e
      rw [upd_same]
      refine ⟨g, fun h => absurd h (by omega), newO_same _ _ _, hm, cs', E, setRow_heap w g cs cs' E _ hg, hlen, fun i x hi => ?_⟩
      obtain ⟨d, rfl, u, h2, h3⟩ := hc i x hi
      exact ⟨rfl, u, h2, h3⟩
    · rw [upd_other e]
      exact RepA.keep K (fun _ => e) (fun b off _ hb => ⟨fun e' => by have : b = OB + j := e'; omega, fun ⟨l', hl'⟩ => ⟨l', by rw [upd_other (by omega), hl']⟩⟩) (I.slots s)
/-- append onto a slice whose cells nobody owns: what comes out is object j. -/
theorem app_obj (I : Inv w0 m0 o0 G pins S a w m o) {t e sz nb : Nat} (E : ElemOf P t e sz nb) (ty : TypeId) {j d : Nat} (hd : d < a.tmps.size) (hdO : d < OB) (hbox : (S d).isBox = false) (hfree : S (OB + j) = .free)
    {A' : Option Addr} {c : Nat} {l : List (List D)} {xs : List Value} (hnc : l.length ≤ c) (hcm : c ≤ maxLen) (hrows : RowsR m sz l xs)
    (hA : c = 0 ∨ ∃ (g : Nat) (cur : Array Value), A' = some ⟨g, 0, none⟩ ∧ w.heap[g]? = some (.cells cur e (0, 0)) ∧ c * sz ≤ cur.size ∧ cur.toList.take (l.length * sz) = xs ∧ o g = none ∧ (G g ∨ w0.heap.size ≤ g) ∧ ∀ p, m g p = none)
    {l' : List (List D)} {v' : Value} (hv' : RepD m (.seq sz l') v') (hpos : 0 < l'.length) (hb : (l.length + l'.length) * nb ≤ 140737488355328) :
    ∃ v w' o', (Builtin.append_ #[t, t] ty #[.slice A' l.length c, v']).run P w = .ok v w' ∧ Inv w0 m0 o0 G pins (upd (upd S (OB + j) (.box (((l ++ l').flatMap id).map .d))) d (.t (.view j 0 e sz (l ++ l').length))) (a.put (some d) v) w' m o' := by
  obtain ⟨B', c', news, rfl, _, _, hr', h1, hm'⟩ := hv'.rows
  have hnews : Row w B' news := by
    intro j u hu
    obtain ⟨g, p, e, hmm⟩ := hm' j u hu
    exact ⟨_, e, by rw [Addr.add_mid]; exact I.sat _ _ _ hmm⟩
  obtain ⟨A2, c2, w', hrun, q1, q2, cur', q3, q4, hcase⟩ := run_app4 (P := P) w E ty A' l.length c xs hrows.1 hnc hcm (hA.imp id fun ⟨g, cur, z1, z2, z3, z4, _⟩ => ⟨g, cur, z1, z2, z3, z4⟩) B' l'.length c' news hpos hr'.1 hnews h1 hb
  have hrr := hrows.append hr'
  have hwid : ∀ r ∈ l ++ l', r.length = sz := fun r hr => by
    obtain ⟨i, hi⟩ := List.getElem?_of_mem hr
    exact hrr.2.1 i r hi
  have hlen : (((l ++ l').flatMap id).map T.d).length = (l.length + l'.length) * sz := by rw [List.length_map, fl_len_of hwid, List.length_append]
  have hlen2 : (((l ++ l').flatMap id).map T.d).length ≤ cur'.size := by
    rw [hlen]
    exact Nat.le_trans (Nat.mul_le_mul_right _ q1) q3
  have hcell : ∀ (i : Nat) (x : T), (((l ++ l').flatMap id).map T.d)[i]? = some x → ∃ d, x = .d d ∧ ∃ u, cur'[i]? = some u ∧ RepD m d u := by
    intro i x hi
    have hlt : i < (l.length + l'.length) * sz := by rw [← hlen]; exact (List.getElem?_eq_some_iff.1 hi).1
    have hp : 0 < sz := E.pos
    have hi1 : i / sz < (l ++ l').length := by rw [List.length_append]; exact Nat.div_lt_of_lt_mul (by rw [Nat.mul_comm]; exact hlt)
    have hi2 : i % sz < sz := Nat.mod_lt _ hp
    have he : i / sz * sz + i % sz = i := by rw [Nat.mul_comm]; exact Nat.div_add_mod i sz
    obtain ⟨r, hr⟩ : ∃ r, (l ++ l')[i / sz]? = some r := ⟨_, List.getElem?_eq_getElem hi1⟩
    have hrl : r.length = sz := hwid r (List.mem_of_getElem? hr)
    obtain ⟨dd, hdd⟩ : ∃ dd, r[i % sz]? = some dd := ⟨_, List.getElem?_eq_getElem (by rw [hrl]; exact hi2)⟩
    have h2 := fl_cell_of hwid hr hi2
    rw [he, hdd] at h2
    rw [List.getElem?_map, h2] at hi
    injection hi with hi
    subst hi
    obtain ⟨u, k1, k2⟩ := hrr.2.2 _ r _ dd hr hdd
    rw [he, ← q4, List.getElem?_take, if_pos hlt] at k1
    exact ⟨dd, rfl, u, by simpa using k1, k2⟩
  have hll : (l ++ l').length = l.length + l'.length := List.length_append
  rcases hcase with ⟨g, cur, rfl, rfl, hc0, hg, rfl, hsz⟩ | ⟨rfl, rfl⟩
  · obtain ⟨g', cur2, z1, z2, z3, z4, z5, z6, z7⟩ := hA.resolve_left hc0
    injection z1 with z1
    injection z1 with z1
    subst z1
    have J := I.adopt (j := j) hfree hg hsz z5 z6 z7 hlen2 hcell
    refine ⟨_, _, _, hrun, J.set d _ _ hd (by rw [upd_other (by omega)]; exact hbox) ?_⟩
    rw [hll]
    exact ⟨_, c2, q1, q2, rfl, .inr ⟨g, cur', e, newO_same _ _ _, rfl, setRow_heap w g cur cur' e _ hg, by rw [Nat.zero_add]; exact q3, .inr rfl⟩⟩
  · have J := I.drew.obj_new (j := j) (E := e) hfree hlen2 (fun i x hi => by
      obtain ⟨dd, rfl, u, k1, k2⟩ := hcell i x hi
      exact ⟨rfl, u, k1, k2⟩)
    refine ⟨_, _, _, hrun, J.set d _ _ hd (by rw [upd_other (by omega)]; exact hbox) ?_⟩
    rw [hll]
    exact ⟨_, c2, q1, q2, rfl, .inr ⟨w.heap.size, cur', e, newO_same _ _ _, rfl, heap_alloc_new w.drew _, by rw [Nat.zero_add]; exact q3, .inr rfl⟩⟩
theorem upd_twice (S : Nat → A) (b : Nat) (x y : A) : upd (upd S b x) b y = upd S b y := by
  funext t
  unfold upd
  split <;> rfl
theorem noPt_d (l : List D) : noPt (l.map T.d) = true := by
  unfold noPt
  rw [List.all_map]
  exact List.all_eq_true.2 fun _ _ => rfl
/-- append onto a slice of object j. S1: as S, but only the object itself tells of j. -/
theorem ok_apg (hM : Mk M S) {op : Oper} {d j E k nb t : Nat} {x y : Operand} {l l' : List (List D)} {S1 : Nat → A} (hop : op.op = .call { callee := .builtin .append, args := #[x, y], argTypes := #[t, t] }) (hd : op.dst = some d) (hok : okD N pins S d = true) (hdO : d < OB) (hE : elF P t = some (E, k, nb))
    (hj : j < OB) (hp : OB + j ∉ pins) (hx : cpO M x = .t (.view j 0 E k l.length)) (hb : S (OB + j) = .box ((l.flatMap id).map .d)) (hrk : ∀ r ∈ l, r.length = k) (hl' : slD k (dO M y) = some l') (hpos : 0 < l'.length) (hbd : (l.length + l'.length) * nb ≤ 140737488355328) (hE0 : Nat.blt 0 E = true)
    (hS1 : ∀ s, S1 s = S s ∨ (S1 s = .any ∧ (S s).isBox = false)) (hm : ∀ s, s ≠ OB + j → mentA j (S1 s) = false) :
    OpOK P pins N op S (upd (upd S1 (OB + j) (.box (((l ++ l').flatMap id).map .d))) d (.t (.view j 0 E k (l ++ l').length))) := by
  refine ok_of_run fun w0 m0 o0 G a w m o hN I => ?_
  obtain ⟨h1, h2, h3⟩ := okD_iff hok
  have hv' : RepD m (.seq k l') (a.eval y) := slD_rep hl' fun d hd => dO_rep hM I hd
  have hxr := cpO_rep hM I x 0
  rw [hx] at hxr
  obtain ⟨A', c, q2, q3, q5, q4⟩ := hxr
  have hbs := I.slots (OB + j)
  rw [hb] at hbs
  obtain ⟨g, _, b1, b2, cs, E', b3, b4, b5⟩ := hbs
  have Ek := elF_of hE
  have hlen : ((l.flatMap id).map T.d).length = l.length * k := by rw [List.length_map, fl_len_of hrk]
  rw [hlen] at b4
  have hrows : RowsR m k l (cs.toList.take (l.length * k)) := by
    refine ⟨by have e := Array.length_toList (xs := cs); rw [List.length_take]; omega, fun i r hi => hrk r (List.mem_of_getElem? hi), fun i r q e hi hq => ?_⟩
    have hrl := hrk r (List.mem_of_getElem? hi)
    have hqk : q < k := by rw [← hrl]; exact (List.getElem?_eq_some_iff.1 hq).1
    have hc : ((l.flatMap id).map T.d)[i * k + q]? = some (.d e) := by rw [List.getElem?_map, fl_cell_of hrk hi hqk, hq]; rfl
    have hlt : i * k + q < l.length * k := by rw [← hlen]; exact (List.getElem?_eq_some_iff.1 hc).1
    obtain ⟨_, u, k1, k2⟩ := b5 _ _ hc
    exact ⟨u, by rw [List.getElem?_take, if_pos hlt]; simpa using k1, k2⟩
  have hbb : S1 (OB + j) = .box ((l.flatMap id).map .d) := by
    rcases hS1 (OB + j) with e | ⟨_, e⟩
    · rw [e, hb]
    · rw [hb] at e; cases e
  have J0 := (I.less hS1).forget hj hp fun s => by
    by_cases e : s = OB + j
    · subst e
      rw [hbb]
      exact ob_box (noPt_d _) j
    · exact hm s e
  have hdb : (upd S1 (OB + j) .free d).isBox = false := by
    rw [upd_other (by omega)]
    rcases hS1 d with e | ⟨e, _⟩
    · rw [e]; exact h2
    · rw [e]; rfl
  obtain ⟨v, w', o', hr, J⟩ := app_obj J0 Ek op.type (d := d) (j := j) (by omega) hdO hdb (upd_same _ _ _) q2 q3 hrows (q4.imp id fun ⟨g', cs', E1, z1, z2, z3, z4, z5⟩ => by
    have := I.inj _ _ _ b1 z1
    subst this
    have hE1 : 0 < E := by simpa using hE0
    have hE2 : E1 = E := z5.resolve_left (by omega)
    rw [hE2] at z3
    refine ⟨g, cs', z2, z3, by omega, ?_, ?_, I.own g _ b1, b2⟩
    · rw [b3] at z3
      injection z3 with z3
      injection z3 with z3
      rw [z3]
    · cases hdr : dropO o j g with
      | none => rfl
      | some l0 =>
        obtain ⟨y1, y2⟩ := dropO_iff.1 hdr
        rw [b1] at y1
        injection y1 with y1
        exact absurd (by rw [← y1]) y2) hv' hpos hbd
  rw [upd_twice] at J
  refine ⟨v, w', m, o', ?_, by rw [hd]; exact J⟩
  unfold execOp
  rw [hop]
  simp only [resolve, invoke, builtin, Sem.run_bind, Sem.run_pure, Result.andThen_ok, List.map_toArray, List.map_cons, List.map_nil]
  rw [q5, hr]
  rfl
/-- append onto an empty slice whose object is not there. -/
theorem ok_apg1 (hM : Mk M S) {op : Oper} {d j E k nb t : Nat} {x y : Operand} {l' : List (List D)} {S1 : Nat → A} (hop : op.op = .call { callee := .builtin .append, args := #[x, y], argTypes := #[t, t] }) (hd : op.dst = some d) (hok : okD N pins S d = true) (hdO : d < OB) (hE : elF P t = some (E, k, nb))
    (hx : cpO M x = .t (.view j 0 E k 0)) (hb : S (OB + j) = .free) (hl' : slD k (dO M y) = some l') (hpos : 0 < l'.length) (hbd : l'.length * nb ≤ 140737488355328)
    (hS1 : ∀ s, S1 s = S s ∨ (S1 s = .any ∧ (S s).isBox = false)) (hb1 : S1 (OB + j) = .free) :
    OpOK P pins N op S (upd (upd S1 (OB + j) (.box ((l'.flatMap id).map .d))) d (.t (.view j 0 E k l'.length))) := by
  refine ok_of_run fun w0 m0 o0 G a w m o hN I => ?_
  obtain ⟨h1, h2, h3⟩ := okD_iff hok
  have hv' : RepD m (.seq k l') (a.eval y) := slD_rep hl' fun d hd => dO_rep hM I hd
  have hxr := cpO_rep hM I x 0
  rw [hx] at hxr
  obtain ⟨A', c, q2, q3, q5, q4⟩ := hxr
  have hf : ∀ g k, o g ≠ some (OB + j, k) := by have := I.slots (OB + j); rw [hb] at this; exact this
  have hc0 : c = 0 := q4.resolve_right fun ⟨g, cs, _, z, _⟩ => hf g 0 z
  have hdb : (S1 d).isBox = false := by
    rcases hS1 d with e | ⟨e, _⟩
    · rw [e]; exact h2
    · rw [e]; rfl
  obtain ⟨v, w', o', hr, J⟩ := app_obj (l := []) (xs := []) (c := c) (A' := A') (I.less hS1) (elF_of hE) op.type (d := d) (j := j) (by omega) hdO hdb hb1 q2 q3 ⟨by simp, fun i r h => by simp at h, fun i r j d h => by simp at h⟩ (.inl hc0) hv' hpos (by simpa using hbd)
  refine ⟨v, w', m, o', ?_, by rw [hd]; exact J⟩
  unfold execOp
  rw [hop]
  simp only [resolve, invoke, builtin, Sem.run_bind, Sem.run_pure, Result.andThen_ok, List.map_toArray, List.map_cons, List.map_nil]
  simp only [List.length_nil] at hr
  rw [q5, hr]
  rfl
end
end Go.Proofs.Ytjomnccladjpgaa

/-
  Slices that grow and are written: an object that need not be there while the slice is empty.
-/
namespace Go.Proofs.Ytjomnccladjpgaa
open Go Go.RowKit
set_option linter.unusedVariables false

/-- What is told of the object: nothing is there while the slice is empty. -/
def gbA {α : Type} (c : α → List D) : List α → A
  | [] => .free
  | a :: l => .box (fl (dT c) (a :: l))
theorem gb_ne {α : Type} {c : α → List D} {y : List α} (h : y ≠ []) : gbA c y = .box (fl (dT c) y) := by
  cases y with
  | nil => exact absurd rfl h
  | cons a l => rfl
theorem ob_gb {α : Type} (c : α → List D) (y : List α) (j : Nat) : mentA j (gbA c y) = false := by
  cases y with
  | nil => rfl
  | cons a l => exact ob_box (fl_noPt c _) j
/-! ### Elements of more than one cell -/
theorem fl_put2 {α : Type} {c : α → List D} {l : List α} {z : Int} {y : α} {k q : Nat} (h : idx l z = some y) (v : α) (hc : ∀ a, (c a).length = k) {x : List T} (hx : splice (dT c y) q x = dT c v) (hq : Nat.ble (q + x.length) k = true) : splice (fl (dT c) l) (0 + z.toNat * k + q) x = fl (dT c) (l.set z.toNat v) := by
  have := fl_splice (c := dT c) (k := k) (dT_len hc) (idx_lt h).2.2 (q := q) (b := v) (d := x) hx (by simpa using hq)
  rw [Nat.zero_add]
  exact this
theorem fl_room2 {α : Type} {c : α → List D} {l : List α} {z : Int} {y : α} {k q n : Nat} (h : idx l z = some y) (hc : ∀ a, (c a).length = k) (hq : Nat.ble (q + n) k = true) : 0 + z.toNat * k + q + n ≤ (fl (dT c) l).length := by
  have h1 := idx_lt h
  rw [fl_len (dT_len hc)]
  have h2 : z.toNat + 1 ≤ l.length := by omega
  have h3 := Nat.mul_le_mul_right k h2
  rw [Nat.succ_mul] at h3
  have h4 : q + n ≤ k := by simpa using hq
  omega
theorem nr_nil {L0 : SL} : noRefsIn L0 [] = true := rfl
theorem nr_cons {L0 : SL} {s : Nat} {x : A} {r : SL} (h : (match x with | .ref b _ => (gt L0 b).isBox | _ => true) = true) (hr : noRefsIn L0 r = true) : noRefsIn L0 ((s, x) :: r) = true := by
  unfold noRefsIn
  rw [Bool.and_eq_true]
  exact ⟨h, hr⟩
theorem nr_gb {α : Type} (L0 : SL) (c : α → List D) (y : List α) : (match gbA c y with | .ref b _ => (gt L0 b).isBox | _ => true) = true := by cases y <;> rfl
theorem nr_of {L : SL} (h : noRefsIn L L = true) : noRefs L = true := h
/-- Only these places may tell of object j. -/
def NoM (j : Nat) (ex : List Nat) (L : SL) : Prop := ∀ s, ex.contains s = false → mentA j (gt L s) = false
theorem NoM.nil {j : Nat} {ex : List Nat} : NoM j ex [] := fun _ _ => rfl
theorem NoM.cons {j : Nat} {ex : List Nat} {s : Nat} {x : A} {L : SL} (h : mentA j x = false) (hr : NoM j (s :: ex) L) : NoM j ex ((s, x) :: L) := fun t ht => by
  rw [gt_cons]
  unfold upd
  by_cases e : t = s
  · rw [if_pos e]; exact h
  · rw [if_neg e]
    exact hr t (by rw [List.contains_cons, ht, Bool.or_false]; exact beq_eq_false_iff_ne.2 e)
theorem NoM.skip {j : Nat} {ex : List Nat} {s : Nat} {x : A} {L : SL} (h : ex.contains s = true) (hr : NoM j ex L) : NoM j ex ((s, x) :: L) := fun t ht => by
  rw [gt_cons]
  unfold upd
  by_cases e : t = s
  · rw [e, h] at ht; cases ht
  · rw [if_neg e]; exact hr t ht
theorem ptT_ment (j t : Nat) (p : Option Nat) : mentA j (.t (ptT t p)) = false := by cases p <;> rfl
def anyE (ss : List Nat) : Eff := ss.map fun s => (s, A.any)
theorem app_any (S : Nat → A) : ∀ (ss : List Nat) (t : Nat), app S (anyE ss) t = if ss.contains t then A.any else S t := by
  intro ss
  induction ss generalizing S with
  | nil => intro t; rfl
  | cons s r ih =>
    intro t
    show app (upd S s .any) (anyE r) t = _
    rw [ih]
    by_cases h : r.contains t = true
    · rw [if_pos h, if_pos (by rw [List.contains_cons, h, Bool.or_true])]
    · rw [if_neg h]
      unfold upd
      by_cases e : t = s
      · rw [if_pos e, if_pos (by rw [List.contains_cons, e]; simp)]
      · rw [if_neg e, if_neg (by
          rw [List.contains_cons]
          intro hh
          cases h1 : (t == s) with
          | true => exact e (by simpa using h1)
          | false => rw [h1, Bool.false_or] at hh; exact h hh)]

section
variable {w0 : World} {m0 : Mem} {o0 : OwnM} {G : Nat → Prop} {pins : List Nat} {S M : Nat → A} {P : Program} {N : Nat} {Q : Exit → SL → Prop} {L : SL} {op : Oper} {d : Nat}
/-- nil, told as a slice of an object that is not there. -/
theorem h_nilv {x : Operand} {j E k : Nat} (hop : op.op = .move x ∨ op.op = .assign x) (hx : x = .const (.slice none 0 0)) (hd : op.dst = some d) (hok : okD N pins S d = true) : OpH P pins N op S (app S [(d, .t (.view j 0 E k 0))]) := by
  subst hx
  refine .of (e := [(d, _)]) fun hN => ⟨?_, eff_1 (okD_lo hN hok)⟩
  refine ok_of_run fun w0 m0 o0 G a w m o hN' I => ?_
  obtain ⟨h1, h2, h3⟩ := okD_iff (okD_hx hN hok)
  refine ⟨.slice none 0 0, w, m, o, ?_, ?_⟩
  · unfold execOp
    rcases hop with e | e <;> (rw [e]; rfl)
  · rw [hd]
    exact I.set d _ _ (by omega) h2 ⟨none, 0, Nat.le_refl _, Nat.zero_le _, rfl, .inl rfl⟩
theorem fl_rows {α : Type} (c : α → List D) (l : List α) : fl (dT c) l = ((l.map c).flatMap id).map T.d := fl_flat c l
/-- append. -/
theorem h_apg {α : Type} {c : α → List D} (hM : Mk M S) {j E k nb t : Nat} {x y : Operand} {l l' : List α} {e : Eff} (ss : List Nat) (hop : op.op = .call { callee := .builtin .append, args := ⟨[x, y]⟩, argTypes := ⟨[t, t]⟩ }) (hE : elF P t = some (E, k, nb)) (hxv : cpO M x = .t (.view j 0 E k l.length)) (hb : M (OB + j) = gbA c l) (hc : ∀ a, (c a).length = k)
    (hy : slD k (dO M y) = some (l'.map c)) (hpos : 0 < l'.length) (hbd : (l.length + l'.length) * nb ≤ 140737488355328) (hd : op.dst = some d) (hok : okD N pins S d = true) (hj : (Nat.blt 0 E && Nat.blt (j + 1) OB && !pins.contains (OB + j) && ss.all (fun s => Nat.blt s OB && !(S s).isBox)) = true)
    (hm : ∀ s, ((OB + j) :: ss).contains s = false → mentA j (S s) = false) (hh : S HK = .any ∨ ∃ f, S HK = .hp f ∧ pureH f) (he : anyE ss ++ [(OB + j, gbA c (l ++ l')), (d, .t (.view j 0 E k (l ++ l').length))] = e) : OpH P pins N op S (app S e) := by
  subst he
  intro hN hlo
  simp only [Bool.and_eq_true, Bool.not_eq_true', List.contains_eq_mem, decide_eq_false_iff_not] at hj
  obtain ⟨⟨⟨c1, c2⟩, c3⟩, c4⟩ := hj
  obtain ⟨e1, e2, e3⟩ := lo_of c2
  have hdO := okD_lo hN hok
  have hss : ∀ s, ss.contains s = true → s < OB ∧ (S s).isBox = false := fun s hs => by
    have := List.all_eq_true.1 c4 s (by simpa using hs)
    simp only [Bool.and_eq_true, Bool.not_eq_true'] at this
    exact ⟨by simpa using this.1, this.2⟩
  have hne : l ++ l' ≠ [] := fun h => by
    have := (List.append_eq_nil_iff.1 h).2
    rw [this] at hpos
    simp at hpos
  have hlow : Low (app S (anyE ss)) := fun t ht => by
    rw [app_any]
    split
    · rfl
    · exact hlo t ht
  have hS' : app S (anyE ss ++ [(OB + j, gbA c (l ++ l')), (d, .t (.view j 0 E k (l ++ l').length))]) = upd (upd (app S (anyE ss)) (OB + j) (gbA c (l ++ l'))) d (.t (.view j 0 E k (l ++ l').length)) := by
    unfold app
    rw [List.foldl_append]
    rfl
  rw [hS']
  refine ⟨?_, (hlow.upd e1).upd (lt2 hdO)⟩
  rw [hx_updL (lt2 hdO) (by unfold HK; unfold OB at hdO; omega), hx_updL e1 e2]
  have hk1 : app S (anyE ss) HK = S HK := by
    rw [app_any, if_neg]
    intro h
    have := (hss HK h).1
    unfold HK OB at this
    omega
  have hx1 : ∀ s, hx (app S (anyE ss)) s = hx S s ∨ (hx (app S (anyE ss)) s = .any ∧ (hx S s).isBox = false) := fun s => by
    rcases Nat.lt_or_ge s OB2 with h2 | h2
    · rw [hx_lo h2, hx_lo h2, app_any]
      split
      · rename_i h; exact .inr ⟨rfl, (hss s h).2⟩
      · exact .inl rfl
    · refine .inl ?_
      unfold hx
      rw [hlow s h2, hlo s h2]
      simp only
      rw [hk1]
  have hm1 : ∀ s, s ≠ OB + j → mentA j (hx (app S (anyE ss)) s) = false := fun s hs => by
    rcases Nat.lt_or_ge s OB2 with h2 | h2
    · rw [hx_lo h2, app_any]
      split
      · rfl
      · rename_i h
        refine hm s ?_
        rw [List.contains_cons]
        simp only [Bool.or_eq_false_iff]
        exact ⟨beq_eq_false_iff_ne.2 hs, by simpa using h⟩
    · obtain ⟨k, rfl⟩ : ∃ k, s = OB2 + k := ⟨s - OB2, by omega⟩
      exact heap_ment hlow (by rw [hk1]; exact hh) k
  rw [gb_ne hne, fl_rows, List.map_append]
  have hlen : (l ++ l').length = (l.map c ++ l'.map c).length := by simp
  rw [hlen]
  have hSb : S (OB + j) = gbA c l := by
    rcases hM (OB + j) with h | h
    · rw [h] at hb
      cases l with
      | nil => cases hb
      | cons a r => cases hb
    · rw [← h, hb]
  cases l with
  | nil =>
    refine ok_apg1 hM.hx hop hd (okD_hx hN hok) hdO hE hxv (hx_of hSb (by intro h; cases h)) hy (by simpa using hpos) (by simpa using hbd) hx1 ?_
    rcases hx1 (OB + j) with h | ⟨h, _⟩
    · rw [h, hx_of hSb (by intro h; cases h)]
      rfl
    · rw [hx_lo e1, app_any] at h
      split at h
      · rename_i h2
        have := (hss _ h2).1
        omega
      · rw [hSb] at h; cases h
  | cons a r =>
    refine ok_apg (l := (a :: r).map c) hM.hx hop hd (okD_hx hN hok) hdO hE e3 c3 (by rw [List.length_map]; exact hxv) (hx_of (by rw [hSb, gb_ne (by simp), fl_rows]) (by simp)) (fun q hq => by obtain ⟨b, _, rfl⟩ := List.mem_map.1 hq; exact hc b) hy (by simpa using hpos) (by simpa using hbd) c1 hx1 hm1
theorem NoM.get {j : Nat} {ex : List Nat} (h : NoM j ex L) : ∀ s, ex.contains s = false → mentA j (gt L s) = false := h
theorem h_apgI {α : Type} {c : α → List D} (hM : Mk M S) {j E k nb t : Nat} {x y : Operand} {l l' z : List α} {e : Eff} (ss : List Nat) (hz : appI nb l l' = some z) (hop : op.op = .call { callee := .builtin .append, args := ⟨[x, y]⟩, argTypes := ⟨[t, t]⟩ }) (hE : elF P t = some (E, k, nb)) (hx : cpO M x = .t (.view j 0 E k l.length)) (hb : M (OB + j) = gbA c l) (hc : ∀ a, (c a).length = k)
    (hy : slD k (dO M y) = some (l'.map c)) (hpos : 0 < l'.length) (hd : op.dst = some d) (hok : okD N pins S d = true) (hj : (Nat.blt 0 E && Nat.blt (j + 1) OB && !pins.contains (OB + j) && ss.all (fun s => Nat.blt s OB && !(S s).isBox)) = true)
    (hm : ∀ s, ((OB + j) :: ss).contains s = false → mentA j (S s) = false) (hh : S HK = .any ∨ ∃ f, S HK = .hp f ∧ pureH f) (he : anyE ss ++ [(OB + j, gbA c z), (d, .t (.view j 0 E k z.length))] = e) : OpH P pins N op S (app S e) := by
  obtain ⟨h1, rfl⟩ := appI_iff hz
  exact h_apg hM ss hop hE hx hb hc hy hpos h1 hd hok hj hm hh he
end
end Go.Proofs.Ytjomnccladjpgaa

/-
  A call's own slice, told as a slice of a local object; the greater of two numbers.
-/
namespace Go.Proofs.Ytjomnccladjpgaa
open Go Go.RowKit
set_option linter.unusedVariables false

def D.isLit : D → Bool | .lit _ => true | _ => false
section
variable {w0 : World} {m0 : Mem} {o0 : OwnM} {G : Nat → Prop} {pins : List Nat} {S M : Nat → A} {a : Act} {w : World} {m : Mem} {o : OwnM} {P : Program} {N : Nat} {op : Oper} {d : Nat}
theorem call_obj (I : Inv w0 m0 o0 G pins S a w m o) {f : FuncId} {args : List A} {E k j : Nat} {rs : List (List D)} (hf : FC P f args [] (.t (.own E k rs))) (hp : args.all A.plain = true) {vals : Array Value} (hv : vals.size = args.length) (hr : ∀ i x, args[i]? = some x → ∃ s, RepA m w o S s x (vals.getD i undef))
    {d : Nat} (hd : d < a.tmps.size) (hdO : d < OB) (hbox : (S d).isBox = false) (hfree : S (OB + j) = .free) (hne : rs ≠ []) (hk : 0 < k) (hlit : ∀ r ∈ rs, ∀ x ∈ r, x.isLit = true) :
    Calls P f vals w fun e w' => ∃ u o', e = .returned u ∧ Inv w0 m0 o0 G pins (upd (upd S (OB + j) (.box ((rs.flatMap id).map .d))) d (.t (.view j 0 E k rs.length))) (a.put (some d) u) w' m o' := by
  have hrep : ∀ s, RepA m w (fun _ => none) (argS args) s (argS args s) (vals.getD s undef) := by
    intro s
    unfold argS
    rw [List.getD_eq_getElem?_getD]
    cases hx : args[s]? with
    | none => trivial
    | some x =>
      obtain ⟨s', h⟩ := hr s x hx
      exact plain_rep (List.all_eq_true.1 hp x (List.mem_of_getElem? hx)) h
  refine (hf w m (fun _ => none) vals I.sat (I.tbl.trans I.mono) (fun _ _ h => by cases h) (fun _ _ _ h => by cases h) hv hrep).mono ?_
  rintro e w' ⟨u, m', o', S', a', ρ, rfl, J, hr, _⟩
  rw [plain_args hp] at J
  have hS : Same (fun _ => False) w w' := J.same.weaken fun g h => h rfl
  have hnew : ∀ g l, o' g = some l → w.heap.size ≤ g := fun g l h => (J.own g l h).resolve_left fun h => h rfl
  have hlow : ∀ b p u, m b p = some u → b < w.heap.size := fun b p u h => by
    have := World.block_lt_of_cell? w _ (I.sat b p u h)
    simpa using this
  obtain ⟨A', cap, xs, rfl, hown, hblk, hwid, hel⟩ := hr
  have hlen0 : rs.length ≠ 0 := fun e => hne (List.eq_nil_of_length_eq_zero e)
  obtain ⟨g, cap', cur, e1, -, hg, hcap, hmax, hsz, htk⟩ := hown.2.resolve_left fun h => hlen0 h.2
  injection e1 with e1 _ e2
  subst e1 e2
  obtain ⟨ho', hmg⟩ := hblk g rfl
  have hgn := hnew g _ ho'
  -- the slot told as nothing
  have J1 := I.put (w' := w') (m' := m) d .any (.slice (some ⟨g, 0, none⟩) rs.length cap) hd hbox trivial (I.same.trans (hS.weaken fun _ h => h.elim)) (fun b p v h => by
    have hb := hlow b p v h
    rw [World.cell?_of_block (w := w) (hS.block b hb id)]
    exact I.sat b p v h) (Mle.refl _) (fun _ _ => rfl) (fun g hg => hS.block g hg id) hS.size
  have hrl : ∀ r ∈ rs, r.length = k := fun r hr => by
    obtain ⟨i, hi⟩ := List.getElem?_of_mem hr
    exact hwid i r hi
  have hlen : ((rs.flatMap id).map T.d).length = rs.length * k := by rw [List.length_map, fl_len_of hrl]
  have J2 := J1.adopt (j := j) (g := g) (l := (rs.flatMap id).map T.d) (cs := cur) (cs' := cur) (E := E) (by rw [upd_other (by omega)]; exact hfree) hg rfl (by
    cases h : o g with
    | none => rfl
    | some l => exact absurd (I.lt g l h) (by omega)) (.inr (Nat.le_trans I.same.size hgn)) (fun p => by
    cases h : m g p with
    | none => rfl
    | some u => exact absurd (hlow g p u h) (by omega)) (by rw [hlen, hsz]; exact Nat.mul_le_mul_right _ hcap) (fun i x hi => by
    have hlt : i < rs.length * k := by rw [← hlen]; exact (List.getElem?_eq_some_iff.1 hi).1
    have hi1 : i / k < rs.length := Nat.div_lt_of_lt_mul (by rw [Nat.mul_comm]; exact hlt)
    have hi2 : i % k < k := Nat.mod_lt _ hk
    have he : i / k * k + i % k = i := by rw [Nat.mul_comm]; exact Nat.div_add_mod i k
    obtain ⟨r, hr⟩ : ∃ r, rs[i / k]? = some r := ⟨_, List.getElem?_eq_getElem hi1⟩
    have hrm := List.mem_of_getElem? hr
    obtain ⟨dd, hdd⟩ : ∃ dd, r[i % k]? = some dd := ⟨_, List.getElem?_eq_getElem (by rw [hrl r hrm]; exact hi2)⟩
    have h2 := fl_cell_of hrl hr hi2
    rw [he, hdd] at h2
    rw [List.getElem?_map, h2] at hi
    injection hi with hi
    subst hi
    obtain ⟨u, k1, k2⟩ := hel _ r _ dd hr hdd
    rw [he, ← htk, List.getElem?_take, if_pos hlt] at k1
    refine ⟨dd, rfl, u, by simpa using k1, ?_⟩
    have hl := hlit r hrm dd (List.mem_of_getElem? hdd)
    cases k2 with
    | lit u hu => exact .lit u hu
    | seq => cases hl
    | clo => cases hl)
  rw [setRow_self w' g cur E _ hg] at J2
  have J3 := J2.set d (.t (.view j 0 E k rs.length)) (.slice (some ⟨g, 0, none⟩) rs.length cap) (by rw [put_size]; exact hd) (by rw [upd_other (by omega), upd_same]; rfl) ⟨_, cap, hcap, hmax, rfl, .inr ⟨g, cur, E, newO_same _ _ _, rfl, hg, by rw [hsz]; omega, .inr rfl⟩⟩
  refine ⟨_, newO o (OB + j) g, rfl, ?_⟩
  have ea : ((a.put (some d) (.slice (some ⟨g, 0, none⟩) rs.length cap)).put (some d) (.slice (some ⟨g, 0, none⟩) rs.length cap)) = a.put (some d) (.slice (some ⟨g, 0, none⟩) rs.length cap) := by
    simp [Act.put]
  rw [ea] at J3
  have eS : upd (upd (upd S d .any) (OB + j) (.box ((rs.flatMap id).map .d))) d (.t (.view j 0 E k rs.length)) = upd (upd S (OB + j) (.box ((rs.flatMap id).map .d))) d (.t (.view j 0 E k rs.length)) := by
    rw [upd_comm (s := d) (t := OB + j) (by omega), upd_twice]
  rw [eS] at J3
  exact J3
theorem ok_callobj (hM : Mk M S) {f j E k : Nat} {xs : List Operand} {ts : Array TypeId} {fx : Operand} (hop : op.op = .call { callee := .value fx, args := xs.toArray, argTypes := ts }) (hfx : vO M fx = some (.func (.func f) #[] #[])) (hd : op.dst = some d) (hok : okD N pins S d = true) (hdO : d < OB) {fn : Func} (hfn : P.funcs[f]? = some fn) (hbody : fn.body.isNone = false) (hname : (fn.name == "runtime.NumGoroutine") = false)
    {args : List A} {rs : List (List D)} (hargs : WkArgs (xs.map (cpO M)) args) (hp : args.all A.plain = true) (hf : FC P f args [] (.t (.own E k rs))) (hfree : S (OB + j) = .free) (hne : rs ≠ []) (hk : 0 < k) (hlit : ∀ r ∈ rs, ∀ x ∈ r, x.isLit = true) : OpOK P pins N op S (upd (upd S (OB + j) (.box ((rs.flatMap id).map .d))) d (.t (.view j 0 E k rs.length))) := by
  intro w0 m0 o0 G a w m o hN I K Q hK
  obtain ⟨h1, h2, h3⟩ := okD_iff hok
  obtain ⟨k1, k2⟩ := wkargs_rep hM I xs args hargs
  have hc := call_obj I hf hp (vals := (xs.map a.eval).toArray) (by simpa using k1) (fun i x hi => by simpa using k2 i x hi) (d := d) (by omega) hdO h2 hfree hne hk hlit
  unfold Oper.wp
  have hrun : (execOp a.eval op).run P w = .ok (.enter f (xs.map a.eval).toArray) w := by
    unfold execOp
    rw [hop]
    simp only [resolve, vO_eq hM I hfx, Deferred.ofValue, List.map_toArray]
    have hb : fn.body ≠ none := fun e => by rw [e] at hbody; cases hbody
    have hn : fn.name ≠ "runtime.NumGoroutine" := fun e => by rw [e] at hname; simp at hname
    simp [invoke, callFunc, hfn, hn, hb]
  rw [hrun]
  refine Calls.mono hc ?_
  rintro e w' ⟨u, o', rfl, J⟩
  rw [← hd] at J
  exact hK _ _ _ _ (by rw [put_size, hN]) J
/-- (as models' walks want it) -/
theorem h_callobj {α : Type} {c : α → List D} {l : List α} (hM : Mk M S) {f j E k : Nat} {xs : List Operand} {ts : Array TypeId} {fx : Operand} (hop : op.op = .call { callee := .value fx, args := xs.toArray, argTypes := ts }) (hfx : vO M fx = some (.func (.func f) #[] #[])) (hd : op.dst = some d) (hok : okD N pins S d = true) {fn : Func} (hfn : P.funcs[f]? = some fn) (hbody : fn.body.isNone = false) (hname : (fn.name == "runtime.NumGoroutine") = false)
    {args : List A} (hf : FC P f args [] (.t (.own E k (l.map c)))) (hargs : WkArgs (xs.map (cpO M)) args) (hp : args.all A.plain = true) (hj : Nat.blt (j + 1) OB = true) (hfree : M (OB + j) = .free) (hne : (!l.isEmpty) = true) (hk : Nat.blt 0 k = true) (hlit : ∀ a, (c a).all D.isLit = true) :
    OpH P pins N op S (app S [(OB + j, gbA c l), (d, .t (.view j 0 E k l.length))]) := by
  intro hN hlo
  obtain ⟨e1, e2, e3⟩ := lo_of hj
  have hdO := okD_lo hN hok
  have hl : l ≠ [] := fun e => by rw [e] at hne; cases hne
  have hfr : hx S (OB + j) = .free := by
    rcases hM (OB + j) with e | e
    · rw [e] at hfree; cases hfree
    · rw [e] at hfree; exact hx_of hfree (by simp)
  refine ⟨?_, (hlo.upd e1).upd (lt2 hdO)⟩
  show OpOK P pins N op (hx S) (hx (upd (upd S (OB + j) _) d _))
  rw [hx_updL (lt2 hdO) (by unfold HK; unfold OB at hdO; omega), hx_updL e1 e2, gb_ne hl, fl_rows]
  have := ok_callobj (j := j) hM.hx hop hfx hd (okD_hx hN hok) (by simpa using hdO) hfn hbody hname hargs hp hf hfr (by simpa using hl) (by simpa using hk) (fun r hr x hx => by
    obtain ⟨a, _, rfl⟩ := List.mem_map.1 hr
    exact List.all_eq_true.1 (hlit a) x hx)
  rw [List.length_map] at this
  exact this
end
end Go.Proofs.Ytjomnccladjpgaa

/-
  Arrays as values; variables and made slices as objects, of the frame or of the heap; slices of arrays; copy.
-/
namespace Go.Proofs.Ytjomnccladjpgaa
open Go Go.RowKit
set_option linter.unusedVariables false

section
variable {α : Type} {c : α → List D} {z : α} {k : Nat}
/-- The cells of an array: n elements from the i-th on, whatever the list. -/
def ar (c : α → List D) (z : α) (l : List α) : Nat → Nat → List D
  | _, 0 => []
  | i, n + 1 => c (l.getD i z) ++ ar c z l (i + 1) n
def padA (z : α) (l : List α) : Nat → Nat → List α
  | _, 0 => []
  | i, n + 1 => l.getD i z :: padA z l (i + 1) n
theorem padA_len (l : List α) : ∀ (n i : Nat), (padA z l i n).length = n
  | 0, _ => rfl
  | n + 1, i => congrArg (· + 1) (padA_len l n (i + 1))
theorem ar_pad (l : List α) : ∀ (n i : Nat), ar c z l i n = fl c (padA z l i n)
  | 0, _ => rfl
  | n + 1, i => congrArg (c (l.getD i z) ++ ·) (ar_pad l n (i + 1))
theorem ar_len (hc : ∀ a, (c a).length = k) (l : List α) (i n : Nat) : (ar c z l i n).length = n * k := by
  rw [ar_pad, fl_len hc, padA_len]
theorem padA_drop (l : List α) : ∀ (n i : Nat), i + n = l.length → padA z l i n = l.drop i
  | 0, i, h => by rw [List.drop_of_length_le (by omega)]; rfl
  | n + 1, i, h => by
    have hi : i < l.length := by omega
    show l.getD i z :: padA z l (i + 1) n = _
    rw [padA_drop l n (i + 1) (by omega), List.drop_eq_getElem_cons hi, List.getD_eq_getElem?_getD, List.getElem?_eq_getElem hi]
    rfl
theorem padA_id {l : List α} {n : Nat} (h : l.length = n) : padA z l 0 n = l := by rw [padA_drop l n 0 (by omega)]; rfl
theorem ar_id {l : List α} {n : Nat} (h : l.length = n) : ar c z l 0 n = fl c l := by rw [ar_pad, padA_id h]
theorem fl_take1 {β : Type} {f : α → List β} (hf : ∀ a, (f a).length = 1) : ∀ (x : List α) (i : Nat), (fl f x).take i = fl f (x.take i)
  | [], i => by simp [fl]
  | a :: t, 0 => by simp [fl]
  | a :: t, i + 1 => by
    have h := hf a
    show (f a ++ fl f t).take (i + 1) = f a ++ fl f (t.take i)
    rw [← fl_take1 hf t i]
    match hfa : f a, h with
    | [b], _ => rfl
theorem fl_drop1 {β : Type} {f : α → List β} (hf : ∀ a, (f a).length = 1) : ∀ (x : List α) (i : Nat), (fl f x).drop i = fl f (x.drop i)
  | [], i => by simp [fl]
  | a :: t, 0 => by simp
  | a :: t, i + 1 => by
    have h := hf a
    show (f a ++ fl f t).drop (i + 1) = fl f (t.drop i)
    rw [← fl_drop1 hf t i]
    match hfa : f a, h with
    | [b], _ => rfl
theorem fl_append {β : Type} (f : α → List β) (x y : List α) : fl f (x ++ y) = fl f x ++ fl f y := List.flatMap_append
theorem flr_at {l : List α} {z : Int} {y : α} {k : Nat} (h : idx l z = some y) (hc : ∀ a, (c a).length = k) : ((fl (dT c) l).drop (0 + z.toNat * k)).take k = dT c y := by
  rw [Nat.zero_add]
  exact fl_row (dT_len hc) (idx_lt h).2.2
/-- A slice as an array. -/
def s2aI (n : Nat) (l : List α) : Option (List α) := if n ≤ l.length then some (l.take n) else none
theorem s2aI_iff {n : Nat} {l x : List α} (h : s2aI n l = some x) : n ≤ l.length ∧ x = l.take n := by
  unfold s2aI at h
  split at h
  · injection h with h; exact ⟨by assumption, h.symm⟩
  · cases h
theorem s2a_row {n : Nat} {l x : List α} (h : s2aI n l = some x) : ((l.map c).take n).flatMap id = ar c z x 0 n := by
  obtain ⟨h1, rfl⟩ := s2aI_iff h
  rw [ar_id (by rw [List.length_take]; omega), ← List.map_take]
  unfold fl
  rw [List.flatMap_map]
  rfl
/-- What copy leaves: n places from off on get what stands first in y. -/
def cpyL (x : List α) (off n : Nat) (y : List α) : List α := x.take off ++ (y.take n ++ x.drop (off + min y.length n))
def cpyI (x : List α) (off n : Nat) (y : List α) : Option (List α) := if off + n ≤ x.length then some (cpyL x off n y) else none
theorem cpyI_iff {x y v : List α} {off n : Nat} (h : cpyI x off n y = some v) : off + n ≤ x.length ∧ v = cpyL x off n y := by
  unfold cpyI at h
  split at h
  · injection h with h; exact ⟨by assumption, h.symm⟩
  · cases h
theorem cpy_row (hc : ∀ a, (c a).length = 1) (x y : List α) (off n : Nat) : splice (fl (dT c) x) off ((((y.map c).take n).flatMap id).map T.d) = fl (dT c) (cpyL x off n y) := by
  have h1 : ((((y.map c).take n).flatMap id).map T.d) = fl (dT c) (y.take n) := by
    rw [← List.map_take, ← fl_flat]
  have hd := dT_len hc
  have h2 : (fl (dT c) (y.take n)).length = min y.length n := by rw [fl_len hd, List.length_take]; omega
  unfold splice cpyL
  rw [h1, h2, fl_take1 hd, fl_drop1 hd, fl_append, fl_append, List.append_assoc]
def pieceI (x : List α) (off n : Nat) : Option (List α) := if off + n ≤ x.length then some ((x.drop off).take n) else none
theorem pieceI_iff {x y : List α} {off n : Nat} (h : pieceI x off n = some y) : off + n ≤ x.length ∧ y = (x.drop off).take n := by
  unfold pieceI at h
  split at h
  · injection h with h; exact ⟨by assumption, h.symm⟩
  · cases h
/-- A cut of a slice of an object. -/
def vcut (n : Nat) (lo hi : Int) : Option Unit := if 0 ≤ lo ∧ lo ≤ hi ∧ hi ≤ n then some () else none
theorem vcut_iff {n : Nat} {lo hi : Int} {u : Unit} (h : vcut n lo hi = some u) : 0 ≤ lo ∧ lo ≤ hi ∧ hi ≤ n := by
  unfold vcut at h
  split at h
  · assumption
  · cases h
end

section
variable {w0 : World} {m0 : Mem} {o0 : OwnM} {G : Nat → Prop} {pins : List Nat} {S M : Nat → A} {a : Act} {w : World} {m : Mem} {o : OwnM} {P : Program} {N : Nat} {op : Oper} {d c : Nat} {f f' : Nat → A}
/-- A slot is told otherwise. -/
theorem Inv.tell (I : Inv w0 m0 o0 G pins S a w m o) (d : Nat) (x : A) (hbox : (S d).isBox = false) (hx : RepA m w o (upd S d x) d x (a.tmps.getD d undef)) : Inv w0 m0 o0 G pins (upd S d x) a w m o := by
  refine ⟨I.same, I.sat, I.mono, I.old, I.own, I.lt, I.inj, I.pinned, fun s => ?_, I.defers, I.tbl, I.wide, I.shps⟩
  by_cases e : s = d
  · subst e
    rw [upd_same]
    exact hx
  · rw [upd_other e]
    refine (I.slots s).turn fun b l hb => ⟨l, ?_⟩
    rw [upd_other (fun e => by rw [e] at hb; rw [hb] at hbox; cases hbox), hb]
theorem OpOK.post {S1 S2 : Nat → A} (h : OpOK P pins N op S S1) (k : ∀ w0 m0 o0 G a w m o, Inv w0 m0 o0 G pins S1 a w m o → Inv w0 m0 o0 G pins S2 a w m o) : OpOK P pins N op S S2 :=
  fun w0 m0 o0 G a w m o hN I K Q hK => h w0 m0 o0 G a w m o hN I K Q fun a' w' m' o' hN' I' => hK a' w' m' o' hN' (k _ _ _ _ _ _ _ _ I')
/-- An operation that gives object j and slot d. -/
theorem OpH.lo2 {j : Nat} {x1 x2 : A} (hj : Nat.blt (j + 1) OB = true) (hok : okD N pins S d = true) (h : N ≤ OB → Low S → OpOK P pins N op (hx S) (app (hx S) [(OB + j, x1), (d, x2)])) : OpH P pins N op S (app S [(OB + j, x1), (d, x2)]) := by
  intro hN hlo
  obtain ⟨e1, e2, e3⟩ := lo_of hj
  have hdO := okD_lo hN hok
  refine ⟨?_, (hlo.upd e1).upd (lt2 hdO)⟩
  show OpOK P pins N op (hx S) (hx (upd (upd S (OB + j) _) d _))
  rw [hx_updL (lt2 hdO) (by unfold HK; unfold OB at hdO; omega), hx_updL e1 e2]
  exact h hN hlo
theorem hx_freeM (hM : Mk M S) {j : Nat} (h : M (OB + j) = .free) : hx S (OB + j) = .free := by
  rcases hM (OB + j) with e | e
  · rw [e] at h; cases h
  · rw [e] at h; exact hx_of h (by simp)
theorem hx_boxM (hM : Mk M S) {j : Nat} {l : List T} (h : M (OB + j) = .box l) : hx S (OB + j) = .box l := by
  rcases hM (OB + j) with e | e
  · rw [e] at h; cases h
  · rw [e] at h; exact hx_of h (by simp)

/-! ### A slice as an array -/
theorem ok_s2a (hM : Mk M S) {t n e k : Nat} {x : Operand} {l : List (List D)} (hop : op.op = .sliceToArrayPointer t x) (hu : P.underlying t = some (.array n e)) (hx : dO M x = some (.seq k l)) (hk : 0 < k) (hpos : 0 < n) (hn : n ≤ l.length) (hd : op.dst = some d) (hok : okD N pins S d = true) :
    OpOK P pins N op S (upd S d (.imm ((l.take n).flatMap id))) := by
  refine ok_of_run fun w0 m0 o0 G a w m o hN I => ?_
  obtain ⟨h1, h2, h3⟩ := okD_iff hok
  have hr := dO_rep hM I hx
  generalize hv : a.eval x = v at hr
  cases hr with
  | seq _ _ A' cap g p fv hcap hmax hA hw hm hr =>
    have hne : l ≠ [] := fun e => by rw [e] at hn; simp at hn; omega
    have hA := hA hne
    subst hA
    refine ⟨.pointer (some ⟨g, p, none⟩), w, m, o, ?_, by
      rw [hd]
      refine I.set d _ _ (by omega) h2 ⟨g, p, rfl, fun j dd hj => ?_⟩
      have hwt : ∀ r ∈ l.take n, r.length = k := fun r hr => by
        obtain ⟨i, hi⟩ := List.getElem?_of_mem (List.mem_of_mem_take hr)
        exact hw i r hi
      have hlt : j < n * k := by
        have := (List.getElem?_eq_some_iff.1 hj).1
        rw [fl_len_of hwt, List.length_take] at this
        rw [Nat.min_eq_left hn] at this
        exact this
      have hi1 : j / k < n := Nat.div_lt_of_lt_mul (by rw [Nat.mul_comm]; exact hlt)
      have hi2 : j % k < k := Nat.mod_lt _ hk
      have he : j / k * k + j % k = j := by rw [Nat.mul_comm]; exact Nat.div_add_mod j k
      have hil : j / k < l.length := by omega
      obtain ⟨r, hr'⟩ : ∃ r, l[j / k]? = some r := ⟨_, List.getElem?_eq_getElem hil⟩
      have hrt : (l.take n)[j / k]? = some r := by rw [List.getElem?_take, if_pos hi1]; exact hr'
      have h5 := fl_cell_of hwt hrt hi2
      rw [he, hj] at h5
      refine ⟨fv (j / k) (j % k), ?_, hr _ r _ dd hr' h5.symm⟩
      have := hm _ r _ dd hr' h5.symm
      rw [Nat.add_assoc, he] at this
      exact this⟩
    unfold execOp
    rw [hop]
    simp only [Sem.run_bind]
    rw [hv]
    simp [Instr.arrayAt, run_underlying hu]
    intro h
    omega
theorem h_s2a {α : Type} {cc : α → List D} {l y : List α} {z : α} (hM : Mk M S) {t n e k : Nat} {x : Operand} (hop : op.op = .sliceToArrayPointer t x) (hu : P.underlying t = some (.array n e)) (hx : dO M x = some (.seq k (l.map cc))) (hk : (Nat.blt 0 k && Nat.blt 0 n) = true) (hn : s2aI n l = some y) (hd : op.dst = some d) (hok : okD N pins S d = true) :
    OpH P pins N op S (app S [(d, .imm (ar cc z y 0 n))]) := by
  simp only [Bool.and_eq_true] at hk
  rw [← s2a_row (z := z) hn]
  exact .of (e := [(d, _)]) fun hN => ⟨ok_s2a hM.hx hop hu hx (by simpa using hk.1) (by simpa using hk.2) (by rw [List.length_map]; exact (s2aI_iff hn).1) hd (okD_hx hN hok), eff_1 (okD_lo hN hok)⟩
/-- An array behind an address of cells that never change. -/
theorem h_ldim (hM : Mk M S) {t n : Nat} {x : Operand} {l : List D} (hop : op.op = .load t x) (ht : tyA P t = some (true, n)) (hx : cpO M x = .imm l) (hl : l.length = n) (hd : op.dst = some d) (hok : okD N pins S d = true) : OpH P pins N op S (app S [(d, .t (.agg l))]) := by
  refine .of (e := [(d, _)]) fun hN => ⟨?_, eff_1 (okD_lo hN hok)⟩
  refine ok_val' hM.hx hd (okD_hx hN hok) ?_
  rw [hop]
  show ldF P M t x = _
  unfold ldF
  simp only [hx, ht]
  rw [if_pos hl.symm]

/-! ### Made slices in the heap -/
theorem h_mko {α : Type} {c : α → List D} (hM : Mk M S) {t e nb q : Nat} {xn xc : Operand} {kl kc : IntKind} {n : Int} {ie : TypeInfo} {z : Value} {rs : List (List D)} (hop : op.op = .makeSlice t xn xc) (hn : vO M xn = some (.int kl n)) (hc : vO M xc = some (.int kc n)) (hE : elF P t = some (e, 1, nb)) (hie : P.info? e = some ie) (hz : ie.zero = some z) (hz1 : z.cells = #[z]) (hz2 : z.oneCell' = true) (hnb : nb = nb)
    (hq : mkI nb n = some q) (hr : List.replicate q [.lit z] = rs) (hd : op.dst = some d) (hok : okD N pins S d = true) : OpH P pins N op S (app S [(d, .t (.own e 1 rs))]) := by
  subst hr
  exact .of (e := [(d, _)]) fun hN => ⟨ok_mko (sz := 0) hM.hx hop hn hc hE hie hz hz1 hz2 hq hd (okD_hx hN hok), eff_1 (okD_lo hN hok)⟩

/-! ### Variables as objects -/
theorem ok_lmk {j : Nat} {l : List T} (hd : op.dst = some d) (hok : okD N pins S d = true) (hdO : d < OB) (hfree : S (OB + j) = .free)
    (h : ∀ (w0 : World) (m0 : Mem) (o0 : OwnM) (G : Nat → Prop) (a : Act) (w : World) (m : Mem) (o : OwnM), Inv w0 m0 o0 G pins S a w m o → ∃ v cs E, (execOp a.eval op).run P w = .ok (.value v) (w.alloc (.cells cs E)) ∧ l.length ≤ cs.size ∧
      (∀ (i : Nat) (x : T), l[i]? = some x → x.noOwn = true ∧ ∃ u, cs[i]? = some u ∧ RepT m w o (0, 0) x u) ∧ v = .pointer (some ⟨w.heap.size, 0, none⟩)) :
    OpOK P pins N op S (app S [(OB + j, .box l), (d, .t (.ptr j 0))]) := by
  refine ok_of_run fun w0 m0 o0 G a w m o hN I => ?_
  obtain ⟨h1, h2, h3⟩ := okD_iff hok
  obtain ⟨v, cs, E, hrun, hlen, hc, rfl⟩ := h w0 m0 o0 G a w m o I
  refine ⟨_, w.alloc (.cells cs E), m, newO o (OB + j) w.heap.size, hrun, ?_⟩
  rw [hd]
  have J := I.obj_new (E := E) hfree hlen hc
  exact J.set d _ _ (by omega) (by rw [upd_other (by omega)]; exact h2) ⟨_, newO_same _ _ _, rfl⟩
theorem h_lnew (hM : Mk M S) {j E : Nat} {i : TypeInfo} {z : Value} {l0 l : List T} (hop : op.op = .alloc E) (hi : P.info? E = some i) (hz : i.zero = some z) (hl : cellsT (litA z) = some l0) (hl' : l0 = l) (hd : op.dst = some d) (hok : okD N pins S d = true) (hj : Nat.blt (j + 1) OB = true) (hfree : M (OB + j) = .free) :
    OpH P pins N op S (app S [(OB + j, .box l), (d, .t (.ptr j 0))]) := by
  subst hl'
  refine .lo2 hj hok fun hN hlo => ?_
  refine ok_lmk hd (okD_hx hN hok) (okD_lo hN hok) (hx_freeM hM hfree) fun w0 m0 o0 G a w m o I => ?_
  have hcp : cellsP (litA z) = some l0 := by
    revert hl
    generalize litA z = y
    intro hl
    cases y with
    | t y => cases y <;> first | exact hl | cases hl
    | _ => cases hl
  obtain ⟨k1, k2, k3⟩ := cellsP_rep hcp (litA_rep (m := m) (w := w) (o := o) (S := S) 0 z)
  refine ⟨_, z.cells, E, ?_, by simpa using Nat.le_of_eq k1.symm, fun i x hx => ?_, rfl⟩
  · unfold execOp
    rw [hop]
    simp [Instr.alloc, zeroValue, typeInfo, hi, hz, newVar, newRow]
  · obtain ⟨q1, u, q2, q3⟩ := k3 i x hx
    exact ⟨cellsP_noOwn hcp x (List.mem_of_getElem? hx), u, by simpa using q2, q3 _ _ (ShpAt.refl w)⟩
theorem h_lbox (hM : Mk M S) {j E : Nat} {x : Operand} {l0 l : List T} (hop : op.op = .box E x) (hl : cellsP (cpO M x) = some l0) (hl' : l0 = l) (hd : op.dst = some d) (hok : okD N pins S d = true) (hj : Nat.blt (j + 1) OB = true) (hfree : M (OB + j) = .free) :
    OpH P pins N op S (app S [(OB + j, .box l), (d, .t (.ptr j 0))]) := by
  subst hl'
  refine .lo2 hj hok fun hN hlo => ?_
  refine ok_lmk hd (okD_hx hN hok) (okD_lo hN hok) (hx_freeM hM hfree) fun w0 m0 o0 G a w m o I => ?_
  obtain ⟨k1, k2, k3⟩ := cellsP_rep hl (cpO_rep hM.hx I x 0)
  refine ⟨_, (a.eval x).cells, E, ?_, by simpa using Nat.le_of_eq k1.symm, fun i x hx => ?_, rfl⟩
  · unfold execOp
    rw [hop]
    simp [Instr.box, newVar, newRow]
  · obtain ⟨q1, u, q2, q3⟩ := k3 i x hx
    exact ⟨cellsP_noOwn hl x (List.mem_of_getElem? hx), u, by simpa using q2, q3 _ _ (ShpAt.refl w)⟩

/-! ### Slices of arrays -/
theorem bounds_run {n : Nat} {l0 h0 : Option Int} {kl kh : Int → IntKind} (hc : 0 ≤ l0.getD 0 ∧ l0.getD 0 ≤ h0.getD n ∧ h0.getD n ≤ n) :
    (Instr.sliceBounds false n n (l0.map fun z => .int (kl z) z) (h0.map fun z => .int (kh z) z) none).run P w = .ok ((l0.getD 0).toNat, (h0.getD n).toNat, n) w := by
  have hlo2 : (l0.map Int.toNat).getD 0 = (l0.getD 0).toNat := by cases l0 <;> rfl
  have hhi2 : (h0.map Int.toNat).getD n = (h0.getD n).toNat := by cases h0 <;> simp
  rw [← hlo2, ← hhi2]
  unfold Instr.sliceBounds
  cases l0 <;> cases h0 <;> simp only [Option.getD_none, Option.getD_some, Option.map_none, Option.map_some, Option.isSome_none, Option.isSome_some] at hc ⊢ <;>
    (simp only [Sem.run_bind, Sem.run_pure, Result.andThen_ok]
     repeat (rw [run_sliceBound_ok (by omega) (by omega), Result.andThen_ok]))
theorem sla_run {t n e g off : Nat} {ie : TypeInfo} {l0 h0 : Option Int} {kl kh : Int → IntKind} (hu : P.underlying t = some (.array n e)) (hie : P.info? e = some ie) (hc : 0 ≤ l0.getD 0 ∧ l0.getD 0 ≤ h0.getD n ∧ h0.getD n ≤ n) :
    (Instr.sliceAt t (.pointer (some ⟨g, off, none⟩)) (l0.map fun z => .int (kl z) z) (h0.map fun z => .int (kh z) z) none).run P w = .ok (.slice (some (if n = (l0.getD 0).toNat then ⟨g, off, none⟩ else ⟨g, off + (l0.getD 0).toNat * ie.size, none⟩)) ((h0.getD n).toNat - (l0.getD 0).toNat) (n - (l0.getD 0).toNat)) w := by
  unfold Instr.sliceAt
  simp only [Sem.run_bind, run_underlying hu, Result.andThen_ok]
  rw [show (Instr.sureAddr (.pointer (some ⟨g, off, none⟩))).run P w = .ok ⟨g, off, none⟩ w from rfl, Result.andThen_ok, bounds_run hc]
  simp [sizeOf, typeInfo, hie, Addr.add_mid]
/-- A slice of an array that an object holds (key b; the block's type is not told). -/
theorem ok_sla {j off n t e : Nat} {x : Operand} {lo hi : Option Operand} {l0 h0 : Option Int} {ie : TypeInfo} {l : List T} (hM : Mk M S) (hop : op.op = .slice t x lo hi none) (hx : ∀ {w0 m0 o0 G a w m o}, Inv w0 m0 o0 G pins S a w m o → ∃ g, o g = some (OB + j, 0) ∧ a.eval x = .pointer (some ⟨g, off, none⟩)) (hb : S (OB + j) = .box l) (hlo : bndO M lo = some l0) (hhi : bndO M hi = some h0) (hu : P.underlying t = some (.array n e)) (hie : P.info? e = some ie)
    (hle : off + n * ie.size ≤ l.length) (hn : n ≤ 65536) (hc : 0 ≤ l0.getD 0 ∧ l0.getD 0 ≤ h0.getD n ∧ h0.getD n ≤ n) (hd : op.dst = some d) (hok : okD N pins S d = true) :
    OpOK P pins N op S (upd S d (.t (.view j (off + (l0.getD 0).toNat * ie.size) 0 ie.size ((h0.getD n).toNat - (l0.getD 0).toNat)))) := by
  refine ok_of_run fun w0 m0 o0 G a w m o hN I => ?_
  obtain ⟨h1, h2, h3⟩ := okD_iff hok
  obtain ⟨g, k1, k2⟩ := hx I
  have hs := I.slots (OB + j)
  rw [hb] at hs
  obtain ⟨g', _, q1, q2, cs, E, q3, q4, q5⟩ := hs
  have := I.inj _ _ _ k1 q1
  subst this
  obtain ⟨kl, e1⟩ := bndO_eq hM I hlo
  obtain ⟨kh, e2⟩ := bndO_eq hM I hhi
  refine ⟨.slice (some (if n = (l0.getD 0).toNat then ⟨g, off, none⟩ else ⟨g, off + (l0.getD 0).toNat * ie.size, none⟩)) ((h0.getD n).toNat - (l0.getD 0).toNat) (n - (l0.getD 0).toNat), w, m, o, ?_, ?_⟩
  · unfold execOp
    rw [hop]
    simp only [Sem.run_bind]
    rw [e1, e2, k2]
    show Result.andThen (Sem.run P (Instr.sliceAt t _ _ _ none) w) _ = _
    rw [sla_run hu hie hc]
    rfl
  · rw [hd]
    refine I.set d _ _ (by omega) h2 ?_
    refine ⟨_, n - (l0.getD 0).toNat, by omega, by unfold maxLen; omega, rfl, ?_⟩
    by_cases hz : n = (l0.getD 0).toNat
    · exact .inl (by omega)
    · refine .inr ⟨g, cs, E, k1, by rw [if_neg hz], q3, ?_, .inl rfl⟩
      have : (l0.getD 0).toNat * ie.size + (n - (l0.getD 0).toNat) * ie.size = n * ie.size := by rw [← Nat.add_mul]; congr 1; omega
      omega
theorem h_sla (hM : Mk M S) {j off n t e : Nat} {x : Operand} {lo hi : Option Operand} {l0 h0 : Option Int} {ie : TypeInfo} {l : List T} {y : T} (hop : op.op = .slice t x lo hi none) (hx : cpO M x = .ref (OB + j) off) (hb : M (OB + j) = .box l) (hlo : bndO M lo = some l0) (hhi : bndO M hi = some h0) (hu : P.underlying t = some (.array n e)) (hie : P.info? e = some ie)
    (hle : Nat.ble (off + n * ie.size) l.length = true) (hn : Nat.ble n 65536 = true) (hc : 0 ≤ l0.getD 0 ∧ l0.getD 0 ≤ h0.getD n ∧ h0.getD n ≤ n) (hy : T.view j (off + (l0.getD 0).toNat * ie.size) 0 ie.size ((h0.getD n).toNat - (l0.getD 0).toNat) = y) (hd : op.dst = some d) (hok : okD N pins S d = true) : OpH P pins N op S (app S [(d, .t y)]) := by
  subst hy
  refine .of (e := [(d, _)]) fun hN => ⟨ok_sla hM.hx hop (fun {w0 m0 o0 G a w m o} I => ?_) (hx_boxM hM hb) hlo hhi hu hie (by simpa using hle) (by simpa using hn) hc hd (okD_hx hN hok), eff_1 (okD_lo hN hok)⟩
  have h := cpO_rep hM.hx I x 0
  rw [hx] at h
  obtain ⟨g, h1, h2, _⟩ := h
  exact ⟨g, h1, h2⟩
/-! ### copy -/
theorem Inv.box_spl (I : Inv w0 m0 o0 G pins S a w m o) {b g off E : Nat} {l : List T} {cs : Array Value} {q : List D} {vs : List Value} (hb : S b = .box l) (h1 : o g = some (b, 0)) (h4 : w.heap[g]? = some (.cells cs E (0, 0))) (hlc : l.length ≤ cs.size) (h6 : ∀ (j : Nat) (x : T), l[j]? = some x → x.isAgg = false ∧ ∃ u, cs[j]? = some u ∧ RepT m w o (b, j + 1) x u)
    (hv : RepL m q vs) (hle : off + q.length ≤ l.length) : Inv w0 m0 o0 G pins (upd S b (.box (splice l off (q.map .d)))) a (w.setRow g (splice cs.toList off vs).toArray) m o := by
  have hvl := hv.1
  have hsp : (splice cs.toList off vs).length = cs.toList.length := splice_length cs.toList off vs (by simp only [Array.length_toList]; omega)
  have hss : (splice cs.toList off vs).toArray.size = cs.size := by simpa using hsp
  refine I.box_put hb h1 h4 (cs' := (splice cs.toList off vs).toArray) hss o (fun _ => False) (fun s h => h.elim) (fun g l h _ _ => h) h1 (fun g l h => ⟨l, h⟩) I.inj (fun g l l' h h' k => by rw [h] at h'; injection h' with h'; rw [h']; exact k) ?_ (fun j z hj => ?_)
  · exact splice_length l off _ (by rw [List.length_map]; omega)
  · have hcs2 : (splice cs.toList off vs).toArray[j]? = (splice cs.toList off vs)[j]? := by simp
    rw [hcs2, splice_get cs.toList off vs (by simp only [Array.length_toList]; omega)]
    rw [splice_get l off _ (by rw [List.length_map]; omega), List.length_map] at hj
    rw [hvl]
    split at hj
    · rename_i hjo
      rw [if_pos hjo]
      rw [List.getElem?_map] at hj
      cases hq : q[j - off]? with
      | none => rw [hq] at hj; cases hj
      | some dd =>
        rw [hq] at hj
        injection hj with hj
        subst hj
        obtain ⟨u, k1, k2⟩ := hv.2 _ dd hq
        exact ⟨rfl, u, k1, k2⟩
    · rename_i hjo
      rw [if_neg hjo]
      obtain ⟨k0, u, k1, k2⟩ := h6 j z hj
      exact ⟨k0, u, by simpa using k1, rep_setRow h1 h4 hss (by intro e; injection e with _ e; omega) k0 k2⟩
theorem run_copy0 {t t' e ty : Nat} {ie : TypeInfo} {A1 A2 : Option Addr} {n1 c1 n2 c2 : Nat} (hu : P.underlying t = some (.slice e)) (hie : P.info? e = some ie) (h0 : min n2 n1 = 0) :
    (Builtin.copy_ #[t, t'] ty #[.slice A1 n1 c1, .slice A2 n2 c2]).run P w = .ok (goInt 0) w := by
  have h0' : Nat.min n2 n1 = 0 := h0
  cases A1 with
  | none => cases A2 with
    | none => simp [Builtin.copy_, run_underlying hu, Builtin.lenOf, Builtin.firstCells, sizeOf, typeInfo, hie, h0', storeCells]
    | some a2 =>
      have := run_loadCells_list (P := P) w a2 [] (fun j v h => by simp at h)
      simp only [List.length_nil] at this
      simp [Builtin.copy_, run_underlying hu, Builtin.lenOf, Builtin.firstCells, sizeOf, typeInfo, hie, h0', storeCells, this]
  | some a1 => cases A2 with
    | none => simp [Builtin.copy_, run_underlying hu, Builtin.lenOf, Builtin.firstCells, sizeOf, typeInfo, hie, h0', storeCells]
    | some a2 =>
      have := run_loadCells_list (P := P) w a2 [] (fun j v h => by simp at h)
      simp only [List.length_nil] at this
      simp [Builtin.copy_, run_underlying hu, Builtin.lenOf, Builtin.firstCells, sizeOf, typeInfo, hie, h0', storeCells, this]
theorem flat1 : ∀ {rs : List (List D)}, (∀ r ∈ rs, r.length = 1) → (rs.flatMap id).length = rs.length
  | rs, h => by rw [fl_len_of h, Nat.mul_one]
theorem splice_nil {α : Type} (l : List α) (off : Nat) : splice l off [] = l := by
  unfold splice
  simp
theorem ok_cpy (hM : Mk M S) {j off E n t t' e : Nat} {x y : Operand} {ie : TypeInfo} {l : List T} {l' : List (List D)} (hop : op.op = .call { callee := .builtin .copy, args := #[x, y], argTypes := #[t, t'] }) (hu : P.underlying t = some (.slice e)) (hie : P.info? e = some ie) (hs1 : ie.size = 1) (hx : ∀ {w0 m0 o0 G a w m o}, Inv w0 m0 o0 G pins S a w m o → RepT m w o (0, 0) (.view j off E 1 n) (a.eval x)) (hb : S (OB + j) = .box l) (hy : slD 1 (dO M y) = some l') (hr1 : ∀ r ∈ l', r.length = 1) (hle : off + n ≤ l.length) (hd : op.dst = some d) (hok : okD N pins S d = true) (hdO : d < OB) :
    OpOK P pins N op S (app S [(OB + j, .box (splice l off (((l'.take n).flatMap id).map .d))), (d, .t (.d (.lit (.int .i64 ((min l'.length n : Nat) : Int)))))]) := by
  refine ok_of_run fun w0 m0 o0 G a w m o hN I => ?_
  obtain ⟨h1, h2, h3⟩ := okD_iff hok
  have hv' : RepD m (.seq 1 l') (a.eval y) := slD_rep hy fun d hd => dO_rep hM I hd
  obtain ⟨A2, c2, xs, hyv, _, _, hrows, hone, hmx⟩ := hv'.rows
  obtain ⟨A1, c1, k1, k2, hxv, k4⟩ := hx I
  have hxl : xs.length = l'.length := by have := hrows.1; omega
  have hbox2 : ∀ x, (upd S (OB + j) x d).isBox = false := fun x => by rw [upd_other (by omega)]; exact h2
  by_cases h0 : min l'.length n = 0
  · have he : (l'.take n).flatMap id = [] := by
      have : (l'.take n).length = 0 := by rw [List.length_take]; omega
      rw [List.eq_nil_of_length_eq_zero this]
      rfl
    refine ⟨goInt 0, w, m, o, ?_, ?_⟩
    · unfold execOp
      rw [hop]
      simp only [resolve, invoke, builtin, Sem.run_bind, Sem.run_pure, Result.andThen_ok, List.map_toArray, List.map_cons, List.map_nil]
      rw [hxv, hyv, run_copy0 hu hie h0]
      rfl
    · rw [hd, he, h0]
      show Inv w0 m0 o0 G pins (upd (upd S (OB + j) (.box (splice l off []))) d _) _ w m o
      rw [splice_nil]
      have e1 : upd S (OB + j) (.box l) = S := by
        funext s
        unfold upd
        split
        · rename_i e; rw [e, hb]
        · rfl
      rw [e1]
      exact I.set d _ _ (by omega) h2 (.lit _ rfl)
  · obtain ⟨g, cs, E', q1, q2, q3, q4, _⟩ := k4.resolve_left fun e => by omega
    clear k4
    subst q2
    have hs := I.slots (OB + j)
    rw [hb] at hs
    obtain ⟨g', _, p1, p2, cs', E2, p3, p4, p5⟩ := hs
    have := I.inj _ _ _ q1 p1
    subst this
    rw [q3] at p3
    injection p3 with p3
    injection p3 with p3 p6
    subst p3 p6
    have hlen : (xs.take (min l'.length n)).length = Nat.min l'.length n := by
      rw [List.length_take, hxl]
      show min (min l'.length n) l'.length = min l'.length n
      omega
    have hp2 : 0 < xs.length := by rw [hxl]; exact Nat.lt_of_lt_of_le (Nat.pos_of_ne_zero h0) (Nat.min_le_left _ _)
    have hx0 : ∃ u, xs[0]? = some u := ⟨_, List.getElem?_eq_getElem hp2⟩
    obtain ⟨u0, hu0⟩ := hx0
    obtain ⟨g2, o2, rfl, _⟩ := hmx 0 u0 hu0
    have hrun := run_copy_row P w t t' op.type e g off n c1 ⟨g2, o2, none⟩ l'.length c2 cs E' (xs.take (min l'.length n)) hu (by rw [hie, ← hs1]; rfl) q3 hlen (fun q v hq => by
      rw [List.getElem?_take] at hq
      split at hq
      · obtain ⟨g3, o3, e3, hm3⟩ := hmx q v hq
        injection e3 with e3
        injection e3 with e3 e4
        subst e3 e4
        rw [Addr.add_mid]
        exact I.sat _ _ _ hm3
      · cases hq) (by rw [hlen]; show off + min l'.length n ≤ cs.size; omega) (fun v hv => hone v (List.mem_of_mem_take hv))
    have hwt : ∀ r ∈ l'.take n, r.length = 1 := fun r hr => hr1 r (List.mem_of_mem_take hr)
    have hql : ((l'.take n).flatMap id).length = min l'.length n := by rw [flat1 hwt, List.length_take, Nat.min_comm]
    have hrep : RepL m ((l'.take n).flatMap id) (xs.take (min l'.length n)) := by
      refine ⟨by rw [hlen, hql], fun q dd hq => ?_⟩
      have hlt : q < min l'.length n := by rw [← hql]; exact (List.getElem?_eq_some_iff.1 hq).1
      obtain ⟨r, hr⟩ : ∃ r, l'[q]? = some r := ⟨_, List.getElem?_eq_getElem (by omega)⟩
      have hrt : (l'.take n)[q]? = some r := by rw [List.getElem?_take, if_pos (by omega)]; exact hr
      have h5 := fl_cell_of hwt hrt (q := 0) (by omega)
      rw [Nat.mul_one, Nat.add_zero, hq] at h5
      obtain ⟨u, z1, z2⟩ := hrows.2.2 q r 0 dd hr h5.symm
      rw [Nat.mul_one, Nat.add_zero] at z1
      exact ⟨u, by rw [List.getElem?_take, if_pos hlt]; exact z1, z2⟩
    have J := I.box_spl (off := off) hb q1 q3 p4 p5 hrep (by rw [hql]; omega)
    refine ⟨goInt (xs.take (min l'.length n)).length, w.setRow g (splice cs.toList off (xs.take (min l'.length n))).toArray, m, o, ?_, ?_⟩
    · unfold execOp
      rw [hop]
      simp only [resolve, invoke, builtin, Sem.run_bind, Sem.run_pure, Result.andThen_ok, List.map_toArray, List.map_cons, List.map_nil]
      rw [hxv, hyv, hrun]
      rfl
    · rw [hd]
      have J2 := J.set d (.t (.d (.lit (.int .i64 ((min l'.length n : Nat) : Int))))) (goInt (xs.take (min l'.length n)).length) (by omega) (hbox2 _) (by rw [hlen]; exact RepD.lit _ rfl)
      exact J2
theorem h_cpy {α : Type} {cc : α → List D} {xl yl v : List α} (hM : Mk M S) {j off E n t t' e : Nat} {x y : Operand} {ie : TypeInfo} (hop : op.op = .call { callee := .builtin .copy, args := ⟨[x, y]⟩, argTypes := ⟨[t, t']⟩ }) (hu : P.underlying t = some (.slice e)) (hie : P.info? e = some ie) (hs1 : ie.size = 1) (hx : cpO M x = .t (.view j off E 1 n)) (hb : M (OB + j) = .box (fl (dT cc) xl)) (hc : ∀ a, (cc a).length = 1) (hy : slD 1 (dO M y) = some (yl.map cc)) (hv : cpyI xl off n yl = some v) (hj : Nat.blt (j + 1) OB = true) (hd : op.dst = some d) (hok : okD N pins S d = true) :
    OpH P pins N op S (app S [(OB + j, .box (fl (dT cc) v)), (d, .t (.d (.lit (.int .i64 ((min yl.length n : Nat) : Int)))))]) := by
  obtain ⟨h1, rfl⟩ := cpyI_iff hv
  refine .lo2 hj hok fun hN hlo => ?_
  rw [← cpy_row hc]
  have := ok_cpy (j := j) (off := off) (E := E) (n := n) (l := fl (dT cc) xl) (l' := yl.map cc) hM.hx hop hu hie hs1 (fun {w0 m0 o0 G a w m o} I => by
    have h := cpO_rep hM.hx I x 0
    rw [hx] at h
    exact h) (hx_boxM hM hb) hy (fun r hr => by obtain ⟨a, _, rfl⟩ := List.mem_map.1 hr; exact hc a) (by rw [fl_len (dT_len hc)]; omega) hd (okD_hx hN hok) (okD_lo hN hok)
  rw [List.length_map] at this
  exact this
end
section
variable {P : Program} {pins : List Nat} {N : Nat} {l0 : List Oper} {Q : SL → Prop} {r : List Oper} {op : Oper} {L : SL} {acc : List (List Nat × List Nat)} {T : List Nat}
/-- (an operation that does not look at the heap) -/
theorem d_h0 (X : List Nat) {e : Eff} {ks : List Nat} {L' : SL} (hT : frcNs (X ++ touch l0.toArray (gt L) op) some = some T) (hy : dyes l0 op L T) (hks : keys e = ks) (hk : ks.all T.contains = true)
    (h : ∀ S', Mk (mask T (gt L)) S' → (∀ d, T.contains d = true → okD N pins (gt L) d = true → okD N pins S' d = true) → OpH P pins N op S' (app S' e)) (hL : setL L e = L') (k : DOK P pins N l0 Q r ((T, ks) :: acc) L') : DOK P pins N l0 Q (op :: r) acc L := by
  have hT := touch_of hT
  subst hL hks
  have h' : ∀ S', (∀ t ∈ T, S' t = gt L t) → OpH P pins N op S' (app S' e) := fun S' hS => h S' (mask_Mk hS) fun d hd hok => by
    unfold okD at hok ⊢
    rw [hS d (by simpa using hd)]
    exact hok
  refine ⟨T, e, ⟨all_T hk, ?_⟩, k⟩
  rcases hy with hg | ⟨j, want, t, c, h1, h2, h3, h4, h5⟩
  · exact .inl ⟨hg, h'⟩
  · exact .inr ⟨j, want, t, h1, h2, by simpa using h3, .inl ⟨by rw [h4, h5], h'⟩⟩
end
end Go.Proofs.Ytjomnccladjpgaa
