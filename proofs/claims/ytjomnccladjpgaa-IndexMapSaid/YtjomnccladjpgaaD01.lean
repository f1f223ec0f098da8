/-
  Texts joined: see the remark at the head of each part.
-/
import Derived.Test.YtjomnccladjpgaaD00
import Derived.Great.BuildSlice
set_option linter.unusedVariables false
set_option linter.unusedSimpArgs false
/-
 Operations that make or write memory: variables, slices that grow.
-/
namespace Go.Proofs.Ytjomnccladjpgaa
open Go Go.RowKit
set_option linter.unusedVariables false
def newM (m : Mem) (g : Nat) (f : Nat → Option Value) : Mem := fun b p => if b = g then f p else m b p
def newO (o : OwnM) (d g : Nat) : OwnM := fun b => if b = g then some (d, 0) else if (o b).map (·.1) = some d then none else o b
section
variable {w0 : World} {m0 : Mem} {o0 : OwnM} {G : GD} {pins : List Nat} {S M : Nat → A} {a : Act} {w : World} {m : Mem} {o : OwnM} {P : Program}
theorem Inv.mem_none (I : Inv w0 m0 o0 G pins S a w m o) {g p : Nat} (h : w.heap.size ≤ g) : m g p = none := by
 cases hu : m g p with
 | none => rfl
 | some u =>
  have := World.block_lt_of_cell? w _ (I.sat _ _ _ hu)
  simp at this
  omega
theorem Inv.free (I : Inv w0 m0 o0 G pins S a w m o) {g d : Nat} (h : w.heap.size ≤ g) : ∀ l, o g = some l → l.1 = d := fun l hl => absurd (I.lt g l hl) (by omega)
theorem Inv.newG (I : Inv w0 m0 o0 G pins S a w m o) {g : Nat} (h : w.heap.size ≤ g) : G g ∨ w0.heap.size ≤ g := .inr (Nat.le_trans I.same.size h)
theorem Inv.own_put (I : Inv w0 m0 o0 G pins S a w m o) (d : Nat) (x : A) (v : Value) (f : Nat → Option Value) (g : Nat) (w' : World) (hd : d < a.tmps.size) (hbox : (S d).isBox = false) (hpin : d ∉ pins)
  (hgo : ∀ l, o g = some l → l.1 = d) (hG : G g ∨ w0.heap.size ≤ g) (hsame : Same (fun b => b = g ∧ b < w.heap.size) w w') (hg : g < w'.heap.size) (hmle : ∀ p u, m g p = some u → f p = some u)
  (hf : ∀ p u, f p = some u → w'.cell? ⟨g, p, none⟩ = some u) (hx : RepA (newM m g f) w' (newO o d g) (upd S d x) d x v) : Inv w0 m0 o0 G pins (upd S d x) (a.put (some d) v) w' (newM m g f) (newO o d g) := by
 have hle := I.same.size
 have hne : ∀ b l, o b = some l → l.1 ≠ d → b ≠ g := fun b l h1 h2 e => h2 (hgo l (e ▸ h1))
 have K : Keep (fun l => l.1 = d) m w o (newM m g f) w' (newO o d g) := by
  refine ⟨fun b p u h => ?_, fun b l h1 h2 => ?_, fun b l h1 h2 => ?_, fun b l h1 h2 => ?_, fun b j h1 => ?_, fun b s k hs h1 => ?_, fun b j h1 => ?_⟩
  ·
   unfold newM
   split
   · rename_i e; subst e; exact hmle p u h
   · exact h
  ·
   funext p
   unfold newM
   rw [if_neg (hne b l h1 h2)]
  · exact hsame.block b (I.lt b l h1) fun e => hne b l h1 h2 e.1
  ·
   unfold newO
   rw [if_neg (hne b l h1 h2), h1, if_neg (by simpa using h2)]
  ·
   have hdO : OB + j ≠ d := zE1 (Nat.lt_of_lt_of_le hd I.wide)
   unfold newO
   rw [if_neg (hne b _ h1 hdO), h1, if_neg (by simpa using hdO)]
  ·
   unfold newO at h1
   split at h1
   ·
    injection h1 with h1
    injection h1 with h1 _
    exact absurd h1.symm hs
   ·
    split at h1
    · cases h1
    · exact ⟨_, _, h1⟩
  · refine .of_lt fun h2 => hsame.block b h2 fun e => hne b _ h1 (zE1 (Nat.lt_of_lt_of_le hd I.wide)) e.1
 refine ⟨?_, ?_, I.mono.trans K.mle, ?_, ?_, ?_, ?_, ?_, ?_, I.defers, I.tbl, by rw [zA6]; exact I.wide, I.shps.keep I.pinned K.sh⟩
 ·
  refine I.same.trans (hsame.weaken ?_)
  rintro k ⟨rfl, hk⟩
  exact hG
 ·
  intro b p u h
  unfold newM at h
  split at h
  · rename_i e; subst e; exact hf p u h
  ·
   rename_i e
   have h1 := I.sat b p u h
   have hlt : b < w.heap.size := by have := World.block_lt_of_cell? w _ h1; simpa using this
   rw [World.cell?_of_block (w := w) (hsame.block b hlt fun e' => e e'.1)]
   exact h1
 ·
  intro b hb hg'
  rw [← I.old b hb hg']
  funext p
  unfold newM
  rw [if_neg]
  intro e
  subst e
  rcases hG with h | h
  · exact hg' h
  · omega
 ·
  intro b l h
  unfold newO at h
  split at h
  · rename_i e; subst e; exact hG
  ·
   split at h
   · cases h
   · exact I.own b l h
 ·
  intro b l h
  unfold newO at h
  split at h
  · rename_i e; subst e; exact hg
  ·
   split at h
   · cases h
   · exact Nat.lt_of_lt_of_le (I.lt b l h) hsame.size
 ·
  intro b b' l h h'
  unfold newO at h h'
  split at h
  ·
   rename_i e
   injection h with h
   subst h
   split at h'
   · rename_i e'; rw [e, e']
   ·
    split at h'
    · cases h'
    ·
     rename_i hn
     exact absurd (by rw [h']; rfl) hn
  ·
   split at h
   · cases h
   ·
    rename_i hn
    split at h'
    ·
     rename_i e'
     injection h' with h'
     subst h'
     exact absurd (by rw [h]; rfl) hn
    ·
     split at h'
     · cases h'
     · exact I.inj b b' l h h'
 ·
  intro s hs b hb
  have hsd : s ≠ d := hs.elim (fun hs e => hpin (e ▸ hs)) fun hs e => by have := I.wide; omega
  exact K.own b _ (I.pinned s hs b hb) hsd
 ·
  intro s
  rw [zGF]
  by_cases h : s = d
  ·
   subst h
   rw [if_pos ⟨rfl, hd⟩, zZ]
   exact hx
  ·
   rw [if_neg (fun e => h e.1), zH h]
   refine RepA.keep K (fun _ => h) (fun b off e hbO => ?_) (I.slots s)
   have hb : (∃ l, S b = .box l) → b ≠ d := fun ⟨l, hl⟩ e => by subst e; rw [hl] at hbox; cases hbox
   have hr := I.slots s
   rw [e] at hr
   obtain ⟨_, _, _, hr⟩ := hr
   exact ⟨hb (hr hbO), fun ⟨l, hl⟩ => ⟨l, by rw [zH (hb ⟨l, hl⟩), hl]⟩⟩
theorem zCt (m : Mem) (g : Nat) (f : Nat → Option Value) (p : Nat) : newM m g f g p = f p := by simp [newM]
theorem zAD (o : OwnM) (d g : Nat) : newO o d g g = some (d, 0) := by simp [newO]
theorem zIg (I : Inv w0 m0 o0 G pins S a w m o) {g : Nat} (h : w.heap.size ≤ g) (f : Nat → Option Value) : Mle m (newM m g f) := by
 intro b p u hu
 unfold newM
 rw [if_neg]
 · exact hu
 ·
  intro e
  subst e
  rw [I.mem_none h] at hu
  cases hu
def zEL : A → Option (List T)
 | .t (.d x) => some [.d x]
 | .t (.agg l) => some (l.map .d)
 | _ => none
theorem box_run (E : TypeId) (v : Value) (w : World) : (Instr.box E v).run P w = .ok (.pointer (some ⟨w.heap.size, 0, none⟩)) (w.alloc (.cells v.cells E)) := by
 simp [Instr.box, newVar, newRow]
theorem box_ok (I : Inv w0 m0 o0 G pins S a w m o) {d : Nat} {y : A} {l : List T} (E : TypeId) {v : Value} (hd : d < a.tmps.size) (hbox : (S d).isBox = false) (hpin : d ∉ pins) {s : Nat} (hy : RepA m w o S s y v) (hl : zEL y = some l) :
  ∃ m' o', Inv w0 m0 o0 G pins (upd S d (.box l)) (a.put (some d) (.pointer (some ⟨w.heap.size, 0, none⟩))) (w.alloc (.cells v.cells E)) m' o' := by
 have key : ∃ ds : List D, l = ds.map .d ∧ RepL m ds v.cells.toList := by
  cases y with
  | t z =>
   cases z with
   | d x =>
    injection hl with hl
    subst hl
    have : RepD m x v := hy
    exact ⟨[x], rfl, by rw [this.cells]; simp, fun j e hj => by
     rw [this.cells]
     cases j with
     | zero => injection hj with hj; subst hj; exact ⟨v, rfl, this⟩
     | succ j => simp at hj⟩
   | agg ds =>
    injection hl with hl
    subst hl
    obtain ⟨vs, e, h⟩ := hy
    subst e
    exact ⟨ds, rfl, h⟩
   | _ => cases hl
  | _ => cases hl
 obtain ⟨ds, rfl, hr⟩ := key
 refine ⟨_, _, I.own_put d _ _ (fun _ => none) w.heap.size _ hd hbox hpin (I.free (Nat.le_refl _)) (I.newG (Nat.le_refl _)) ((Same.alloc (fun _ => False) w _).weaken (fun _ h => h.elim)) (by simp) (fun p u h => by rw [I.mem_none (Nat.le_refl _)] at h; cases h) (fun p u h => by cases h) ?_⟩
 refine ⟨w.heap.size, fun _ => rfl, zAD _ _ _, fun p => zCt _ _ _ _, v.cells, E, heap_alloc_new w _, ?_, fun j x hj => ?_⟩
 ·
  have := hr.1
  simp at this ⊢
  omega
 ·
  rw [List.getElem?_map] at hj
  cases hd : ds[j]? with
  | none => rw [hd] at hj; cases hj
  | some e =>
   rw [hd] at hj
   injection hj with hj
   subst hj
   obtain ⟨u, h1, h2⟩ := hr.2 j e hd
   exact ⟨rfl, u, by simpa using h1, h2.mono (zIg I (Nat.le_refl _) _)⟩
def zFX (m : Mem) (k : Nat) (l : List (List D)) (xs : List Value) : Prop :=
 xs.length = l.length * k ∧ (∀ (i : Nat) (r : List D), l[i]? = some r → r.length = k) ∧ ∀ (i : Nat) (r : List D) (j : Nat) (d : D), l[i]? = some r → r[j]? = some d → ∃ u, xs[i * k + j]? = some u ∧ RepD m d u
theorem zFX.mono {m' : Mem} (h : Mle m m') {k : Nat} {l : List (List D)} {xs : List Value} (hr : zFX m k l xs) : zFX m' k l xs :=
 ⟨hr.1, hr.2.1, fun i r j d a b => let ⟨u, c, e⟩ := hr.2.2 i r j d a b; ⟨u, c, e.mono h⟩⟩
theorem zFX.append {k : Nat} {l l' : List (List D)} {xs ys : List Value} (h : zFX m k l xs) (h' : zFX m k l' ys) : zFX m k (l ++ l') (xs ++ ys) := by
 refine ⟨by rw [List.length_append, List.length_append, h.1, h'.1, Nat.add_mul], fun i r hi => ?_, fun i r j d hi hj => ?_⟩
 ·
  rw [List.getElem?_append] at hi
  split at hi
  · exact h.2.1 i r hi
  · exact h'.2.1 _ r hi
 ·
  rw [List.getElem?_append] at hi
  split at hi
  ·
   rename_i hlt
   obtain ⟨u, c, e⟩ := h.2.2 i r j d hi hj
   refine ⟨u, ?_, e⟩
   rw [List.getElem?_append_left]
   · exact c
   · exact (List.getElem?_eq_some_iff.1 c).1
  ·
   rename_i hge
   obtain ⟨u, c, e⟩ := h'.2.2 _ r j d hi hj
   refine ⟨u, ?_, e⟩
   rw [List.getElem?_append_right]
   ·
    rw [h.1]
    have : i * k + j - l.length * k = (i - l.length) * k + j := by
     rw [Nat.sub_mul]
     have := Nat.mul_le_mul_right k (Nat.le_of_not_lt hge)
     omega
    rw [this]
    exact c
   ·
    rw [h.1]
    have := Nat.mul_le_mul_right k (Nat.le_of_not_lt hge)
    omega
theorem mul_lt {i k j n : Nat} (hi : i < n) (hj : j < k) : i * k + j < n * k := by
 have := Nat.mul_le_mul_right k hi
 rw [Nat.succ_mul] at this
 omega
theorem RepD.rows {k : Nat} {l : List (List D)} {v : Value} (h : RepD m (.seq k l) v) : ∃ (A' : Option Addr) (cap : Nat) (xs : List Value), v = .slice A' l.length cap ∧ l.length ≤ cap ∧ cap ≤ maxLen ∧ zFX m k l xs ∧ (∀ u ∈ xs, u.oneCell' = true) ∧ ∀ j u, xs[j]? = some u → ∃ g o, A' = some ⟨g, o, none⟩ ∧ m g (o + j) = some u := by
 cases h with
 | seq _ _ A' cap g o f h1 h2 hA hw hm hr =>
  have key : ∀ q, q < l.length * k → ∃ r d, l[q / k]? = some r ∧ r[q % k]? = some d ∧ k ≠ 0 ∧ q / k * k + q % k = q := by
   intro q hq
   have hk : 0 < k := Nat.pos_of_ne_zero fun e => by subst e; simp at hq
   have hi : q / k < l.length := Nat.div_lt_of_lt_mul (by rw [Nat.mul_comm]; exact hq)
   have hr1 := hw (q / k) l[q / k] (List.getElem?_eq_getElem hi)
   have hj : q % k < l[q / k].length := by rw [hr1]; exact Nat.mod_lt _ hk
   exact ⟨_, _, List.getElem?_eq_getElem hi, List.getElem?_eq_getElem hj, by omega, by rw [Nat.mul_comm]; exact Nat.div_add_mod q k⟩
  refine ⟨A', cap, (List.range (l.length * k)).map fun q => f (q / k) (q % k), rfl, h1, h2, ⟨by simp, hw, fun i r j d hi hj => ?_⟩, fun u hu => ?_, fun q u hq => ?_⟩
  ·
   have hil : i < l.length := (List.getElem?_eq_some_iff.1 hi).1
   have hjk : j < k := by rw [← hw i r hi]; exact (List.getElem?_eq_some_iff.1 hj).1
   refine ⟨f i j, ?_, hr i r j d hi hj⟩
   rw [List.getElem?_map, List.getElem?_range (mul_lt hil hjk)]
   have e1 : (i * k + j) / k = i := by rw [Nat.mul_comm, Nat.mul_add_div (by omega), Nat.div_eq_of_lt hjk, Nat.add_zero]
   have e2 : (i * k + j) % k = j := by rw [Nat.mul_comm, Nat.mul_add_mod, Nat.mod_eq_of_lt hjk]
   simp [e1, e2]
  ·
   obtain ⟨q, hq, rfl⟩ := List.mem_map.1 hu
   obtain ⟨r, d, h3, h4, _, _⟩ := key q (List.mem_range.1 hq)
   exact (hr _ r _ d h3 h4).one
  ·
   rw [List.getElem?_map] at hq
   have hlt : q < l.length * k := by
    rcases Nat.lt_or_ge q (l.length * k) with h | h
    · exact h
    · rw [List.getElem?_eq_none (by simpa using h)] at hq; cases hq
   rw [List.getElem?_range hlt] at hq
   injection hq with hq
   subst hq
   obtain ⟨r, d, h3, h4, _, h5⟩ := key q hlt
   have hne : l ≠ [] := by intro e; subst e; simp at hlt
   refine ⟨g, o, hA hne, ?_⟩
   have := hm _ r _ d h3 h4
   rw [Nat.add_assoc, h5] at this
   exact this
theorem zF7 {P : Program} (w : World) (t ty e e2 : TypeId) (i : TypeInfo) (ht : P.underlying t = some (.slice e)) (hi : P.info? e = some i)
  (g q0 sLen sCap : Nat) (cur : Array Value) (hg : w.heap[g]? = some (.cells cur e2 (0, 0)))
  (a : Addr) (m c : Nat) (news : List Value) (hl : news.length = m * i.size) (hnews : ∀ j u, news[j]? = some u → w.cell? (a.add j) = some u) (h1 : ∀ u ∈ news, u.oneCell' = true)
  (hroom : sLen + m ≤ sCap) (hfit : q0 + sLen * i.size + news.length ≤ cur.size) :
  (Builtin.append_ #[t, t] ty #[.slice (some ⟨g, q0, none⟩) sLen sCap, .slice (some a) m c]).run P w =
   .ok (.slice (some ⟨g, q0, none⟩) (sLen + m) sCap) (w.setRow g (cur.toList.take (q0 + sLen * i.size) ++ news ++ cur.toList.drop (q0 + sLen * i.size + news.length)).toArray) := by
 have hf := run_firstCells_some (P := P) w i.size m a m c news hl hnews
 have hst := run_storeCells_at P g (q0 + sLen * i.size) e2 news 0 cur w hg (by simpa using hfit) h1
 simp only [Nat.add_zero] at hst
 simp [Builtin.append_, run_underlying ht, sizeOf, typeInfo, hi, Builtin.lenOf, hroom, hf, Addr.add_lit, hst]
theorem zJg (w : World) {t e E0 : TypeId} {sz nb : Nat} (E : zEY P t e sz nb) (hE0 : e = E0 ∨ E0 = OFB) (ty : TypeId) (A' : Option Addr) (n c : Nat) (xs : List Value) (hown : zDb w E0 sz (.slice A' n c) n xs)
  (B' : Option Addr) (k c' : Nat) (news : List Value) (hl : news.length = k * sz) (hnews : Row w B' news) (h1 : ∀ u ∈ news, u.oneCell' = true) (hb : (n + k) * nb ≤ 140737488355328) (hnil : news ≠ []) :
  ∃ A2 c2 w', (Builtin.append_ #[t, t] ty #[.slice A' n c, .slice B' k c']).run P w = .ok (.slice A2 (n + k) c2) w' ∧ zDb w' E0 sz (.slice A2 (n + k) c2) (n + k) (xs ++ news) ∧
   ((A2 = A' ∧ c2 = c ∧ n + k ≤ c ∧ (∀ g p u, blk A' = some g → p < offA A' → w.cell? ⟨g, p, none⟩ = some u → w'.cell? ⟨g, p, none⟩ = some u) ∧ w.grownBy w' (blk A') ∧ ∀ g, zBA w w' g) ∨ (A2 = some ⟨w.heap.size, 0, none⟩ ∧ w.grownBy w' none)) := by
 obtain ⟨i, z, hi, hz, rfl, rfl, hzs⟩ := E.info
 have h63 : n + k ≤ maxLen := by
  have := Nat.le_mul_of_pos_right (n + k) E.posb
  unfold maxLen; omega
 have hsmall : n + k ≤ 9223372036854775807 := by simp only [maxLen] at h63; omega
 cases B' with
 | none =>
  have hn : news = [] := by
   cases news with
   | nil => rfl
   | cons u r =>
    obtain ⟨ad, h, _⟩ := hnews 0 u rfl
    cases h
  exact absurd hn hnil
 | some ad =>
  have hcells : ∀ j u, news[j]? = some u → w.cell? (ad.add j) = some u := by
   intro j u hu
   obtain ⟨ad', h, hc⟩ := hnews j u hu
   injection h with h
   subst h
   exact hc
  have hlen : (xs ++ news).length = (n + k) * i.size := by rw [List.length_append, hown.1, hl, Nat.add_mul]
  have grown : ∀ (old : Nat), old < n + k → 
    zDb (w.drew.alloc (.cells (xs.toArray ++ news.toArray ++ Builtin.zeroCells z.cells (grownCap w (n + k) old e - (n + k))) e)) E0 i.size (.slice (some ⟨w.heap.size, 0, none⟩) (n + k) (grownCap w (n + k) old e)) (n + k) (xs ++ news) ∧
    w.grownBy (w.drew.alloc (.cells (xs.toArray ++ news.toArray ++ Builtin.zeroCells z.cells (grownCap w (n + k) old e - (n + k))) e)) none := by
   intro old ho
   have hge := grownCap_ge w (n + k) old e
   have hcm : grownCap w (n + k) old e ≤ maxLen := grownCap_le_maxLen w (n + k) old e h63
   have hsz0 : (xs.toArray ++ news.toArray ++ Builtin.zeroCells z.cells (grownCap w (n + k) old e - (n + k))).size = grownCap w (n + k) old e * i.size := by
    simp only [Array.size_append, List.size_toArray, size_zeroCells, hzs, hown.1, hl, ← Nat.add_mul]
    congr 1
    omega
   refine ⟨⟨hlen, .inr ⟨w.heap.size, 0, _, _, rfl, ⟨_, heap_alloc_new w.drew _, hE0.elim (fun h => .inr ⟨h, rfl, hsz0⟩) .inl⟩, hge, hcm, .inl ?_, ?_⟩⟩, ⟨rfl, rfl, rfl, by simp, fun q hq _ => Below.heap_alloc w.drew _ q hq⟩⟩
   · rw [Nat.zero_add]; exact hsz0
   ·
    simp only [Array.toList_append, List.append_assoc, List.drop_zero]
    rw [← List.append_assoc, ← hlen]
    exact List.take_left
  rcases hown.2 with ⟨hv, rfl⟩ | ⟨g, q0, cap, cur, hv, ⟨e2, hg, he⟩, hnc, hcm, hcs, htake⟩
  ·
   injection hv with hv hv2 hv3
   subst hv hv3
   have hx : xs = [] := List.eq_nil_of_length_eq_zero (by simpa using hown.1)
   subst hx
   by_cases hm : k = 0
   ·
    subst hm
    exact absurd (List.eq_nil_of_length_eq_zero (by simpa using hl)) hnil
   ·
    have hr := run_append_nil (P := P) w t ty e i z E.under hi hz ad k c' news hl hcells (by omega) (by omega) (by have hb := hb; simp only [Nat.zero_add] at hb; omega)
    have hgr := grown 0 (by omega)
    simp only [Nat.zero_add, List.nil_append, Array.empty_append] at hgr ⊢
    exact ⟨_, _, _, hr, hgr.1, .inr ⟨rfl, hgr.2⟩⟩
  ·
   injection hv with hv hv2 hv3
   subst hv hv3
   have hcellq : ∀ p, w.cell? ⟨g, p, none⟩ = cur[p]? := fun p => by unfold World.cell?; simp [hg]
   by_cases hroom : n + k ≤ c
   ·
    have hnc' : n * i.size + k * i.size ≤ c * i.size := by rw [← Nat.add_mul]; exact Nat.mul_le_mul_right _ hroom
    have hk0 : 0 < k := by
     rcases Nat.eq_zero_or_pos k with h | h
     · rw [h, Nat.zero_mul] at hl; exact absurd (List.eq_nil_of_length_eq_zero hl) hnil
     · exact h
    have hcs : cur.size = q0 + c * i.size := hcs.resolve_right fun h => by omega
    have hfit : q0 + n * i.size + news.length ≤ cur.size := by rw [hl, hcs]; omega
    have hr := zF7 (P := P) w t ty e e2 i E.under hi g q0 n c cur hg ad k c' news hl hcells h1 hroom hfit
    have hsz : (cur.toList.take (q0 + n * i.size) ++ news ++ cur.toList.drop (q0 + n * i.size + news.length)).length = cur.size := by
     simp only [List.length_append, List.length_take, List.length_drop, Array.length_toList]
     omega
    refine ⟨_, _, _, hr, ⟨hlen, .inr ⟨g, q0, c, _, rfl, ⟨e2, setRow_heap w g cur _ e2 _ hg, he.imp id fun ⟨a, b, c⟩ => ⟨a, b, by rw [List.size_toArray, hsz]; exact c⟩⟩, hroom, hcm, .inl ?_, ?_⟩⟩, .inl ⟨rfl, rfl, hroom, fun g' p u hb hp hu => ?_, ⟨rfl, rfl, rfl, by simp, fun k _ hk => setRow_other w g k _ (fun e => hk (by simp [blk, e]))⟩, fun q => ?_⟩⟩
    · rw [List.size_toArray, hsz]; exact hcs
    ·
     show ((cur.toList.take (q0 + n * i.size) ++ news ++ cur.toList.drop (q0 + n * i.size + news.length)).drop q0).take ((n + k) * i.size) = xs ++ news
     have e1 : (cur.toList.take (q0 + n * i.size)).drop q0 = xs := by rw [List.drop_take, Nat.add_sub_cancel_left]; exact htake
     have e2 : q0 ≤ (cur.toList.take (q0 + n * i.size)).length := by simp only [List.length_take, Array.length_toList]; omega
     rw [List.append_assoc, List.drop_append_of_le_length e2, e1, ← List.append_assoc, ← hlen]
     exact List.take_left
    ·
     injection hb with hb
     subst hb
     have hp : p < q0 := hp
     rw [hcellq] at hu
     have hlt := (Array.getElem?_eq_some_iff.1 hu).1
     have e4 : (cur.toList.take (q0 + n * i.size) ++ news ++ cur.toList.drop (q0 + n * i.size + news.length))[p]? = cur[p]? := by
      rw [List.append_assoc, List.getElem?_append_left (by simp only [List.length_take, Array.length_toList]; omega), List.getElem?_take, if_pos (by omega), Array.getElem?_toList]
     have e5 : (w.setRow g (cur.toList.take (q0 + n * i.size) ++ news ++ cur.toList.drop (q0 + n * i.size + news.length)).toArray).cell? ⟨g, p, none⟩ = (cur.toList.take (q0 + n * i.size) ++ news ++ cur.toList.drop (q0 + n * i.size + news.length))[p]? := by
      unfold World.cell?
      simp [setRow_heap w g cur _ e2 _ hg]
     rw [← hu, ← e4]
     exact e5
    ·
     by_cases e1 : q = g
     ·
      subst e1
      intro cs E1 f1 hq
      rw [hg] at hq
      injection hq with hq
      injection hq with hq1 hq2 hq3
      subst hq1 hq2 hq3
      exact ⟨_, setRow_heap w q _ _ _ _ hg, by rw [List.size_toArray, hsz]⟩
     · exact .of_eq (setRow_other w g q _ e1)
   ·
    have holds : ∀ j u, xs[j]? = some u → w.cell? ((⟨g, q0, none⟩ : Addr).add j) = some u := fun j u hj => by
     rw [Addr.add_mid, hcellq, ← Array.getElem?_toList]
     rw [← htake, List.getElem?_take] at hj
     split at hj
     · rw [List.getElem?_drop] at hj; exact hj
     · cases hj
    have hr := run_append_grow (P := P) w t ty e i z E.under hi hz ⟨g, q0, none⟩ n c xs hown.1 holds ad k c' news hl hcells (by omega) (by omega) (growslice_fits (by omega) hb)
    have hgr := grown c (by omega)
    exact ⟨_, _, _, hr, hgr.1, .inr ⟨rfl, hgr.2⟩⟩
theorem Inv.dropX (I : Inv w0 m0 o0 G pins S a w m o) (s : Nat) (hs : s ∉ pins) (hsO : s < OB) {x : T} (hx : S s = .t x) (hx2 : (∃ d, x = .d d) ∨ x = .any) : ∃ o', Inv w0 m0 o0 G pins S a w m o' ∧ (∀ g l, o' g = some l → l.1 ≠ s ∧ o g = some l) := by
 have hk : ∀ g l, (fun b => if (o b).map (·.1) = some s then none else o b) g = some l → l.1 ≠ s ∧ o g = some l := by
  intro g l h
  simp only at h
  split at h
  · cases h
  ·
   rename_i hn
   exact ⟨fun e => hn (by rw [h, ← e]; rfl), h⟩
 have K : Keep (fun l => l.1 = s) m w o m w (fun b => if (o b).map (·.1) = some s then none else o b) :=
  ⟨Mle.refl _, fun _ _ _ _ => rfl, fun _ _ _ _ => rfl, fun g l h hn => by
   show (if (o g).map (·.1) = some s then none else o g) = _
   rw [h, if_neg (by simpa using hn)], fun g j h => by
   show (if (o g).map (·.1) = some s then none else o g) = _
   rw [h, if_neg (by simpa using zE1 hsO)], fun g t k _ h => ⟨g, k, (hk g _ h).2⟩, fun g _ _ => .of_eq rfl⟩
 refine ⟨_, ⟨I.same, I.sat, I.mono, I.old, fun g l h => I.own g l (hk g l h).2, fun g l h => I.lt g l (hk g l h).2, fun g g' l h h' => I.inj g g' l (hk g l h).2 (hk g' l h').2, fun p hp g hg => ?_, fun t => ?_, I.defers, I.tbl, I.wide, I.shps⟩, hk⟩
 · exact K.own g _ (I.pinned p hp g hg) (fun e => hp.elim (fun hp => hs (by rw [← e]; exact hp)) fun hp => by have e : p = s := e; omega)
 ·
  have h := I.slots t
  by_cases e : t = s
  ·
   subst e
   rw [hx] at h ⊢
   rcases hx2 with ⟨d, rfl⟩ | rfl
   · exact h
   · exact h
  ·
   refine RepA.keep K (fun _ => e) (fun b off he hbO => ?_) h
   rw [he] at h
   obtain ⟨_, _, _, hl⟩ := h
   obtain ⟨l, hl⟩ := hl hbO
   exact ⟨fun e2 => (by rw [show b = s from e2, hx] at hl; cases hl), id⟩
theorem Inv.drop (I : Inv w0 m0 o0 G pins S a w m o) (s : Nat) (hs : s ∉ pins) (hsO : s < OB) {x : D} (hx : S s = .t (.d x)) : ∃ o', Inv w0 m0 o0 G pins S a w m o' ∧ (∀ g l, o' g = some l → l.1 ≠ s ∧ o g = some l) := I.dropX s hs hsO hx (.inl ⟨x, rfl⟩)
theorem Inv.degrade (I : Inv w0 m0 o0 G pins S a w m o) (s : Nat) (hbox : (S s).isBox = false) : Inv w0 m0 o0 G pins (upd S s (cpA (S s))) a w m o := by
 refine ⟨I.same, I.sat, I.mono, I.old, I.own, I.lt, I.inj, I.pinned, fun t => ?_, I.defers, I.tbl, I.wide, I.shps⟩
 have hk : RepA m w o (upd S s (cpA (S s))) t (S t) (a.tmps.getD t undef) := by
  refine RepA.keep (C := fun _ => False) ⟨Mle.refl _, fun _ _ _ _ => rfl, fun _ _ _ _ => rfl, fun _ _ h _ => h, fun _ _ h => h, fun g _ k _ h => ⟨g, k, h⟩, fun g _ _ => .of_eq rfl⟩ (fun _ => id) (fun b off e _ => ⟨id, fun ⟨l, hl⟩ => ⟨l, ?_⟩⟩) (I.slots t)
  have : b ≠ s := fun e => by subst e; rw [hl] at hbox; cases hbox
  rw [zH this, hl]
 by_cases h : t = s
 ·
  subst h
  rw [zZ]
  revert hk
  generalize a.tmps.getD t undef = v
  generalize upd S t (cpA (S t)) = S'
  intro hk
  cases hx : S t with
  | t x => rw [hx] at hk; exact zC1 I.sat hk
  | tup l =>
   rw [hx] at hk
   obtain ⟨vs, e, h1, h2⟩ := hk
   refine ⟨vs, e, by simpa using h1, fun j y hj => ?_⟩
   rw [List.getElem?_map] at hj
   cases hu : l[j]? with
   | none => rw [hu] at hj; cases hj
   | some z =>
    rw [hu] at hj
    injection hj with hj
    subst hj
    obtain ⟨u, h3, h4⟩ := h2 j z hu
    exact ⟨u, h3, zC1 I.sat h4⟩
  | imm l => rw [hx] at hk; exact hk
  | box l => rw [hx] at hbox; cases hbox
  | ref b off => rw [hx] at hk; exact hk
  | free => trivial
  | hp f => trivial
  | mp l => trivial
  | rcd b u mE oE => trivial
  | ck f cs => rw [hx] at hk; exact hk
  | cl f caps =>
   rw [hx] at hk
   obtain ⟨ptrs, e, h1, h2⟩ := hk
   refine ⟨ptrs, e, by simpa using h1, fun i l hi => ?_⟩
   rw [List.getElem?_map] at hi
   cases hu : caps[i]? with
   | none => rw [hu] at hi; cases hi
   | some z =>
    rw [hu] at hi
    injection hi with hi
    subst hi
    obtain ⟨g, h3, h4⟩ := h2 i z hu
    refine ⟨g, h3, fun j y hj => ?_⟩
    rw [List.getElem?_map] at hj
    cases hw : z[j]? with
    | none => rw [hw] at hj; cases hj
    | some q =>
     rw [hw] at hj
     injection hj with hj
     subst hj
     obtain ⟨u, h5, h6⟩ := h4 j q hw
     exact ⟨u, h5, zC1 I.sat h6⟩
  | imt l =>
   rw [hx] at hk
   obtain ⟨g, h3, h4⟩ := hk
   refine ⟨g, h3, fun j y hj => ?_⟩
   rw [List.getElem?_map] at hj
   cases hw : l[j]? with
   | none => rw [hw] at hj; cases hj
   | some q =>
    rw [hw] at hj
    injection hj with hj
    subst hj
    obtain ⟨u, h5, h6⟩ := h4 j q hw
    exact ⟨u, h5, zC1 I.sat h6⟩
  | ag l =>
   rw [hx] at hk
   obtain ⟨vs, e, h1, h2⟩ := hk
   refine ⟨vs, e, by simpa using h1, fun j y hj => ?_⟩
   rw [List.getElem?_map] at hj
   cases hu : l[j]? with
   | none => rw [hu] at hj; cases hj
   | some z =>
    rw [hu] at hj
    injection hj with hj
    subst hj
    obtain ⟨u, h3, h5, h4⟩ := h2 j z hu
    exact ⟨u, h3, h5, zC1 I.sat h4⟩
  | lst l =>
   rw [hx] at hk
   obtain ⟨g, cap, e, h1, h2, h6⟩ := hk
   refine ⟨g, cap, by simpa using e, by simpa using h1, h2, fun j y hj => ?_⟩
   rw [List.getElem?_map] at hj
   cases hu : l[j]? with
   | none => rw [hu] at hj; cases hj
   | some z =>
    rw [hu] at hj
    injection hj with hj
    subst hj
    obtain ⟨u, h3, h4⟩ := h6 j z hu
    exact ⟨u, h3, zC1 I.sat h4⟩
  | fr E k => trivial
  | any => trivial
 ·
  rw [zH h]
  exact hk
theorem zDb.addr {A' : Option Addr} {n c : Nat} {xs : List Value} {e sz : Nat} {w : World} (h : zDb w e sz (.slice A' n c) n xs) : (A' = none ∧ c = 0) ∨ ∃ g q cur, A' = some ⟨g, q, none⟩ ∧ ownE w e g q (c * sz) cur ∧ n ≤ c ∧ c ≤ maxLen ∧ (cur.size = q + c * sz ∨ c = 0 ∧ q ≤ cur.size) ∧ (cur.toList.drop q).take (n * sz) = xs := by
 rcases h.2 with ⟨hv, _⟩ | ⟨g, q, cap, cur, hv, h1, h2, h3, h4, h5⟩
 · injection hv with hv _ hc; exact .inl ⟨hv, hc⟩
 · injection hv with hv _ hc; subst hc; exact .inr ⟨g, q, cur, hv, h1, h2, h3, h4, h5⟩
theorem zDb.lt {A' : Option Addr} {n c : Nat} {xs : List Value} {e sz g : Nat} {w : World} (h : zDb w e sz (.slice A' n c) n xs) (hg : blk A' = some g) : g < w.heap.size := by
 rcases h.addr with ⟨rfl, _⟩ | ⟨g', q, cur, rfl, ⟨_, h1, _⟩, _⟩
 · cases hg
 · injection hg with hg; subst hg; exact (Array.getElem?_eq_some_iff.1 h1).1
theorem zDb.cellAt {A' : Option Addr} {n c : Nat} {xs : List Value} {e sz g : Nat} {w : World} (h : zDb w e sz (.slice A' n c) n xs) (hg : blk A' = some g) {p : Nat} {u : Value} (hp : xs[p]? = some u) : w.cell? ⟨g, offA A' + p, none⟩ = some u := by
 rcases h.addr with ⟨rfl, _⟩ | ⟨g', q, cur, rfl, ⟨_, h1, _⟩, _, _, _, h5⟩
 · cases hg
 ·
  injection hg with hg
  subst hg
  unfold World.cell?
  simp only [h1, blk] at *
  rw [← h5, List.getElem?_take] at hp
  split at hp
  · rw [List.getElem?_drop, Array.getElem?_toList] at hp; exact hp
  · cases hp
theorem zGg {A' : Option Addr} {n c : Nat} {xs : List Value} {e sz : Nat} {w : World} (h : zDb w e sz (.slice A' n c) n xs) : A' = none ∨ ∃ g q, A' = some ⟨g, q, none⟩ := by
 rcases h.addr with ⟨h, _⟩ | ⟨g, q, _, h, _⟩
 · exact .inl h
 · exact .inr ⟨g, q, h⟩
theorem blk_addr {A' : Option Addr} {n c : Nat} {xs : List Value} {e sz : Nat} {w : World} (h : Own w 0 e sz A' n c xs) : A' = none ∨ ∃ g, A' = some ⟨g, 0, none⟩ := by
 rcases h.2 with ⟨hv, _⟩ | ⟨g, cap, cur, hv, _⟩
 · injection hv with hv; exact .inl hv
 · injection hv with hv; exact .inr ⟨g, hv⟩
theorem Own.cellAt {A' : Option Addr} {n c : Nat} {xs : List Value} {e sz g : Nat} {w : World} (h : Own w 0 e sz A' n c xs) (hg : blk A' = some g) {p : Nat} {u : Value} (hp : xs[p]? = some u) : w.cell? ⟨g, p, none⟩ = some u := by
 rcases blk_addr h with rfl | ⟨g', rfl⟩
 · cases hg
 ·
  injection hg with hg
  subst hg
  have := World.ownsRow.cells h (g := g') rfl p u hp
  rwa [Addr.add_mid, Nat.zero_add] at this
theorem zEw (m : Mem) (g : Nat) (f : Nat → Option Value) (p : Nat) : newM m g f g (offA (some ⟨g, 0, none⟩) + p) = f p := by
 show newM m g f g (0 + p) = _
 rw [Nat.zero_add]
 simp [newM]
theorem zDb.own {A' : Option Addr} {n c : Nat} {xs : List Value} {E sz : Nat} {w : World} (h : zDb w E sz (.slice A' n c) n xs) (hEO : Nat.blt E OFB = true) : Own w 0 E sz A' n c xs := by
 refine ⟨h.1, ?_⟩
 rcases h.2 with h | ⟨g, q, cap, cur, e1, ⟨E2, hg, hE2⟩, hcap, hmax, hsz, htk⟩
 · exact .inl h
 ·
  obtain ⟨hEE, rfl, hsz1⟩ := hE2.resolve_left fun h => by rw [h] at hEO; simp at hEO
  rw [hEE] at hg
  rw [List.drop_zero] at htk
  exact .inr ⟨g, cap, cur, e1, Nat.zero_le _, hg, hcap, hmax, hsz1, htk⟩
def appM (A : Option Addr) (mg : Nat → Option Value) (ys : List Value) : Nat → Option Value := fun p => if p < offA A then mg p else ys[p - offA A]?
theorem app_ok (I : Inv w0 m0 o0 G pins S a w m o) {t e E0 sz nb : Nat} (E : zEY P t e sz nb) (hE0 : e = E0 ∨ E0 = OFB) (ty : TypeId) {d : Nat} (hd : d < a.tmps.size) (hbox : (S d).isBox = false) (hpin : d ∉ pins)
  {A' : Option Addr} {c : Nat} {l : List (List D)} {xs : List Value} (hown : zDb w E0 sz (.slice A' l.length c) l.length xs) (hrows : zFX m sz l xs) (hblk : ∀ g, blk A' = some g → (∀ l, o g = some l → l.1 = d) ∧ (G g ∨ w0.heap.size ≤ g) ∧ g < w.heap.size ∧ ∀ p, p < c * sz → m g (offA A' + p) = xs[p]?)
  {l' : List (List D)} {v' : Value} (hv' : RepD m (.seq sz l') v') (hb : (l.length + l'.length) * nb ≤ 140737488355328) :
  ∃ v w' m' o', (Builtin.append_ #[t, t] ty #[.slice A' l.length c, v']).run P w = .ok v w' ∧ Inv w0 m0 o0 G pins (upd S d (.t (.own E0 sz (l ++ l')))) (a.put (some d) v) w' m' o' := by
 obtain ⟨B', c', news, rfl, _, _, hr', h1, hm'⟩ := hv'.rows
 have hnews : Row w B' news := by
  intro j u hu
  obtain ⟨g, p, e, hmm⟩ := hm' j u hu
  exact ⟨_, e, by rw [Addr.add_mid]; exact I.sat _ _ _ hmm⟩
 by_cases hnil : news = []
 ·
  subst hnil
  have hk : l'.length = 0 := by
   rcases Nat.eq_zero_or_pos l'.length with h | h
   · exact h
   ·
    have h2 := Nat.mul_pos h E.pos
    have h3 := hr'.1
    rw [List.length_nil] at h3
    omega
  have hl' : l' = [] := List.eq_nil_of_length_eq_zero hk
  subst hl'
  have hcap : l.length ≤ c := by
   rcases hown.2 with ⟨hv, h0⟩ | ⟨g, q, cap, cur, hv, _, h, _⟩
   · omega
   · injection hv with _ _ hv; subst hv; exact h
  have hrun : (Builtin.append_ #[t, t] ty #[.slice A' l.length c, .slice B' 0 c']).run P w = .ok (.slice A' l.length c) w := by
   obtain ⟨i, z, hi, hz, rfl, rfl, hzs⟩ := E.info
   have hf : (Builtin.firstCells i.size 0 (.slice B' 0 c')).run P w = .ok #[] w := by
    cases B' with
    | none => simp [Builtin.firstCells]
    | some ad => simpa using run_firstCells_some (P := P) w i.size 0 ad 0 c' [] (by simp) (fun j u h => by simp at h)
   cases A' <;> simp [Builtin.append_, run_underlying E.under, sizeOf, typeInfo, hi, Builtin.lenOf, hcap, hf, storeCells]
  refine ⟨.slice A' l.length c, w, ?_⟩
  rw [List.append_nil]
  rcases hown.addr with ⟨rfl, _⟩ | ⟨g, q, cur, rfl, _⟩
  · exact ⟨m, o, hrun, I.put d _ _ hd hbox ⟨none, c, xs, rfl, hown, fun g hg => (by cases hg), hrows.2.1, hrows.2.2⟩ I.same I.sat (Mle.refl _) (fun _ _ => rfl) (fun _ _ => rfl) (Nat.le_refl _)⟩
  ·
   obtain ⟨h2, h3, h4, h5⟩ := hblk g rfl
   have hme : newM m g (m g) = m := by
    funext b p
    unfold newM
    split
    · rename_i e; rw [e]
    · rfl
   refine ⟨_, _, hrun, I.own_put d _ _ (m g) g w hd hbox hpin h2 h3 (Same.refl _ _) h4 (fun p u h => h) (fun p u h => I.sat g p u h) ?_⟩
   rw [hme]
   refine ⟨some ⟨g, q, none⟩, c, xs, rfl, hown, fun g' hg' => ?_, hrows.2.1, hrows.2.2⟩
   injection hg' with hg'
   subst hg'
   exact ⟨zAD _ _ _, h5⟩
 obtain ⟨A2, c2, w', hrun, hown2, hcase⟩ := zJg (P := P) w E hE0 ty A' l.length c xs hown B' l'.length c' news hr'.1 hnews h1 hb hnil
 refine ⟨.slice A2 (l.length + l'.length) c2, w', ?_⟩
 have hwid : ∀ (i : Nat) (r : List D), (l ++ l')[i]? = some r → r.length = sz := (hrows.append hr').2.1
 have fin : ∀ (g : Nat), blk A2 = some g → (∀ l, o g = some l → l.1 = d) → (G g ∨ w0.heap.size ≤ g) → Same (fun b => b = g ∧ b < w.heap.size) w w' → (∀ p u, m g p = some u → appM A2 (m g) (xs ++ news) p = some u) → (∀ p u, p < offA A2 → m g p = some u → w'.cell? ⟨g, p, none⟩ = some u) → ∃ m' o', (Builtin.append_ #[t, t] ty #[.slice A' l.length c, .slice B' l'.length c']).run P w = .ok (.slice A2 (l.length + l'.length) c2) w' ∧ Inv w0 m0 o0 G pins (upd S d (.t (.own E0 sz (l ++ l')))) (a.put (some d) (.slice A2 (l.length + l'.length) c2)) w' m' o' := by
  intro g hg h2 h3 h4 h5 h6
  have hlt : g < w'.heap.size := zDb.lt hown2 hg
  refine ⟨_, _, hrun, I.own_put d _ _ (appM A2 (m g) (xs ++ news)) g w' hd hbox hpin h2 h3 h4 hlt h5 (fun p u hp => ?_) ?_⟩
  ·
   unfold appM at hp
   split at hp
   · rename_i hq; exact h6 p u hq hp
   ·
    rename_i hq
    have := zDb.cellAt hown2 hg hp
    rwa [show offA A2 + (p - offA A2) = p by omega] at this
  have hmle : Mle m (newM m g (appM A2 (m g) (xs ++ news))) := by
   intro b p u hu
   unfold newM
   split
   · rename_i e; subst e; exact h5 p u hu
   · exact hu
  refine ⟨A2, c2, xs ++ news, by rw [List.length_append], by rw [List.length_append]; exact hown2, fun g' hg' => ?_, hwid, ((hrows.append hr').mono hmle).2.2⟩
  rw [hg] at hg'
  injection hg' with hg'
  subst hg'
  refine ⟨zAD _ _ _, fun p _ => ?_⟩
  rw [zCt]
  unfold appM
  rw [if_neg (by omega), Nat.add_sub_cancel_left]
 rcases hcase with ⟨rfl, rfl, hroom, hcl, hgr, hshp⟩ | ⟨hb2, hgr⟩
 ·
  rcases hown.addr with ⟨rfl, _⟩ | ⟨g, q, cur, rfl, ⟨_, hcg, _⟩, _, _, hcs, _⟩
  ·
   have hS : Same (fun _ => False) w w' := ⟨hgr.os, hgr.tape, hgr.output, hgr.size, fun k hk _ => hgr.block k hk (by simp [blk]), fun k => (hshp k).w⟩
   refine ⟨m, o, hrun, I.put d _ _ hd hbox ⟨none, c2, xs ++ news, by rw [List.length_append], by rw [List.length_append]; exact hown2, fun g hg => (by cases hg), hwid, (hrows.append hr').2.2⟩ (I.same.trans (hS.weaken fun _ h => h.elim)) (fun b p u h => ?_) (Mle.refl _) (fun _ _ => rfl) (fun g hg => hS.block g hg id) hgr.size⟩
   have h1 := I.sat b p u h
   have hlt : b < w.heap.size := by have := World.block_lt_of_cell? w _ h1; simpa using this
   rw [World.cell?_of_block (w := w) (hS.block b hlt id)]
   exact h1
  ·
   obtain ⟨h2, h3, h4, h5⟩ := hblk g rfl
   refine fin g rfl h2 h3 ⟨hgr.os, hgr.tape, hgr.output, hgr.size, fun k hk hn => hgr.block k hk fun e => hn ?_, fun k => (hshp k).w⟩ (fun p u hu => ?_) fun p u hp hu => hcl g p u rfl hp (I.sat _ _ _ hu)
   · injection e with e; exact ⟨e, hk⟩
   ·
    unfold appM
    split
    · exact hu
    ·
     rename_i hq
     have hpos : 0 < l'.length := by
      rcases Nat.eq_zero_or_pos l'.length with h | h
      ·
       have h3 := hr'.1
       rw [h, Nat.zero_mul] at h3
       exact absurd (List.eq_nil_of_length_eq_zero h3) hnil
      · exact h
     have hcs := hcs.resolve_right fun h => by omega
     have hps : p < cur.size := by
      have h1 := I.sat _ _ _ hu
      unfold World.cell? at h1
      simp only [hcg] at h1
      exact (Array.getElem?_eq_some_iff.1 h1).1
     have hq' : q ≤ p := by have : ¬ p < q := hq; omega
     have h6 := h5 (p - offA (some ⟨g, q, none⟩)) (by show p - q < _; omega)
     rw [show offA (some ⟨g, q, none⟩) + (p - offA (some ⟨g, q, none⟩)) = p by omega] at h6
     rw [h6] at hu
     rw [List.getElem?_append_left (List.getElem?_eq_some_iff.1 hu).1]
     exact hu
 ·
  subst hb2
  exact fin _ rfl (I.free (Nat.le_refl _)) (I.newG (Nat.le_refl _)) ⟨hgr.os, hgr.tape, hgr.output, hgr.size, fun k hk hn => hgr.block k hk (by simp), fun k => (zBA.of_lt fun hk => hgr.block k hk (by simp)).w⟩ (fun p u hu => by rw [I.mem_none (Nat.le_refl _)] at hu; cases hu) (fun p u hp => by cases hp)
end
end Go.Proofs.Ytjomnccladjpgaa

/-
 Operations that make or write memory: literals, bytes of a text, stores.
-/
namespace Go.Proofs.Ytjomnccladjpgaa
open Go Go.RowKit
set_option linter.unusedVariables false
def cellsO : A → Option (List D)
 | .t (.d x) => some [x]
 | .t (.agg l) => some l
 | _ => none
def zJw (M : Nat → A) (sz : Nat) : Nat → List (Nat × Operand) → Option (List (List D))
 | _, [] => some []
 | n, (i, x) :: r => if i = n then match cellsO (cpO M x), zJw M sz (n + 1) r with
   | some c, some t => if c.length = sz then some (c :: t) else none
   | _, _ => none
  else none
section
variable {w0 : World} {m0 : Mem} {o0 : OwnM} {G : GD} {pins : List Nat} {S M : Nat → A} {a : Act} {w : World} {m : Mem} {o : OwnM} {P : Program}
theorem zGx {s : Nat} {y : A} {v : Value} {l : List D} (hl : cellsO y = some l) (hy : RepA m w o S s y v) : RepL m l v.cells.toList := by
 cases y with
 | t z =>
  cases z with
  | d x =>
   injection hl with hl
   subst hl
   have : RepD m x v := hy
   exact ⟨by rw [this.cells]; simp, fun j e hj => by
    rw [this.cells]
    cases j with
    | zero => injection hj with hj; subst hj; exact ⟨v, rfl, this⟩
    | succ j => simp at hj⟩
  | agg ds =>
   injection hl with hl
   subst hl
   obtain ⟨vs, e, h⟩ := hy
   subst e
   exact h
  | _ => cases hl
 | _ => cases hl
theorem zHw (hM : Mk M S) (I : Inv w0 m0 o0 G pins S a w m o) {sz : Nat} : ∀ (n : Nat) (parts : List (Nat × Operand)) (l : List (List D)), zJw M sz n parts = some l →
  (parts.map fun x => (x.1, a.eval x.2)) = ((parts.map fun x => a.eval x.2).zipIdx n).map (fun x => (x.2, x.1)) ∧ (∀ v ∈ parts.map (fun x => a.eval x.2), v.cells.size = sz) ∧ zFX m sz l ((parts.map fun x => a.eval x.2).flatMap fun v => v.cells.toList) ∧ l.length = parts.length
 | n, [], l, h => by
  injection h with h
  subst h
  exact ⟨rfl, by simp, ⟨by simp, fun i r h => by simp at h, fun i r j d h => by simp at h⟩, rfl⟩
 | n, (i, x) :: r, l, h => by
  unfold zJw at h
  split at h
  case isFalse => cases h
  rename_i e
  subst e
  split at h
  ·
   rename_i c t hc ht
   split at h
   ·
    rename_i hsz
    injection h with h
    subst h
    obtain ⟨h1, h2, h3, h4⟩ := zHw hM I (i + 1) r t ht
    have hr := zGx hc (qG hM I x 0)
    have hcs : (a.eval x).cells.size = sz := by have := hr.1; simp at this; omega
    refine ⟨?_, ?_, ?_, by simp [h4]⟩
    · simp only [List.map_cons, List.zipIdx_cons, h1]
    ·
     intro v hv
     rcases List.mem_cons.1 hv with rfl | hv
     · exact hcs
     · exact h2 v hv
    ·
     have hone : zFX m sz [c] (a.eval x).cells.toList := by
      refine ⟨by simp [hcs], fun i r hi => ?_, fun i r j d hi hj => ?_⟩
      ·
       cases i with
       | zero => injection hi with hi; subst hi; exact hsz
       | succ i => simp at hi
      ·
       cases i with
       | zero =>
        injection hi with hi
        subst hi
        obtain ⟨u, h5, h6⟩ := hr.2 j d hj
        exact ⟨u, by simpa using h5, h6⟩
       | succ i => simp at hi
     exact hone.append h3
   · cases h
  · cases h
theorem bsl_ok (hM : Mk M S) (I : Inv w0 m0 o0 G pins S a w m o) {t e sz nb : Nat} (E : zEY P t e sz nb) {d : Nat} (hd : d < a.tmps.size) (hbox : (S d).isBox = false) (hpin : d ∉ pins)
  {parts : List (Nat × Operand)} {l : List (List D)} (hl : zJw M sz 0 parts = some l) (hn : parts ≠ []) (hb : parts.length * sz ≤ 16777216) :
  ∃ v w' m' o', (Instr.buildSlice t parts.length (parts.map fun x => (x.1, a.eval x.2)).toArray).run P w = .ok v w' ∧ Inv w0 m0 o0 G pins (upd S d (.t (.own e sz l))) (a.put (some d) v) w' m' o' := by
 obtain ⟨i, z, hi, hz, rfl, rfl, hzs⟩ := E.info
 obtain ⟨h1, h2, h3, h4⟩ := zHw hM I 0 parts l hl
 have hpos : 0 < parts.length := List.length_pos_iff.2 hn
 have hp2 : 0 < parts.length * i.size := Nat.mul_pos hpos E.pos
 have hlen : (parts.map fun x => a.eval x.2).length = parts.length := by simp
 have hrun := run_buildSlice (P := P) w t e parts.length (parts.map fun x => (x.1, a.eval x.2)).toArray _ i z E.under hi hz (by omega) (by omega) (by
  rw [show (parts.map fun x => (x.1, a.eval x.2)).toArray.toList = _ from h1]
  exact Great.fill_whole E.pos _ _ h2 (by rw [hlen]; simp))
 generalize hxs : ((parts.map fun x => a.eval x.2).flatMap fun v => v.cells.toList) = xs at hrun h3
 have hxl : xs.length = parts.length * i.size := by rw [h3.1, h4]
 have hown : Own (w.alloc (.cells xs.toArray e)) 0 e i.size (some ⟨w.heap.size, 0, none⟩) parts.length parts.length xs := by
  have := Own.lit (B := 0) w xs.toArray e i.size parts.length (Nat.zero_le _) (by unfold maxLen; have := Nat.le_mul_of_pos_right parts.length E.pos; omega) (by simpa using hxl)
  simpa using this
 have hwid := h3.2.1
 refine ⟨_, _, _, _, hrun, I.own_put d _ _ (fun p => xs[p]?) w.heap.size _ hd hbox hpin (I.free (Nat.le_refl _)) (I.newG (Nat.le_refl _)) ((Same.alloc (fun _ => False) w _).weaken (fun _ h => h.elim)) (by simp) (fun p u h => by rw [I.mem_none (Nat.le_refl _)] at h; cases h) (fun p u hp => Own.cellAt hown rfl hp) ?_⟩
 refine ⟨some ⟨w.heap.size, 0, none⟩, parts.length, xs, by rw [h4], by rw [h4]; exact zE0 hown, fun g hg => ?_, hwid, (h3.mono (zIg I (Nat.le_refl _) _)).2.2⟩
 injection hg with hg
 subst hg
 exact ⟨zAD _ _ _, fun p _ => zEw _ _ _ _⟩
theorem zIS (s : ByteArray) (cap p : Nat) (b : UInt8) (hp : s.data.toList[p]? = some b) : (bytesRow s cap)[p]? = some (.int .u8 (b.toNat : Int)) := by
 have hlt : p < s.data.size := by have := (List.getElem?_eq_some_iff.1 hp).1; simpa using this
 unfold bytesRow
 rw [Array.getElem?_append_left (by simpa using hlt)]
 rw [Array.getElem?_map, ← Array.getElem?_toList, hp]
 rfl
theorem str_ok (I : Inv w0 m0 o0 G pins S a w m o) {src dst e : TypeId} (hs : P.underlying src = some .string) (hdst : P.underlying dst = some (.slice e)) (he : P.underlying e = some (.int .u8)) (s : ByteArray) (hsz : s.size ≤ maxLen) {d : Nat} (hd : d < a.tmps.size) (hbox : (S d).isBox = false) (hpin : d ∉ pins) :
  ∃ v w' m' o', (convert src dst (.string s)).run P w = .ok v w' ∧ Inv w0 m0 o0 G pins (upd S d (.t (.d (.seq 1 (qE s.data.toList))))) (a.put (some d) v) w' m' o' := by
 have hrun := run_bytes_of_string (P := P) w src dst e s hs hdst he
 have hcell : ∀ p u, ((s.data.toList[p]?).map fun b => Value.int .u8 (b.toNat : Int)) = some u → (w.drew.alloc (.cells (bytesRow s (grownCap w s.size 0 e)) e ((bytesRow s (grownCap w s.size 0 e)).size, (bytesRow s (grownCap w s.size 0 e)).size + 1))).cell? ⟨w.heap.size, p, none⟩ = some u := by
  intro p u h
  cases hb : s.data.toList[p]? with
  | none => rw [hb] at h; cases h
  | some b =>
   rw [hb] at h
   refine (cell_of_row _ w.heap.size p _ e _ (heap_alloc_new w.drew _)).trans ?_
   rw [zIS s _ p b hb]
   exact h
 refine ⟨_, _, _, _, hrun, I.own_put d _ _ (fun p => (s.data.toList[p]?).map fun b => Value.int .u8 (b.toNat : Int)) w.heap.size _ hd hbox hpin (I.free (Nat.le_refl _)) (I.newG (Nat.le_refl _))
  (((Same.drew (fun _ => False) w).trans ((Same.alloc (fun _ => False) w.drew _).weaken (fun _ h => h.elim))).weaken (fun _ h => h.elim)) (by simp) (fun p u h => by rw [I.mem_none (Nat.le_refl _)] at h; cases h) hcell ?_⟩
 have hbl : s.size = (qE s.data.toList).length := by unfold qE; rw [List.length_map, Array.length_toList]; rfl
 have hb : ∀ (i : Nat) (r : List D), (qE s.data.toList)[i]? = some r → ∃ b : UInt8, s.data.toList[i]? = some b ∧ r = [D.lit (.int .u8 (b.toNat : Int))] := by
  intro i r hi
  unfold qE at hi
  rw [List.getElem?_map] at hi
  cases hb : s.data.toList[i]? with
  | none => rw [hb] at hi; cases hi
  | some b =>
   rw [hb] at hi
   injection hi with hi
   exact ⟨b, rfl, hi.symm⟩
 show RepD _ (.seq 1 (qE s.data.toList)) (.slice _ s.size (grownCap w s.size 0 e))
 have hc1 : s.size ≤ grownCap w s.size 0 e := grownCap_ge _ _ _ _
 have hc2 : grownCap w s.size 0 e ≤ maxLen := grownCap_le_maxLen _ _ _ _ hsz
 generalize grownCap w s.size 0 e = cap at hc1 hc2
 rw [hbl] at hc1 ⊢
 refine .seq 1 _ _ _ w.heap.size 0 (fun i _ => ((s.data.toList[i]?).map fun b => Value.int .u8 (b.toNat : Int)).getD undef) hc1 hc2 (fun _ => rfl) (fun i r hi => ?_) (fun i r j x hi hj => ?_) (fun i r j x hi hj => ?_)
 ·
  obtain ⟨b, _, rfl⟩ := hb i r hi
  rfl
 ·
  obtain ⟨b, h, rfl⟩ := hb i r hi
  cases j with
  | succ j => simp at hj
  | zero =>
   rw [zCt, Nat.zero_add, Nat.add_zero, Nat.mul_one, h]
   rfl
 ·
  obtain ⟨b, h, rfl⟩ := hb i r hi
  cases j with
  | succ j => simp at hj
  | zero =>
   injection hj with hj
   subst hj
   rw [h]
   exact .lit _ rfl
theorem zAb {w : World} {g : Nat} {cs cs' : Array Value} {E : Nat} (hcs : w.heap[g]? = some (.cells cs E (0, 0))) (hsz : cs'.size = cs.size) (k : Nat) : zBA w (w.setRow g cs') k := by
 by_cases hk : k = g
 ·
  subst hk
  intro cs2 E2 f2 h2
  rw [hcs] at h2
  injection h2 with h2
  injection h2 with h2 h3 h4
  subst h2 h3 h4
  exact ⟨cs', setRow_heap w k cs cs' E _ hcs, hsz⟩
 · exact .of_eq (setRow_other w g k cs' hk)
theorem Inv.box_putX (I : Inv w0 m0 o0 G pins S a w m o) {b g : Nat} {l l' : List T} {cs cs' : Array Value} {E : Nat} (hb : S b = .box l) (hg : o g = some (b, 0)) (hcs : w.heap[g]? = some (.cells cs E (0, 0))) (hsz : cs'.size = cs.size) (o' : OwnM) (Dr : Nat → Prop)
  (hD : ∀ s, Dr s → s < OB ∧ s ∉ pins ∧ ∃ x, S s = .t x ∧ ((∃ d, x = .d d) ∨ x = .any)) (h1 : ∀ g' loc, o g' = some loc → ¬ Dr loc.1 → loc.1 ≠ b → o' g' = some loc) (h2 : o' g = some (b, 0)) (h3 : ∀ g' loc, o' g' = some loc → ∃ loc', o g' = some loc') (h4 : ∀ g' g'' loc, o' g' = some loc → o' g'' = some loc → g' = g'') (h5 : ∀ g' loc loc', o' g' = some loc → o g' = some loc' → Dr loc'.1 ∨ loc'.1 = b → Dr loc.1 ∨ loc.1 = b)
  (hl : l'.length = l.length) (hc : ∀ (j : Nat) (x : T), l'[j]? = some x → x.isAgg = false ∧ ∃ u, cs'[j]? = some u ∧ RepT m (w.setRow g cs') o' (b, j + 1) x u) :
  Inv w0 m0 o0 G pins (upd S b (.box l')) a (w.setRow g cs') m o' := by
 have hlt := I.lt g _ hg
 have hbs := I.slots b
 rw [hb] at hbs
 obtain ⟨g', hv, hg', hm, cs2, E2, hcs2, hl2, _⟩ := hbs
 have := I.inj _ _ _ hg hg'
 subst this
 rw [hcs] at hcs2
 injection hcs2 with hcs2
 injection hcs2 with hcs2 hE2
 subst hcs2 hE2
 have hne : ∀ b' p u, m b' p = some u → b' ≠ g := fun b' p u h e => by subst e; rw [hm] at h; cases h
 have hother : ∀ k, k ≠ g → (w.setRow g cs').heap[k]? = w.heap[k]? := fun k hk => setRow_other w g k cs' hk
 have hshp : ∀ k, zBA w (w.setRow g cs') k := zAb hcs hsz
 have hbk : ∀ s, s ≠ b → RepA m w o S s (S s) (a.tmps.getD s undef) → RepA m (w.setRow g cs') o' (upd S b (.box l')) s (S s) (a.tmps.getD s undef) := by
  intro s hs h
  have href : ∀ b' off, S s = .ref b' off → RepA m (w.setRow g cs') o' (upd S b (.box l')) s (.ref b' off) (a.tmps.getD s undef) := by
   intro b' off e
   rw [e] at h
   obtain ⟨g1, k1, k2, k3⟩ := h
   by_cases e' : b' = b
   ·
    subst e'
    have := I.inj _ _ _ k1 hg
    subst this
    exact ⟨g1, h2, k2, fun _ => ⟨l', zZ _ _ _⟩⟩
   ·
    refine ⟨g1, h1 _ _ k1 (fun hd => ?_) e', k2, fun hbO => let ⟨lx, k3⟩ := k3 hbO; ⟨lx, by rw [zH e', k3]⟩⟩
    obtain ⟨hO, _, x, hx, _⟩ := hD _ hd
    obtain ⟨lx, k3⟩ := k3 hO
    rw [show S b' = .box lx from k3] at hx
    cases hx
  by_cases hd : Dr s
  ·
   obtain ⟨_, _, x, hx, hx2⟩ := hD s hd
   rw [hx] at h ⊢
   rcases hx2 with ⟨d, rfl⟩ | rfl
   · exact h
   · exact h
  ·
   have K : Keep (fun loc => Dr loc.1 ∨ loc.1 = b) m w o m (w.setRow g cs') o' :=
    ⟨Mle.refl _, fun _ _ _ _ => rfl, fun g1 loc k1 k2 => hother g1 fun e => by
     subst e
     rw [hg] at k1
     injection k1 with k1
     exact k2 (.inr (by rw [← k1])), fun g1 loc k1 k2 => h1 g1 loc k1 (fun e => k2 (.inl e)) (fun e => k2 (.inr e)), fun g1 j k1 => by
     by_cases e : OB + j = b
     ·
      rw [e] at k1 ⊢
      have := I.inj _ _ _ k1 hg
      subst this
      exact h2
     · exact h1 g1 _ k1 (fun hd => absurd (hD _ hd).1 (by show ¬ OB + j < OB; omega)) e, fun g1 s1 k1 hs1 e1 => by
     obtain ⟨loc', e2⟩ := h3 g1 _ e1
     by_cases hd : Dr loc'.1 ∨ loc'.1 = b
     · exact absurd (h5 g1 _ _ e1 e2 hd) hs1
     ·
      rw [h1 g1 _ e2 (fun k => hd (.inl k)) (fun k => hd (.inr k))] at e1
      injection e1 with e1
      rw [e1] at e2
      exact ⟨g1, k1, e2⟩, fun g1 j k1 => hshp g1⟩
   cases hS : S s with
   | ref b' off => exact href b' off hS
   | _ =>
    rw [← hS]
    refine RepA.keep K (fun j e => e.elim hd hs) (fun b' off e _ => ?_) h
    rw [hS] at e
    cases e
 refine ⟨?_, fun b' p u h => ?_, I.mono, I.old, fun g1 loc k => ?_, fun g1 loc k => ?_, h4, fun s hs g1 k => ?_, fun s => ?_, I.defers, I.tbl, I.wide, I.shps.keep I.pinned fun k _ _ => hshp k⟩
 ·
  refine I.same.trans ⟨rfl, rfl, rfl, by simp, fun k hk hn => hother k fun e => hn ?_, fun k => (hshp k).w⟩
  subst e
  exact I.own k _ hg
 ·
  rw [World.cell?_of_block (w := w) (hother b' (hne b' p u h))]
  exact I.sat b' p u h
 ·
  obtain ⟨loc', k'⟩ := h3 g1 loc k
  exact I.own g1 loc' k'
 ·
  obtain ⟨loc', k'⟩ := h3 g1 loc k
  simpa using I.lt g1 loc' k'
 ·
  have k2 := I.pinned s hs g1 k
  by_cases e : s = b
  ·
   subst e
   have := I.inj _ _ _ k2 hg
   subst this
   exact h2
  · exact h1 g1 _ k2 (fun hd => hs.elim (hD s hd).2.1 fun hs => by have := (hD s hd).1; omega) e
 ·
  by_cases e : s = b
  ·
   subst e
   rw [zZ]
   exact ⟨g, hv, h2, hm, cs', E, setRow_heap w g cs cs' E _ hcs, by rw [hsz, hl]; exact hl2, hc⟩
  ·
   rw [zH e]
   exact hbk s e (I.slots s)
theorem Inv.box_put (I : Inv w0 m0 o0 G pins S a w m o) {b g : Nat} {l l' : List T} {cs cs' : Array Value} {E : Nat} (hb : S b = .box l) (hg : o g = some (b, 0)) (hcs : w.heap[g]? = some (.cells cs E (0, 0))) (hsz : cs'.size = cs.size) (o' : OwnM) (Dr : Nat → Prop)
  (hD : ∀ s, Dr s → s < OB ∧ s ∉ pins ∧ ∃ x, S s = .t (.d x)) (h1 : ∀ g' loc, o g' = some loc → ¬ Dr loc.1 → loc.1 ≠ b → o' g' = some loc) (h2 : o' g = some (b, 0)) (h3 : ∀ g' loc, o' g' = some loc → ∃ loc', o g' = some loc') (h4 : ∀ g' g'' loc, o' g' = some loc → o' g'' = some loc → g' = g'') (h5 : ∀ g' loc loc', o' g' = some loc → o g' = some loc' → Dr loc'.1 ∨ loc'.1 = b → Dr loc.1 ∨ loc.1 = b)
  (hl : l'.length = l.length) (hc : ∀ (j : Nat) (x : T), l'[j]? = some x → x.isAgg = false ∧ ∃ u, cs'[j]? = some u ∧ RepT m (w.setRow g cs') o' (b, j + 1) x u) :
  Inv w0 m0 o0 G pins (upd S b (.box l')) a (w.setRow g cs') m o' := I.box_putX hb hg hcs hsz o' Dr (fun s h => let ⟨a1, a2, x, e⟩ := hD s h; ⟨a1, a2, .d x, e, .inl ⟨x, rfl⟩⟩) h1 h2 h3 h4 h5 hl hc
end
end Go.Proofs.Ytjomnccladjpgaa

/-
 One operation, told by data: what it does to the slots; the model's operation does just that. Contracts of functions.
-/
namespace Go.Proofs.Ytjomnccladjpgaa
open Go Go.RowKit
set_option linter.unusedVariables false
def argS (args : List A) : Nat → A := fun t => args.getD t .any
def zEN : Nat → List A → List Nat
 | _, [] => []
 | i, .box _ :: r => i :: zEN (i + 1) r
 | i, _ :: r => zEN (i + 1) r
def FC (P : Program) (f : FuncId) (args : List A) (outs : List (Nat × List T)) (r : A) : Prop :=
 ∀ (w : World) (m : Mem) (o : OwnM) (vals : Array Value), (∀ b p u, m b p = some u → w.cell? ⟨b, p, none⟩ = some u) → Mle TBL m → (∀ g l, o g = some l → g < w.heap.size ∧ l.1 < OB) → (∀ g g' l, o g = some l → o g' = some l → g = g') → vals.size = args.length →
  (∀ s, RepA m w o (argS args) s (argS args s) (vals.getD s undef)) →
  Calls P f vals w fun e w' => ∃ (u : Value) (m' : Mem) (o' : OwnM) (S' : Nat → A) (a' : Act) (ρ : Nat), e = .returned u ∧ Inv w m o ⟨fun g => o g ≠ none, []⟩ (zEN 0 args) S' a' w' m' o' ∧ RepA m' w' o' S' ρ r u ∧ ∀ i l, (i, l) ∈ outs → S' i = .box l ∧ i ≠ ρ
inductive WkD : D → D → Prop
 | refl (x : D) : WkD x x
 | nil (k : Nat) : WkD (.lit (.slice none 0 0)) (.seq k [])
 | fn (f : FuncId) : WkD (.lit (.func (.func f) #[] #[])) (.clo f [])
inductive WkL : List D → List D → Prop
 | nil : WkL [] []
 | cons {x y : D} {l l' : List D} (h : WkD x y) (t : WkL l l') : WkL (x :: l) (y :: l')
inductive WkLs : List (List D) → List (List D) → Prop
 | nil : WkLs [] []
 | cons {x y : List D} {l l' : List (List D)} (h : WkL x y) (t : WkLs l l') : WkLs (x :: l) (y :: l')
inductive WkT : T → T → Prop
 | refl (x : T) : WkT x x
 | d {x y : D} (h : WkD x y) : WkT (.d x) (.d y)
 | agg {l l' : List D} (h : WkL l l') : WkT (.agg l) (.agg l')
 | own (E k : Nat) (l : List (List D)) : WkT (.own E k l) (.d (.seq k l))
 | nilOwn (E k : Nat) : WkT (.d (.lit (.slice none 0 0))) (.own E k [])
 | nilXs (E k : Nat) : WkT (.d (.lit (.slice none 0 0))) (.xs E k [] none)
 | nilView (j off E k : Nat) : WkT (.d (.lit (.slice none 0 0))) (.view j off E k 0)
 | view0 (j off E k n : Nat) : WkT (.view j off E k n) (.view j off 0 k n)
 | any {x : T} (h : x.isAgg = false) : WkT x .any
 | rows (E k : Nat) {l l' l'' : List (List D)} (h : WkLs l l') (e : l' = l'') : WkT (.own E k l) (.own E k l'')
inductive WkTs : List T → List T → Prop
 | nil : WkTs [] []
 | cons {x y : T} {l l' : List T} (h : WkT x y) (t : WkTs l l') : WkTs (x :: l) (y :: l')
inductive WkA : A → A → Prop
 | refl (x : A) : WkA x x
 | any (x : A) : WkA x .any
 | t {x y : T} (h : WkT x y) : WkA (.t x) (.t y)
 | tup {l l' : List T} (h : WkTs l l') : WkA (.tup l) (.tup l')
 | box {l l' : List T} (h : WkTs l l') (ha : l'.all (fun x => !x.isAgg) = true) : WkA (.box l) (.box l')
inductive zCw : List A → List A → Prop
 | nil : zCw [] []
 | cons {x y : A} {l l' : List A} (h : WkA x y) (t : zCw l l') : zCw (x :: l) (y :: l')
section
variable {w0 : World} {m0 : Mem} {o0 : OwnM} {G : GD} {pins : List Nat} {S M : Nat → A} {a : Act} {w : World} {m : Mem} {o : OwnM} {P : Program}
theorem RepD.nilSeq (m : Mem) (k : Nat) : RepD m (.seq k []) (.slice none 0 0) :=
 .seq k [] none 0 0 0 (fun _ _ => undef) (Nat.le_refl _) (Nat.zero_le _) (fun h => absurd rfl h) (fun i r h => by simp at h) (fun i r j d h => by simp at h) (fun i r j d h => by simp at h)
theorem WkD.rep {x y : D} (h : WkD x y) {v : Value} (hr : RepD m x v) : RepD m y v := by
 cases h with
 | refl => exact hr
 | nil k => cases hr; exact RepD.nilSeq m k
 | fn f =>
  cases hr
  exact .clo f [] #[] (fun _ => 0) (fun _ => 0) (fun _ _ => undef) rfl (fun i r h => by simp at h) (fun i r j d h => by simp at h) (fun i r j d h => by simp at h)
theorem WkL.rep {l l' : List D} (h : WkL l l') : ∀ {vs : List Value}, RepL m l vs → RepL m l' vs := by
 induction h with
 | nil => exact fun h => h
 | cons hx ht ih =>
  intro vs hr
  cases vs with
  | nil => have := hr.1; simp at this
  | cons v vs =>
   have h2 := ih (vs := vs) ⟨by have := hr.1; simpa using this, fun j d hj => by simpa using hr.2 (j + 1) d (by simpa using hj)⟩
   refine ⟨by have := h2.1; simpa using this, fun j d hj => ?_⟩
   cases j with
   | zero =>
    injection hj with hj
    subst hj
    obtain ⟨u, h3, h4⟩ := hr.2 0 _ rfl
    exact ⟨u, h3, hx.rep h4⟩
   | succ j => simpa using h2.2 j d (by simpa using hj)
theorem WkL.get {l l' : List D} (h : WkL l l') : l'.length = l.length ∧ ∀ (j : Nat) (y : D), l'[j]? = some y → ∃ x, l[j]? = some x ∧ WkD x y := by
 induction h with
 | nil => exact ⟨rfl, fun j y h => by simp at h⟩
 | cons hx ht ih =>
  refine ⟨by simp [ih.1], fun j y hj => ?_⟩
  cases j with
  | zero => injection hj with hj; subst hj; exact ⟨_, rfl, hx⟩
  | succ j => simpa using ih.2 j y (by simpa using hj)
theorem WkLs.get {l l' : List (List D)} (h : WkLs l l') : l'.length = l.length ∧ ∀ (j : Nat) (y : List D), l'[j]? = some y → ∃ x, l[j]? = some x ∧ WkL x y := by
 induction h with
 | nil => exact ⟨rfl, fun j y h => by simp at h⟩
 | cons hx ht ih =>
  refine ⟨by simp [ih.1], fun j y hj => ?_⟩
  cases j with
  | zero => injection hj with hj; subst hj; exact ⟨_, rfl, hx⟩
  | succ j => simpa using ih.2 j y (by simpa using hj)
theorem RepT.one {o : OwnM} {loc : Nat × Nat} {x : T} {v : Value} (h : RepT m w o loc x v) (hx : x.isAgg = false) : v.oneCell' = true := by
 cases x with
 | d x => exact RepD.one h
 | agg l => cases hx
 | own E k l => obtain ⟨A', cap, xs, e, _⟩ := h; subst e; rfl
 | ptr j off => obtain ⟨g, _, e⟩ := h; subst e; rfl
 | view j off E k n => obtain ⟨A', c, _, _, e, _⟩ := h; subst e; rfl
 | hpt c off => obtain ⟨g, _, e⟩ := h; subst e; rfl
 | hvw c off E k n => obtain ⟨A', q, _, _, e, _⟩ := h; subst e; rfl
 | mpt j => obtain ⟨g, _, e⟩ := h; subst e; rfl
 | xs E k l rv => (first | exact h | exact hr | exact k2 | exact k3 | exact h4 | exact h5 | exact id | trivial | (cases hp; done) | (cases hx; done) | (cases hl; done) | (obtain ⟨A1, c1, xs1, e1, _⟩ := h; subst e1; rfl) | (obtain ⟨A1, c1, xs1, e1, _⟩ := hr; subst e1; rfl) | rfl)
 | any => exact h
theorem WkT.rep (hsat : ∀ b p u, m b p = some u → w.cell? ⟨b, p, none⟩ = some u) {x y : T} (h : WkT x y) {loc : Nat × Nat} {v : Value} (hr : RepT m w o loc x v) : RepT m w o loc y v := by
 cases h with
 | refl => exact hr
 | d h => exact h.rep hr
 | agg h => obtain ⟨vs, e, k⟩ := hr; exact ⟨vs, e, h.rep k⟩
 | own E k l => exact zEC hsat hr
 | nilOwn E k =>
  have hr : RepD m (.lit (.slice none 0 0)) v := hr
  cases hr
  exact ⟨none, 0, [], rfl, zE0 (World.ownsRow_nil w 0 E k), fun g hg => (by cases hg), fun i r h => by simp at h, fun i r j d h => by simp at h⟩
 | nilXs E k =>
  have hr : RepD m (.lit (.slice none 0 0)) v := hr
  cases hr
  exact ⟨none, 0, [], rfl, zE0 (World.ownsRow_nil w 0 E k), fun g hg => (by cases hg), ⟨fun i r h => by simp at h, fun _ => rfl, fun u h => by cases h⟩, fun i r j d h => by simp at h⟩
 | nilView j off E k =>
  have hr : RepD m (.lit (.slice none 0 0)) v := hr
  cases hr
  exact ⟨none, 0, Nat.le_refl _, Nat.zero_le _, rfl, .inl rfl⟩
 | any h => exact hr.one h
 | view0 j off E k n =>
  obtain ⟨A', q, h1, h2, h3, h4⟩ := hr
  exact ⟨A', q, h1, h2, h3, h4.imp id fun ⟨g, cs, E1, k1, k2, k3, k4, _⟩ => ⟨g, cs, E1, k1, k2, k3, k4, .inl rfl⟩⟩
 | rows E k h e =>
  subst e
  obtain ⟨A', cap, xs, e, h1, h2, h3, h4⟩ := hr
  obtain ⟨k1, k2⟩ := h.get
  refine ⟨A', cap, xs, by rw [e, k1], by rw [k1]; exact h1, h2, fun i r hi => ?_, fun i r j d hi hj => ?_⟩
  ·
   obtain ⟨x, q1, q2⟩ := k2 i r hi
   rw [q2.get.1]
   exact h3 i x q1
  ·
   obtain ⟨x, q1, q2⟩ := k2 i r hi
   obtain ⟨d', q3, q4⟩ := q2.get.2 j d hj
   obtain ⟨u, q5, q6⟩ := h4 i x j d' q1 q3
   exact ⟨u, q5, q4.rep q6⟩
theorem WkTs.get {l l' : List T} (h : WkTs l l') : l'.length = l.length ∧ ∀ (j : Nat) (y : T), l'[j]? = some y → ∃ x, l[j]? = some x ∧ WkT x y := by
 induction h with
 | nil => exact ⟨rfl, fun j y h => by simp at h⟩
 | cons hx ht ih =>
  refine ⟨by simp [ih.1], fun j y hj => ?_⟩
  cases j with
  | zero => injection hj with hj; subst hj; exact ⟨_, rfl, hx⟩
  | succ j => simpa using ih.2 j y (by simpa using hj)
theorem WkA.rep (hsat : ∀ b p u, m b p = some u → w.cell? ⟨b, p, none⟩ = some u) {x y : A} (h : WkA x y) {S : Nat → A} {s : Nat} {v : Value} (hr : RepA m w o S s x v) : RepA m w o S s y v := by
 cases h with
 | refl => exact hr
 | any => trivial
 | t h => exact h.rep hsat hr
 | tup h =>
  obtain ⟨vs, e, h1, h2⟩ := hr
  obtain ⟨k1, k2⟩ := h.get
  refine ⟨vs, e, by rw [h1, k1], fun j y hj => ?_⟩
  obtain ⟨x, h3, h4⟩ := k2 j y hj
  obtain ⟨u, h5, h6⟩ := h2 j x h3
  exact ⟨u, h5, h4.rep hsat h6⟩
 | box h ha =>
  obtain ⟨g, e, b1, b2, cs, E, b3, b4, b5⟩ := hr
  obtain ⟨k1, k2⟩ := h.get
  refine ⟨g, e, b1, b2, cs, E, b3, by rw [k1]; exact b4, fun j y hj => ?_⟩
  obtain ⟨x, h3, h4⟩ := k2 j y hj
  obtain ⟨_, u, h5, h6⟩ := b5 j x h3
  exact ⟨by have := List.all_eq_true.1 ha y (List.mem_of_getElem? hj); simpa using this, u, h5, h4.rep hsat h6⟩
def A.plain : A → Bool
 | .t (.d _) | .t (.agg _) | .imm _ | .any => true
 | _ => false
theorem zEs {x : A} (hx : x.plain = true) {m : Mem} {w w' : World} {o o' : OwnM} {S S' : Nat → A} {s s' : Nat} {v : Value} (h : RepA m w o S s x v) : RepA m w' o' S' s' x v := by
 cases x with
 | t z =>
  cases z with
  | d x => exact h
  | agg l => exact h
  | own E k l => cases hx
  | ptr j off => cases hx
  | view j off E k n => cases hx
  | hpt c off => cases hx
  | mpt c => cases hx
  | xs E k l rv => (first | exact h | exact hr | exact k2 | exact k3 | exact h4 | exact h5 | exact id | trivial | (cases hp; done) | (cases hx; done) | (cases hl; done) | (obtain ⟨A1, c1, xs1, e1, _⟩ := h; subst e1; rfl) | (obtain ⟨A1, c1, xs1, e1, _⟩ := hr; subst e1; rfl) | rfl)
  | any => cases hx
  | hvw c off E k n => cases hx
 | imm l => exact h
 | any => trivial
 | tup l => cases hx
 | box l => cases hx
 | ref b off => cases hx
 | free => cases hx
 | hp f => cases hx
 | mp l => cases hx
 | rcd b u mE oE => cases hx
 | cl f caps => cases hx
 | ck f cs => cases hx
 | imt l => cases hx
 | ag l => cases hx
 | lst l => cases hx
 | fr E k => cases hx
theorem zFn {args : List A} (h : args.all A.plain = true) : zEN 0 args = [] := by
 have : ∀ (i : Nat) (l : List A), l.all A.plain = true → zEN i l = [] := by
  intro i l
  induction l generalizing i with
  | nil => intro _; rfl
  | cons x r ih =>
   intro h
   rw [List.all_cons, Bool.and_eq_true] at h
   cases x <;> first | (cases h.1; done) | exact ih _ h.2
 exact this 0 args h
theorem RepT.reloc {m : Mem} {w : World} {o o' : OwnM} {l l' : Nat × Nat} (h : ∀ g, o g = some l → o' g = some l') {x : T} (hp : x.isPt = false) {v : Value} (hr : RepT m w o l x v) : RepT m w o' l' x v := by
 cases x with
 | ptr j off => cases hp
 | view j off E k n => cases hp
 | hpt c off => cases hp
 | mpt c => cases hp
 | xs E k l rv => (first | exact h | exact hr | exact k2 | exact k3 | exact h4 | exact h5 | exact id | trivial | (cases hp; done) | (cases hx; done) | (cases hl; done) | (obtain ⟨A1, c1, xs1, e1, _⟩ := h; subst e1; rfl) | (obtain ⟨A1, c1, xs1, e1, _⟩ := hr; subst e1; rfl) | rfl)
 | any => exact hr
 | hvw c off E k n => cases hp
 | d x => exact hr
 | agg l => exact hr
 | own E k ls =>
  obtain ⟨A', cap, xs, e, h1, h2, h3, h4⟩ := hr
  exact ⟨A', cap, xs, e, h1, fun g hg => ⟨h g (h2 g hg).1, (h2 g hg).2⟩, h3, h4⟩
def A.noRef : A → Bool
 | .ref _ _ => false
 | .t x => !x.isPt
 | .tup l => noPt l
 | .box _ => false
 | .free => false
 | .mp _ => false
 | .rcd _ _ _ _ => false
 | .cl _ _ => false
 | .ck _ _ => false
 | .imt _ => false
 | .ag l => noPt l
 | .lst l => noPt l
 | .fr _ _ => false
 | _ => true
theorem zB0 {l : List T} (h : noPt l = true) {j : Nat} {x : T} (hj : l[j]? = some x) : x.isPt = false := by
 have := List.all_eq_true.1 h x (List.mem_of_getElem? hj)
 simpa using this
theorem RepA.reloc {m : Mem} {w : World} {o o' : OwnM} {s s' : Nat} (h : ∀ g j, o g = some (s, j) → o' g = some (s', j)) {S S' : Nat → A} {x : A} (hx : x.noRef = true) {v : Value} (hr : RepA m w o S s x v) : RepA m w o' S' s' x v := by
 cases x with
 | t x => exact RepT.reloc (fun g => h g 0) (by simpa [A.noRef] using hx) hr
 | tup l =>
  obtain ⟨vs, e, h1, h2⟩ := hr
  exact ⟨vs, e, h1, fun j x hj => let ⟨u, k1, k2⟩ := h2 j x hj; ⟨u, k1, k2.reloc (fun g => h g _) (zB0 hx hj)⟩⟩
 | imm l => exact hr
 | box l => cases hx
 | ref => cases hx
 | free => cases hx
 | hp f => trivial
 | mp l => cases hx
 | rcd b u mE oE => cases hx
 | ck f cs => cases hx
 | cl f caps => cases hx
 | imt l => cases hx
 | ag l =>
  obtain ⟨vs, e, h1, h2⟩ := hr
  exact ⟨vs, e, h1, fun j x hj => let ⟨u, k1, k3, k2⟩ := h2 j x hj; ⟨u, k1, k3, k2.reloc (fun g => h g _) (zB0 hx hj)⟩⟩
 | lst l =>
  obtain ⟨g, cap, e, h1, h2, h3⟩ := hr
  exact ⟨g, cap, e, h1, h2, fun j x hj => let ⟨u, k1, k2⟩ := h3 j x hj; ⟨u, k1, k2.reloc (fun g => h g _) (zB0 hx hj)⟩⟩
 | fr E k => cases hx
 | any => trivial
theorem zIn.reloc {m : Mem} {w : World} {o o' : OwnM} {s s' : Nat} (h : ∀ g j, o g = some (s, j) → o' g = some (s', j)) {l : List T} (hx : noPt l = true) {g : Nat} (hr : zIn m w o s l g) : zIn m w o' s' l g := by
 obtain ⟨h1, h2, cs, E, h3, h4, h5⟩ := hr
 exact ⟨h g _ h1, h2, cs, E, h3, h4, fun j x hj => let ⟨k0, u, k1, k2⟩ := h5 j x hj; ⟨k0, u, k1, k2.reloc (fun g => h g _) (zB0 hx hj)⟩⟩
theorem zHB (I : Inv w0 m0 o0 G pins S a w m o) {f : FuncId} {args : List A} {r : A} (hf : FC P f args [] r) (hp : args.all A.plain = true) {vals : Array Value} (hv : vals.size = args.length) (hr : ∀ i x, args[i]? = some x → ∃ s, RepA m w o S s x (vals.getD i undef))
  {d : Nat} (hd : d < a.tmps.size) (hbox : (S d).isBox = false) (hpin : d ∉ pins) (hnr : r.noRef = true) :
  Calls P f vals w fun e w' => ∃ u m' o', e = .returned u ∧ Inv w0 m0 o0 G pins (upd S d r) (a.put (some d) u) w' m' o' := by
 have hrep : ∀ s, RepA m w (fun _ => none) (argS args) s (argS args s) (vals.getD s undef) := by
  intro s
  unfold argS
  rw [List.getD_eq_getElem?_getD]
  cases hx : args[s]? with
  | none => trivial
  | some x =>
   obtain ⟨s', h⟩ := hr s x hx
   exact zEs (List.all_eq_true.1 hp x (List.mem_of_getElem? hx)) h
 refine (hf w m (fun _ => none) vals I.sat (I.tbl.trans I.mono) (fun _ _ h => by cases h) (fun _ _ _ h => by cases h) hv hrep).mono ?_
 rintro e w' ⟨u, m', o', S', a', ρ, rfl, J, hr, _⟩
 rw [zFn hp] at J
 have hS : Same (fun _ => False) w w' := J.same.weaken fun g h => h rfl
 have hold : ∀ b, b < w.heap.size → m' b = m b := fun b hb => J.old b hb fun h => h rfl
 have hnew : ∀ g l, o' g = some l → w.heap.size ≤ g := fun g l h => (J.own g l h).resolve_left fun h => h rfl
 let o2 : OwnM := fun g => if w.heap.size ≤ g then (match o' g with | some (s, j) => if s = ρ then some (d, j) else none | none => none) else if (o g).map (·.1) = some d then none else o g
 have ho2n : ∀ g j, o' g = some (ρ, j) → o2 g = some (d, j) := by
  intro g j h
  show (if _ then _ else _) = _
  rw [if_pos (hnew g _ h), h]
  simp
 have ho2o : ∀ g l, o g = some l → l.1 ≠ d → o2 g = some l := by
  intro g l h hl
  show (if _ then _ else _) = _
  rw [if_neg (by have := I.lt g l h; omega), h, if_neg (by simpa using hl)]
 have ho2 : ∀ g l, o2 g = some l → (w.heap.size ≤ g ∧ l.1 = d ∧ o' g = some (ρ, l.2)) ∨ (g < w.heap.size ∧ l.1 ≠ d ∧ o g = some l) := by
  intro g l h
  change (if _ then _ else _) = _ at h
  split at h
  ·
   rename_i hg
   split at h
   ·
    rename_i s j hs
    split at h
    ·
     rename_i e
     injection h with h
     subst h e
     exact .inl ⟨hg, rfl, hs⟩
    · cases h
   · cases h
  ·
   rename_i hg
   split at h
   · cases h
   ·
    rename_i hn
    exact .inr ⟨by omega, fun e => hn (by rw [h, ← e]; rfl), h⟩
 have K : Keep (fun l => l.1 = d) m w o m' w' o2 := ⟨J.mono, fun g l h _ => hold g (I.lt g l h), fun g l h _ => hS.block g (I.lt g l h) id, fun g l h hl => ho2o g l h hl, fun g j h => ho2o g _ h (zE1 (Nat.lt_of_lt_of_le hd I.wide)), fun g s k hs h => by
  rcases ho2 g _ h with ⟨_, e, _⟩ | ⟨_, _, h⟩
  · exact absurd e hs
  · exact ⟨g, k, h⟩, fun g j h => .of_eq (hS.block g (I.lt g _ h) id)⟩
 refine ⟨u, m', o2, rfl, I.same.trans (hS.weaken fun _ h => h.elim), J.sat, I.mono.trans J.mono, fun b hb hg => ?_, fun g l h => ?_, fun g l h => ?_, fun g g' l h h' => ?_, fun s hs g hg => ?_, fun s => ?_, I.defers, I.tbl, by rw [zA6]; exact I.wide, I.shps.keep I.pinned K.sh⟩
 ·
  rw [hold b (Nat.lt_of_lt_of_le hb I.same.size)]
  exact I.old b hb hg
 ·
  rcases ho2 g l h with ⟨h1, _, _⟩ | ⟨_, _, h1⟩
  · exact .inr (Nat.le_trans I.same.size h1)
  · exact I.own g l h1
 ·
  rcases ho2 g l h with ⟨_, _, h1⟩ | ⟨h1, _, _⟩
  · exact J.lt g _ h1
  · exact Nat.lt_of_lt_of_le h1 hS.size
 ·
  rcases ho2 g l h with ⟨_, h2, h1⟩ | ⟨_, h2, h1⟩ <;> rcases ho2 g' l h' with ⟨_, h2', h1'⟩ | ⟨_, h2', h1'⟩
  · exact J.inj g g' _ h1 h1'
  · exact absurd h2 h2'
  · exact absurd h2' h2
  · exact I.inj g g' l h1 h1'
 · exact ho2o g _ (I.pinned s hs g hg) fun e => hs.elim (fun hs => hpin (by rw [← e]; exact hs)) fun hs => by have e : s = d := e; have := I.wide; omega
 ·
  rw [zGF]
  by_cases h : s = d
  ·
   subst h
   rw [if_pos ⟨rfl, hd⟩, zZ]
   exact hr.reloc ho2n hnr
  ·
   rw [if_neg (fun e => h e.1), zH h]
   refine RepA.keep K (fun _ => h) (fun b off e hbO => ?_) (I.slots s)
   have hb : (∃ l, S b = .box l) → b ≠ d := fun ⟨l, hl⟩ e => by subst e; rw [hl] at hbox; cases hbox
   have hr := I.slots s
   rw [e] at hr
   obtain ⟨_, _, _, hr⟩ := hr
   exact ⟨hb (hr hbO), fun ⟨l, hl⟩ => ⟨l, by rw [zH (hb ⟨l, hl⟩), hl]⟩⟩
end
end Go.Proofs.Ytjomnccladjpgaa
