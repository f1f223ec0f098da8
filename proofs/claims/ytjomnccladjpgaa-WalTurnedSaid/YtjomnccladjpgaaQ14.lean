/-
  Texts joined: see the remark at the head of each part.
-/
import Derived.Test.YtjomnccladjpgaaQ07
import Derived.Lib.AppendZeros
import Derived.Test.YtjomnccladjpgaaQ13
import Derived.Test.YtjomnccladjpgaaQ10
set_option linter.unusedVariables false
set_option linter.unusedSimpArgs false
/-
  A slice of zeros appended; a slice that may grow out of a call's results; the program's numbers as bytes that may grow.
-/
namespace Go.Proofs.Ytjomnccladjpgaa
open Go Go.RowKit
set_option linter.unusedVariables false
set_option linter.unusedSimpArgs false

/-! ### Zeros -/
theorem zeroCells_one {z : Value} (n : Nat) : Builtin.zeroCells #[z] n = (List.replicate n z).toArray := by
  unfold Builtin.zeroCells
  apply Array.ext_getElem?
  intro i
  rw [Array.getElem?_map, Array.getElem?_range]
  by_cases h : i < n
  · rw [if_pos (by simpa using h)]; simp [h, Nat.mod_one]
  · rw [if_neg (by simpa using h)]; simp [h]
theorem run_app_zeros (P : Program) (w : World) {t tn e : TypeId} {ie : TypeInfo} {z : Value} (hu : P.underlying t = some (.slice e)) (kn : IntKind) (htn : P.underlying tn = some (.int kn)) (hi : P.info? e = some ie) (hz : ie.zero = some z) (hs1 : ie.size = 1) (hz1 : z.cells = #[z]) (hz2 : z.oneCell' = true) (hpb : 0 < ie.bytes) (ty : TypeId) (A' : Option Addr) (n c : Nat) (xs : List Value) (hown : Own w 0 e 1 A' n c xs)
    (ki : IntKind) (k : Nat) (hb : (n + k) * ie.bytes ≤ 140737488355328) :
    ∃ A2 c2 w', (Builtin.append_ #[t, tn] ty #[.slice A' n c, .int ki k]).run P w = .ok (.slice A2 (n + k) c2) w' ∧ Own w' 0 e 1 A2 (n + k) c2 (xs ++ List.replicate k z) ∧
      ((blk A2 = blk A' ∧ w.grownBy w' (blk A')) ∨ (blk A2 = some w.heap.size ∧ w.grownBy w' none)) := by
  have h63 : n + k ≤ maxLen := by
    have := Nat.le_mul_of_pos_right (n + k) hpb
    unfold maxLen; omega
  have hsmall : n + k ≤ 9223372036854775807 := by simp only [maxLen] at h63; omega
  have hw : IntKind.i64.wrap (k : Int) = k := by rw [IntKind.wrap_i64]; omega
  have hneg : ¬ ((k : Int) < 0) := by omega
  have hkb : k * ie.bytes ≤ 140737488355328 := Nat.le_trans (Nat.mul_le_mul_right _ (by omega)) hb
  have h48i : ¬ (281474976710656 < (k : Int) * (ie.bytes : Int)) := by
    rw [← Int.natCast_mul]
    omega
  have hlen : (xs ++ List.replicate k z).length = (n + k) * 1 := by rw [List.length_append, hown.1, List.length_replicate, Nat.add_mul, Nat.mul_one k]
  have hxl : xs.length = n := by rw [hown.1, Nat.mul_one]
  have grown : ∀ (old : Nat), old < n + k → 
      Own (w.drew.alloc (.cells (xs.toArray ++ (List.replicate k z).toArray ++ Builtin.zeroCells z.cells (grownCap w (n + k) old e - (n + k))) e)) 0 e 1 (some ⟨w.heap.size, 0, none⟩) (n + k) (grownCap w (n + k) old e) (xs ++ List.replicate k z) ∧
      w.grownBy (w.drew.alloc (.cells (xs.toArray ++ (List.replicate k z).toArray ++ Builtin.zeroCells z.cells (grownCap w (n + k) old e - (n + k))) e)) none := by
    intro old ho
    have hge := grownCap_ge w (n + k) old e
    have hcm : grownCap w (n + k) old e ≤ maxLen := grownCap_le_maxLen w (n + k) old e h63
    refine ⟨⟨hlen, .inr ⟨w.heap.size, _, _, rfl, Nat.zero_le _, heap_alloc_new w.drew _, hge, hcm, ?_, ?_⟩⟩, ⟨rfl, rfl, rfl, by simp, fun q hq _ => Below.heap_alloc w.drew _ q hq⟩⟩
    · simp only [Array.size_append, List.size_toArray, size_zeroCells, hz1, hxl, List.length_replicate, Nat.mul_one]
      rw [List.length_singleton, Nat.mul_one]
      omega
    · simp only [Array.toList_append, List.append_assoc]
      rw [← List.append_assoc, ← hlen]
      exact List.take_left
  rcases hown.2 with ⟨hv, rfl⟩ | ⟨g, cap, cur, hv, hbg, hg, hnc, hcm, hcs, htake⟩
  · injection hv with hv hv2 hv3
    subst hv hv3
    have hx : xs = [] := List.eq_nil_of_length_eq_zero hxl
    subst hx
    by_cases hm : k = 0
    · subst hm
      refine ⟨none, 0, w, ?_, World.ownsRow_nil w 0 e 1, .inl ⟨rfl, World.grownBy.refl w _⟩⟩
      simp [Builtin.append_, run_underlying hu, run_underlying htn, sizeOf, typeInfo, hi, asInt, asIntOf, show IntKind.i64.wrap 0 = 0 from rfl, hs1]
    · have hr := Lib.run_append_nil_zeros (P := P) w t tn ty e ie z ki kn hu htn hi hz k (by omega) (by omega) (by omega) (by omega)
      have hgr := grown 0 (by omega)
      simp only [Nat.zero_add, List.nil_append, Array.empty_append] at hgr ⊢
      have hzk : Builtin.zeroCells z.cells k = (List.replicate k z).toArray := by rw [hz1, zeroCells_one]
      rw [hzk] at hr
      exact ⟨_, _, _, hr, hgr.1, .inr ⟨rfl, hgr.2⟩⟩
  · injection hv with hv hv2 hv3
    subst hv hv3
    by_cases hm : k = 0
    · subst hm
      refine ⟨some ⟨g, 0, none⟩, c, w, ?_, by simpa using hown, .inl ⟨rfl, World.grownBy.refl w _⟩⟩
      simp [Builtin.append_, run_underlying hu, run_underlying htn, sizeOf, typeInfo, hi, asInt, asIntOf, show IntKind.i64.wrap 0 = 0 from rfl, hs1, hnc, storeCells]
    by_cases hroom : n + k ≤ c
    · have hfit : n * ie.size + (List.replicate k z).length ≤ cur.size := by rw [List.length_replicate, hcs, hs1, Nat.mul_one, Nat.mul_one]; exact hroom
      have hst := run_storeCells_at P g (n * ie.size) e (List.replicate k z) 0 cur w hg (by simpa using hfit) (fun u hu => by rw [(List.mem_replicate.1 hu).2]; exact hz2)
      simp only [Nat.add_zero] at hst
      have hr : (Builtin.append_ #[t, tn] ty #[.slice (some ⟨g, 0, none⟩) n c, .int ki k]).run P w = .ok (.slice (some ⟨g, 0, none⟩) (n + k) c) (w.setRow g (cur.toList.take (n * ie.size) ++ List.replicate k z ++ cur.toList.drop (n * ie.size + (List.replicate k z).length)).toArray) := by
        have hzk : Builtin.zeroCells #[z] k = (List.replicate k z).toArray := zeroCells_one k
        rw [hs1, Nat.mul_one] at hst
        simp [Builtin.append_, run_underlying hu, run_underlying htn, sizeOf, typeInfo, zeroValue, hi, hz, hs1, hz1, hm, asInt, asIntOf, hw, hneg, h48i, hroom, hzk, Addr.add_lit, hst]
      refine ⟨_, _, _, hr, ⟨hlen, .inr ⟨g, c, _, rfl, hbg, setRow_heap w g cur _ e _ hg, hroom, hcm, ?_, ?_⟩⟩, .inl ⟨rfl, ⟨rfl, rfl, rfl, by simp, fun k _ hk => setRow_other w g k _ (fun e => hk (by simp [blk, e]))⟩⟩⟩
      · simp only [List.size_toArray, List.length_append, List.length_take, List.length_drop, Array.length_toList]
        omega
      · rw [hs1, htake, ← hlen]
        exact List.take_left
    · have holds : ∀ j u, xs[j]? = some u → w.cell? ((⟨g, 0, none⟩ : Addr).add j) = some u := World.ownsRow.cells hown (g := g) rfl
      have hn : ¬ (n + k ≤ c) := hroom
      have h63' : ¬ (9223372036854775807 < ((n : Int) + (k : Int))) := by omega
      have h48' : ¬ (281474976710656 < Builtin.nextslicecap (n + k) c * ie.bytes) := by have := growslice_fits (need := n + k) (old := c) (bytes := ie.bytes) (by omega) hb; omega
      have hfo := run_firstCells_some (P := P) w.drew ie.size n ⟨g, 0, none⟩ n c xs (by rw [hs1, hown.1]) (by simpa using holds)
      have hzk : ∀ q, Builtin.zeroCells #[z] q = (List.replicate q z).toArray := zeroCells_one
      have hgr := grown c (by omega)
      refine ⟨_, _, _, ?_, hgr.1, .inr ⟨rfl, hgr.2⟩⟩
      rw [hs1] at hfo
      simp [Builtin.append_, run_underlying hu, run_underlying htn, sizeOf, typeInfo, zeroValue, hi, hz, hs1, hz1, hm, asInt, asIntOf, hw, hneg, h48i, hn, h63', h48', Question.forced, hfo, newRow, grownCap, hzk]
section
variable {w0 : World} {m0 : Mem} {o0 : OwnM} {G : Nat → Prop} {pins : List Nat} {S M : Nat → A} {a : Act} {w : World} {m : Mem} {o : OwnM} {P : Program} {N : Nat}
theorem apz_ok (I : Inv w0 m0 o0 G pins S a w m o) {e sz : Nat} {X : Sem Value} {d : Nat} (hd : d < a.tmps.size) (hbox : (S d).isBox = false) (hpin : d ∉ pins)
    {A' : Option Addr} {c : Nat} {l : List (List D)} {xs : List Value} (hown : Own w 0 e sz A' l.length c xs) (hrows : RowsR m sz l xs) (hblk : ∀ g, blk A' = some g → (∀ l, o g = some l → l.1 = d) ∧ (G g ∨ w0.heap.size ≤ g) ∧ g < w.heap.size ∧ ∀ p, m g p = xs[p]?)
    {l' : List (List D)} {news : List Value} (hr' : RowsR m sz l' news) 
    (hX : ∃ A2 c2 w', X.run P w = .ok (.slice A2 (l.length + l'.length) c2) w' ∧ Own w' 0 e sz A2 (l.length + l'.length) c2 (xs ++ news) ∧ ((blk A2 = blk A' ∧ w.grownBy w' (blk A')) ∨ (blk A2 = some w.heap.size ∧ w.grownBy w' none))) :
    ∃ v w' m' o', X.run P w = .ok v w' ∧ Inv w0 m0 o0 G pins (upd S d (.t (.own e sz (l ++ l')))) (a.put (some d) v) w' m' o' := by
  obtain ⟨A2, c2, w', hrun, hown2, hcase⟩ := hX
  refine ⟨.slice A2 (l.length + l'.length) c2, w', ?_⟩
  have hwid : ∀ (i : Nat) (r : List D), (l ++ l')[i]? = some r → r.length = sz := (hrows.append hr').2.1
  have fin : ∀ (g : Nat), blk A2 = some g → (∀ l, o g = some l → l.1 = d) → (G g ∨ w0.heap.size ≤ g) → Same (fun b => b = g ∧ b < w.heap.size) w w' → (∀ p u, m g p = some u → (xs ++ news)[p]? = some u) → ∃ m' o', X.run P w = .ok (.slice A2 (l.length + l'.length) c2) w' ∧ Inv w0 m0 o0 G pins (upd S d (.t (.own e sz (l ++ l')))) (a.put (some d) (.slice A2 (l.length + l'.length) c2)) w' m' o' := by
    intro g hg h2 h3 h4 h5
    have hlt : g < w'.heap.size := (Own.lt hown2 g hg).2
    refine ⟨_, _, hrun, I.own_put d _ _ (fun p => (xs ++ news)[p]?) g w' hd hbox hpin h2 h3 h4 hlt h5 (fun p u hp => Own.cellAt hown2 hg hp) ?_⟩
    have hmle : Mle m (newM m g fun p => (xs ++ news)[p]?) := by
      intro b p u hu
      unfold newM
      split
      · rename_i e; subst e; exact h5 p u hu
      · exact hu
    refine ⟨A2, c2, xs ++ news, by rw [List.length_append], by rw [List.length_append]; exact hown2, fun g' hg' => ?_, hwid, ((hrows.append hr').mono hmle).2.2⟩
    rw [hg] at hg'
    injection hg' with hg'
    subst hg'
    exact ⟨newO_same _ _ _, fun p => newM_same _ _ _ _⟩
  rcases hcase with ⟨hb2, hgr⟩ | ⟨hb2, hgr⟩
  · rcases blk_addr hown with rfl | ⟨g, rfl⟩
    · have hA2 : A2 = none := by
        rcases blk_addr hown2 with h | ⟨g, h⟩
        · exact h
        · rw [h] at hb2; cases hb2
      subst hA2
      have hS : Same (fun _ => False) w w' := ⟨hgr.os, hgr.tape, hgr.output, hgr.size, fun k hk _ => hgr.block k hk (by simp [blk])⟩
      refine ⟨m, o, hrun, I.put d _ _ hd hbox ⟨none, c2, xs ++ news, by rw [List.length_append], by rw [List.length_append]; exact hown2, fun g hg => (by cases hg), hwid, (hrows.append hr').2.2⟩ (I.same.trans (hS.weaken fun _ h => h.elim)) (fun b p u h => ?_) (Mle.refl _) (fun _ _ => rfl) (fun g hg => hS.block g hg id) hgr.size⟩
      have h1 := I.sat b p u h
      have hlt : b < w.heap.size := by have := World.block_lt_of_cell? w _ h1; simpa using this
      rw [World.cell?_of_block (w := w) (hS.block b hlt id)]
      exact h1
    · obtain ⟨h2, h3, h4, h5⟩ := hblk g rfl
      refine fin g hb2 h2 h3 ⟨hgr.os, hgr.tape, hgr.output, hgr.size, fun k hk hn => hgr.block k hk fun e => hn ?_⟩ fun p u hu => ?_
      · injection e with e; exact ⟨e, hk⟩
      · rw [h5] at hu
        rw [List.getElem?_append_left (List.getElem?_eq_some_iff.1 hu).1]
        exact hu
  · exact fin _ hb2 (I.free (Nat.le_refl _)) (I.newG (Nat.le_refl _)) ⟨hgr.os, hgr.tape, hgr.output, hgr.size, fun k hk hn => hgr.block k hk (by simp)⟩ fun p u hu => by rw [I.mem_none (Nat.le_refl _)] at hu; cases hu
/-- What k zeros of an element of one cell are. -/
def zerF (P : Program) (t tn : TypeId) : Option (Nat × Nat × Value) := match P.underlying t, P.underlying tn with
  | some (.slice e), some (.int _) => match P.info? e with
    | some ie => match ie.zero with
      | some (.int kz nz) => if ie.size = 1 ∧ 0 < ie.bytes then some (e, ie.bytes, .int kz nz) else none
      | _ => none
    | none => none
  | _, _ => none
/-- How many zeros are appended. -/
def apzI (nb m : Nat) (n : Int) : Option Nat := if 0 ≤ n ∧ (m + n.toNat) * nb ≤ 140737488355328 then some n.toNat else none
/-- append of zeros to what may grow. -/
theorem ok_apz (hM : Mk M S) {op : Oper} {d s t tn e nb q : Nat} {z : Value} {y : Operand} {ki : IntKind} {n : Int} (hop : op.op = .call { callee := .builtin .append, args := #[.tmp s, y], argTypes := #[t, tn] }) (hd : op.dst = some d) (hok : okD N pins S d = true) (hz : zerF P t tn = some (e, nb, z)) (hn : vO M y = some (.int ki n))
    {l : List (List D)} (hs : M s = .t (.own e 1 l)) (hne : (s == d) = false) (hsp : pins.contains s = false) (hq : apzI nb l.length n = some q) :
    OpOK P pins N op S (app S [(s, .t (.d (.seq 1 l))), (d, .t (.own e 1 (l ++ List.replicate q [.lit z])))]) := by
  have hne : s ≠ d := by simpa using hne
  have hsp : s ∉ pins := by simpa using hsp
  unfold zerF at hz
  split at hz
  case h_2 => cases hz
  rename_i e' kn hu htn
  split at hz
  case h_2 => cases hz
  rename_i ie hi
  split at hz
  case h_2 => cases hz
  rename_i kz nz hz0
  split at hz
  case isFalse => cases hz
  rename_i hc
  obtain ⟨hs1, hpb⟩ := hc
  generalize hzz : Value.int kz nz = z' at *
  have hz1 : z'.cells = #[z'] := by rw [← hzz]; rfl
  have hz2 : z'.oneCell' = true := by rw [← hzz]; rfl
  injection hz with hz
  injection hz with q1 hz
  injection hz with q2 q3
  subst q1 q2 q3
  unfold apzI at hq
  split at hq
  case isFalse => cases hq
  rename_i hq'
  injection hq with hq
  subst hq
  obtain ⟨hq0, hb⟩ := hq'
  obtain ⟨k, rfl⟩ := Int.eq_ofNat_of_zero_le hq0
  simp only [Int.toNat_natCast] at hb ⊢
  refine ok_of_run fun w0 m0 o0 G a w m o hN I => ?_
  obtain ⟨h1, h2, h3⟩ := okD_iff hok
  have hS : S s = .t (.own e' 1 l) := by
    rcases hM s with k | k
    · rw [k] at hs; cases hs
    · rw [← k]; exact hs
  have hown : OwnAt m w o (s, 0) e' 1 l (a.tmps.getD s undef) := by
    have := I.slots s
    rw [hS] at this
    exact this
  have hsO : s < OB := by
    rcases Nat.lt_or_ge s a.tmps.size with h | h
    · exact Nat.lt_of_lt_of_le h I.wide
    · obtain ⟨A', cap, xs, e, _⟩ := hown
      rw [Array.getD_eq_getD_getElem?, Array.getElem?_eq_none h] at e
      cases e
  have I1 := I.degrade s (by rw [hS]; rfl)
  rw [hS] at I1
  obtain ⟨o1, I2, ho1⟩ := I1.drop s hsp hsO (x := .seq 1 l) (by simp [upd, cpA, cpT])
  obtain ⟨A', cap, xs, e1, k1, k2, k3, k4⟩ := hown
  have hrows : RowsR m 1 l xs := ⟨k1.1, k3, k4⟩
  rw [e1] at k1
  have hrz : RowsR m 1 (List.replicate k [D.lit z']) (List.replicate k z') := by
    refine ⟨by simp, fun i r hi => ?_, fun i r j x hi hj => ?_⟩
    · rw [List.getElem?_replicate] at hi
      split at hi
      · injection hi with hi; subst hi; rfl
      · cases hi
    · rw [List.getElem?_replicate] at hi
      split at hi
      · rename_i hlt
        injection hi with hi
        subst hi
        cases j with
        | zero => injection hj with hj; subst hj; exact ⟨z', by rw [List.getElem?_replicate]; simp [hlt], .lit z' hz2⟩
        | succ j => simp at hj
      · cases hi
  obtain ⟨v, w', m', o', hr, J⟩ := apz_ok (d := d) (P := P) (X := Builtin.append_ #[t, tn] op.type #[.slice A' l.length cap, .int ki k]) I2 (by omega) (by rw [upd_other (Ne.symm hne)]; exact h2) h3 k1 hrows (fun g hg => by
    obtain ⟨q1, q2⟩ := k2 g hg
    refine ⟨fun l hl => ?_, I.own g _ q1, I.lt g _ q1, q2⟩
    obtain ⟨z1, z2⟩ := ho1 g l hl
    rw [q1] at z2
    injection z2 with z2
    exact absurd (by rw [← z2]) z1) hrz (by
      rw [List.length_replicate]
      exact run_app_zeros P w hu kn htn hi hz0 hs1 hz1 hz2 hpb op.type A' l.length cap xs k1 ki k hb)
  refine ⟨v, w', m', o', ?_, by rw [hd]; exact J⟩
  unfold execOp
  rw [hop]
  simp only [resolve, invoke, builtin, Sem.run_bind, Sem.run_pure, Result.andThen_ok, List.map_toArray, List.map_cons, List.map_nil]
  rw [vO_eq hM I hn, show a.eval (.tmp s) = .slice A' l.length cap from e1, hr]
  rfl
end
theorem apzC {α β : Type} {nb q : Nat} {l : List α} {c : α → β} {n : Int} (h : apzI nb l.length n = some q) : apzI nb (l.map c).length n = some q := by rw [List.length_map]; exact h
theorem apzE {α : Type} {E k q : Nat} {l : List α} {c : α → List D} {a : α} {z : Value} (h : c a = [.lit z]) : A.t (.own E k (l.map c ++ List.replicate q [.lit z])) = .t (.own E k ((l ++ List.replicate q a).map c)) := by
  rw [List.map_append, List.map_replicate, h]
/-! ### A call's results go over, with what may grow -/
section
variable {w0 : World} {m0 : Mem} {o0 : OwnM} {G : Nat → Prop} {pins : List Nat} {S M : Nat → A} {a : Act} {w : World} {m : Mem} {o : OwnM} {P : Program} {N : Nat}
def mvO (o : OwnM) (s d : Nat) : OwnM := fun g => match o g with
  | none => none
  | some (x, k) => if x = s ∧ k ≠ 0 then some (d, k) else if x = d then none else some (x, k)
theorem mvO_cases {s d g x k : Nat} (h : mvO o s d g = some (x, k)) : (x = d ∧ k ≠ 0 ∧ o g = some (s, k)) ∨ (x ≠ d ∧ o g = some (x, k)) := by
  unfold mvO at h
  split at h
  · cases h
  · rename_i x' k' ho
    split at h
    · rename_i hc
      obtain ⟨rfl, hk⟩ := hc
      injection h with h; injection h with h1 h2
      subst h1 h2
      exact .inl ⟨rfl, hk, ho⟩
    · split at h
      · cases h
      · rename_i hne
        injection h with h; injection h with h1 h2
        subst h1 h2
        exact .inr ⟨hne, ho⟩
theorem mvO_other {s d g x k : Nat} (h : o g = some (x, k)) (hs : x = s → k = 0) (hd : x ≠ d) : mvO o s d g = some (x, k) := by
  unfold mvO
  rw [h]
  show (if x = s ∧ k ≠ 0 then _ else _) = _
  rw [if_neg (fun hc => hc.2 (hs hc.1)), if_neg hd]
theorem mvO_part {s d g k : Nat} (h : o g = some (s, k)) (hk : k ≠ 0) : mvO o s d g = some (d, k) := by
  unfold mvO
  rw [h]
  show (if s = s ∧ k ≠ 0 then _ else _) = _
  rw [if_pos ⟨rfl, hk⟩]
theorem mvt_inv (I : Inv w0 m0 o0 G pins S a w m o) {s d : Nat} {l : List T} (hs : S s = .tup l) (hne : s ≠ d) (hsO : s < OB) (hd : d < a.tmps.size) (hbox : (S d).isBox = false) (hpin : d ∉ pins) :
    Inv w0 m0 o0 G pins (upd (upd S s (.tup (l.map cpT))) d (.tup l)) (a.put (some d) (a.tmps.getD s undef)) w m (mvO o s d) := by
  have hdO : d < OB := Nat.lt_of_lt_of_le hd I.wide
  have K : Keep (fun x => x.1 = s ∨ x.1 = d) m w o m w (mvO o s d) :=
    ⟨Mle.refl _, fun _ _ _ _ => rfl, fun _ _ _ _ => rfl, fun g ⟨x, k⟩ h hn => mvO_other h (fun e => absurd (.inl e) hn) (fun e => hn (.inr e)), fun g j h => mvO_other h (fun e => (by omega)) (by omega), fun g x k hn h => by
      rcases mvO_cases h with ⟨e, _⟩ | ⟨_, h⟩
      · exact absurd (.inr e) hn
      · exact ⟨g, k, h⟩, fun _ _ _ => .of_eq rfl⟩
  have hsl := I.slots s
  rw [hs] at hsl
  obtain ⟨vs, e, h1, h2⟩ := hsl
  have hloc : ¬ ((fun x : Nat × Nat => x.1 = s ∨ x.1 = d) (s + d + 1, 0)) := by simp only; omega
  refine ⟨I.same, I.sat, I.mono, I.old, fun g ⟨x, k⟩ h => ?_, fun g ⟨x, k⟩ h => ?_, fun g g' ⟨x, k⟩ h h' => ?_, fun p hp g hg => ?_, fun t => ?_, I.defers, I.tbl, by rw [put_size]; exact I.wide, I.shps⟩
  · rcases mvO_cases h with ⟨_, _, h⟩ | ⟨_, h⟩ <;> exact I.own g _ h
  · rcases mvO_cases h with ⟨_, _, h⟩ | ⟨_, h⟩ <;> exact I.lt g _ h
  · rcases mvO_cases h with ⟨e1, _, h⟩ | ⟨e1, h⟩ <;> rcases mvO_cases h' with ⟨e2, _, h'⟩ | ⟨e2, h'⟩
    · exact I.inj g g' _ h h'
    · exact absurd e1 e2
    · exact absurd e2 e1
    · exact I.inj g g' _ h h'
  · have h := I.pinned p hp g hg
    exact mvO_other h (fun _ => rfl) (fun e => hp.elim (fun hp => hpin (by rw [← e]; exact hp)) fun hp => by omega)
  · by_cases ed : t = d
    · subst ed
      rw [upd_same, show (a.put (some t) (a.tmps.getD s undef)).tmps.getD t undef = a.tmps.getD s undef from by simp [Act.put, Array.getD_eq_getD_getElem?, hd]]
      refine ⟨vs, e, h1, fun j x hj => ?_⟩
      obtain ⟨u, h3, h4⟩ := h2 j x hj
      refine ⟨u, h3, ?_⟩
      have h5 : RepT m w (mvO o s t) (t, j + 1) (cpT x) u := cpT_rep (loc := (s + t + 1, 0)) I.sat (RepT.keep K hloc (cpT_rep I.sat h4)) |> fun h => (by
        have hh : cpT (cpT x) = cpT x := by cases x <;> rfl
        rw [hh] at h; exact h)
      cases x with
      | own E k ls =>
        obtain ⟨A', cap, xs, e1, k1, k2, k3, k4⟩ := h4
        exact ⟨A', cap, xs, e1, k1, fun g hg => ⟨mvO_part (k2 g hg).1 (by omega), (k2 g hg).2⟩, k3, k4⟩
      | d x => exact h5
      | agg x => exact h5
      | ptr x y => exact h5
      | view x y E k z => exact h5
      | hpt x y => exact h5
      | mpt x => exact h5
      | hvw x y E k z => exact h5
    · rw [upd_other ed, show (a.put (some d) (a.tmps.getD s undef)).tmps.getD t undef = a.tmps.getD t undef from by simp [Act.put, Array.getD_eq_getD_getElem?, Ne.symm ed]]
      by_cases es : t = s
      · subst es
        rw [upd_same]
        refine ⟨vs, e, by simpa using h1, fun j x hj => ?_⟩
        rw [List.getElem?_map] at hj
        cases hu : l[j]? with
        | none => rw [hu] at hj; cases hj
        | some z =>
          rw [hu] at hj
          injection hj with hj
          subst hj
          obtain ⟨u, h3, h4⟩ := h2 j z hu
          have h5 := RepT.keep K hloc (cpT_rep I.sat h4)
          refine ⟨u, h3, ?_⟩
          have h6 := cpT_rep (loc' := (t, j + 1)) I.sat h5
          have hh : cpT (cpT z) = cpT z := by cases z <;> rfl
          rw [hh] at h6
          exact h6
      · rw [upd_other es]
        refine RepA.keep K (fun j e => by rcases e with e | e; exact es e; exact ed e) (fun b off he hbO => ?_) (I.slots t)
        have h := I.slots t
        rw [he] at h
        obtain ⟨_, _, _, hl⟩ := h
        obtain ⟨l', hl⟩ := hl hbO
        have hbs : b ≠ s := fun e => by subst e; rw [hs] at hl; cases hl
        have hbd : b ≠ d := fun e => by subst e; rw [hl] at hbox; cases hbox
        exact ⟨fun e => by rcases e with e | e; exact hbs e; exact hbd e, fun ⟨l2, hl2⟩ => ⟨l2, by rw [upd_other hbd, upd_other hbs]; exact hl2⟩⟩
theorem ok_mvt {op : Oper} {s d : Nat} {l : List T} (hop : op.op = .move (.tmp s) ∨ op.op = .assign (.tmp s)) (hd : op.dst = some d) (hok : okD N pins S d = true) (hs : S s = .tup l) (hsO : Nat.blt s OB = true) (hne : (s == d) = false) : OpOK P pins N op S (app S [(s, .tup (l.map cpT)), (d, .tup l)]) := by
  refine ok_of_run fun w0 m0 o0 G a w m o hN I => ?_
  obtain ⟨h1, h2, h3⟩ := okD_iff hok
  refine ⟨_, w, _, _, ?_, by rw [hd]; exact mvt_inv I hs (by simpa using hne) (by rw [Nat.blt_eq] at hsO; exact hsO) (by omega) h2 h3⟩
  unfold execOp
  rcases hop with e | e <;> (rw [e]; rfl)
end
section
variable {P : Program} {pins : List Nat} {N : Nat} {ops : Array Oper} {Q : SL → Prop} {r : List Oper} {op : Oper} {L : SL}
theorem o_mvt {s d : Nat} {l l' : List T} (hy : yes ops op L true) (hop : op.op = .move (.tmp s) ∨ op.op = .assign (.tmp s)) (hd : op.dst = some d) (hok : okD N pins (gt L) d = true) (hs : gt L s = .tup l) (hl : l.map cpT = l') (hsO : Nat.blt s OB = true) (hne : (s == d) = false) (h : OpsOK P pins N ops Q r ((d, .tup l) :: (s, .tup l') :: L)) : OpsOK P pins N ops Q (op :: r) L := by
  subst hl
  exact o_of (e := [(s, _), (d, _)]) hy (.of (e := [(s, _), (d, _)]) fun hN => ⟨ok_mvt hop hd (okD_hx hN hok) (hx_of hs (by simp)) hsO hne, eff_2 (stb_of (Mk.refl _) hs rfl) rfl (okD_lo hN hok)⟩) rfl h
theorem o_apz {d s t tn e nb q : Nat} {z : Value} {y : Operand} {ki : IntKind} {n : Int} {l : List (List D)} {x : A} (u : A) (hq : apzI nb l.length n = some q) (hx : A.t (.own e 1 (l ++ List.replicate q [.lit z])) = x) (hy : yes ops op L true) (hop : op.op = .call { callee := .builtin .append, args := #[.tmp s, y], argTypes := #[t, tn] }) (hd : op.dst = some d) (hok : okD N pins (gt L) d = true) (hz : zerF P t tn = some (e, nb, z)) (hn : vO (gt L) y = some (.int ki n))
    (hs : gt L s = .t (.own e 1 l)) (hne : (s == d) = false) (hsp : pins.contains s = false) (hu : A.t (.d (.seq 1 l)) = u) (h : OpsOK P pins N ops Q r ((d, x) :: (s, u) :: L)) : OpsOK P pins N ops Q (op :: r) L := by
  subst hx hu
  exact o_of (e := [(s, _), (d, _)]) hy (.of (e := [(s, _), (d, _)]) fun hN => ⟨ok_apz (Mk_hx _) hop hd (okD_hx hN hok) hz hn hs hne hsp hq, eff_2 (stb_of (Mk.refl _) hs rfl) rfl (okD_lo hN hok)⟩) rfl h
theorem o_xt {s i d E k : Nat} {l l' : List T} {ls : List (List D)} (hy : yes ops op L true) (hop : op.op = .extract (.tmp s) i) (hb : gt L s = .tup l) (hl : l[i]? = some (.own E k ls)) (hl' : l.set i (.d (.seq k ls)) = l') (hne : (s == d) = false) (hd : op.dst = some d) (hok : okD N pins (gt L) d = true) (h : OpsOK P pins N ops Q r ((d, .t (.own E k ls)) :: (s, .tup l') :: L)) : OpsOK P pins N ops Q (op :: r) L := by
  subst hl'
  exact o_of (e := [(s, _), (d, _)]) hy (.of (e := [(s, _), (d, _)]) fun hN => ⟨ok_xt hop (hx_of hb (by simp)) hl hne hd (okD_hx hN hok), eff_2 (stb_of (Mk.refl _) hb rfl) rfl (okD_lo hN hok)⟩) rfl h
end

/-! ### The program's numbers as bytes that may grow -/
/-- The call hands back bytes of its own, and an error's number. -/
def GivesOE (bs : List UInt8) (er : Int) (w : World) (e : Ending) (w' : World) : Prop := ∃ A c, e = .returned (.tuple #[.slice A bs.length c, .int .i64 er]) ∧ Own w' w.heap.size 5 1 A bs.length c (u8s bs) ∧ Below w.heap.size w w'
set_option maxHeartbeats 1000000 in
theorem turned_own (bs : List UInt8) (A : Option Addr) (n c : Nat) (w : World) (hn : bs.length = n) (hl : n ≤ 1000000000000) (ha : Byt w A bs) :
    Calls Try.prog 116 #[.slice A n c] w (GivesO bs.reverse w) := by
  subst hn
  go_enter Try.func116, Try.ntmps116
  go_wp2_with fail
  refine (clone_any bs A bs.length c w rfl hl ha).mono ?_
  rintro e w1 ⟨A1, c1, rfl, hO, hB⟩
  go_wp2_with fail
  refine (reverse_any bs w.heap.size A1 bs.length c1 w1 rfl (by omega) hO).mono ?_
  rintro e w2 ⟨rfl, hO2, hB2⟩
  go_wp2_with fail
  go_ret
  exact ⟨A1, c1, by rw [List.length_reverse]; rfl, by rw [List.length_reverse]; exact hO2, hB.trans hB2⟩
set_option maxHeartbeats 1000000 in
theorem put_own (n size : Nat) (w : World) (hn : n ≤ 4611686018427387904) (h1 : 1 ≤ size) (h8 : size ≤ 8) (hw : wid n ≤ size) :
    Calls Try.prog 81 #[.int .i64 n, .int .i64 size] w (GivesOE (be size n) 0 w) := by
  go_enter Try.func81, Try.ntmps81
  go_wp2_with fail
  refine (low_any n size _ hn h1 h8 hw).mono ?_
  rintro e w1 ⟨A, c, rfl, hb, hc, hB⟩
  go_wp2_with fail
  refine (turned_own (le size n) A _ c w1 rfl (by rw [le_length]; omega) hb.1).mono ?_
  rintro e w2 ⟨A2, c2, rfl, hO2, hB2⟩
  go_wp2_with fail
  go_ret2
  refine ⟨A2, c2, by rw [be_length, le_length]; rfl, ?_, hB.trans (hB2.mono hB.size)⟩
  have hO2 : Own w2 w1.heap.size 5 1 A2 (be size n).length c2 (u8s (be size n)) := hO2
  exact ⟨hO2.1, hO2.2.imp id fun ⟨g, cap, cur, e1, e2, e3⟩ => ⟨g, cap, cur, e1, Nat.le_trans hB.size e2, e3⟩⟩
theorem fc_own_err {f : FuncId} {args : List A} {bs : List UInt8} {er : Int} (h : ∀ (w : World) (m : Mem) (o : OwnM) (vals : Array Value), vals.size = args.length → (∀ s, RepA m w o (argS args) s (argS args s) (vals.getD s undef)) → Calls Try.prog f vals w (GivesOE bs er w)) : FC Try.prog f args [] (.tup [.own 5 1 (bytesD bs), .d (.lit (.int .i64 er))]) := by
  intro w m o vals hsat htbl hlt hinj hsz hrep
  refine (h w m o vals hsz hrep).mono ?_
  rintro e w' ⟨A', c, rfl, hO, hb⟩
  have hlow : ∀ b p u, m b p = some u → b < w.heap.size := fun b p u h => by
    have := World.block_lt_of_cell? w _ (hsat b p u h)
    simpa using this
  have hO0 : w'.ownsRow 0 5 1 (.slice A' bs.length c) bs.length (u8s bs) := ⟨hO.1, hO.2.imp id fun ⟨g, cap, cur, e1, e2, e3⟩ => ⟨g, cap, cur, e1, Nat.zero_le _, e3⟩⟩
  have hbl : (bytesD bs).length = bs.length := bytesD_length bs
  have hrow : ∀ (i : Nat) (r : List D), (bytesD bs)[i]? = some r → ∃ hi : i < bs.length, r = [D.lit (.int .u8 (bs[i].toNat : Int))] := by
    intro i r hi
    have hlt : i < bs.length := by rw [← hbl]; exact (List.getElem?_eq_some_iff.1 hi).1
    refine ⟨hlt, ?_⟩
    unfold bytesD at hi
    rw [List.getElem?_map, List.getElem?_eq_getElem hlt] at hi
    injection hi with hi
    exact hi.symm
  have hown : ∀ (m' : Mem) (o' : OwnM) (ρ : Nat), (∀ g, blk A' = some g → o' g = some (ρ, 1) ∧ ∀ p, m' g p = (u8s bs)[p]?) → RepA m' w' o' (fun _ => .any) ρ (.tup [.own 5 1 (bytesD bs), .d (.lit (.int .i64 er))]) (.tuple #[.slice A' bs.length c, .int .i64 er]) := by
    intro m' o' ρ hg
    refine ⟨_, rfl, rfl, fun j x hj => ?_⟩
    match j, hj with
    | 0, hj =>
      injection hj with hj
      subst hj
      refine ⟨.slice A' bs.length c, rfl, A', c, u8s bs, by rw [hbl], by rw [hbl]; exact hO0, hg, fun i r hi => ?_, fun i r j d hi hj => ?_⟩
      · obtain ⟨_, rfl⟩ := hrow i r hi
        rfl
      · obtain ⟨hlt, rfl⟩ := hrow i r hi
        cases j with
        | succ j => simp at hj
        | zero =>
          injection hj with hj
          subst hj
          refine ⟨.int .u8 (bs[i].toNat : Int), ?_, .lit _ rfl⟩
          rw [Nat.mul_one, Nat.add_zero]
          unfold u8s
          rw [List.getElem?_map, List.getElem?_eq_getElem hlt]
          rfl
    | 1, hj => injection hj with hj; subst hj; exact ⟨_, rfl, .lit _ rfl⟩
    | j + 2, hj => simp at hj
  have hA : blk A' = none ∨ ∃ g, blk A' = some g ∧ w.heap.size ≤ g ∧ g < w'.heap.size := by
    cases hA : blk A' with
    | none => exact .inl rfl
    | some g => exact .inr ⟨g, rfl, hO.lt g hA⟩
  rcases hA with hA | ⟨g, hA, hg1, hg2⟩
  · refine ⟨_, newAll m w w', o, _, _, 0, rfl, inv_of_below hsat htbl hlt hinj hb, hown _ _ _ fun g hg => (by rw [hA] at hg; cases hg), fun i l h => by cases h⟩
  · refine ⟨_, newM m g fun p => (u8s bs)[p]?, fun b => if b = g then some (OB, 1) else o b, fun _ => .any, { tmps := #[], defers := [] }, OB, rfl, ?_, hown _ _ _ fun g' hg' => ?_, fun i l h => by cases h⟩
    · refine ⟨Same.of_below hb, fun b p u h => ?_, fun b p u h => ?_, fun b hb' _ => ?_, fun g' l h => ?_, fun g' l h => ?_, fun g1 g2 l h h' => ?_, fun s _ g' hg' => ?_, fun s => trivial, rfl, htbl, Nat.zero_le _, fun g' j h => absurd (hlt g' _ h).2 (by show ¬ OB + j < OB; omega)⟩
      · unfold newM at h
        split at h
        · rename_i e; subst e
          exact Own.cellAt (show Own w' 0 5 1 A' bs.length c (u8s bs) from hO0) hA h
        · rw [hb.cell (p := ⟨b, p, none⟩) (hlow b p u h)]
          exact hsat b p u h
      · unfold newM
        rw [if_neg (by have := hlow b p u h; omega)]
        exact h
      · funext p
        unfold newM
        rw [if_neg (by omega)]
      · by_cases e : g' = g
        · exact .inr (by omega)
        · rw [if_neg e] at h; exact .inl (by rw [h]; simp)
      · by_cases e : g' = g
        · omega
        · rw [if_neg e] at h; exact Nat.lt_of_lt_of_le (hlt g' l h).1 hb.size
      · by_cases e1 : g1 = g <;> by_cases e2 : g2 = g
        · omega
        · rw [if_pos e1] at h; rw [if_neg e2] at h'
          injection h with h; subst h
          exact absurd (hlt g2 _ h').2 (Nat.lt_irrefl _)
        · rw [if_neg e1] at h; rw [if_pos e2] at h'
          injection h' with h'; subst h'
          exact absurd (hlt g1 _ h).2 (Nat.lt_irrefl _)
        · rw [if_neg e1] at h; rw [if_neg e2] at h'
          exact hinj g1 g2 l h h'
      · have := (hlt g' _ hg').1
        rw [if_neg (by omega)]
        exact hg'
    · rw [hA] at hg'
      injection hg' with hg'
      subst hg'
      exact ⟨if_pos rfl, fun p => newM_same _ _ _ _⟩
theorem fc_word_PutO (p0 p1 : Int) (r : List UInt8 × Int) (h : m_word_Put p0 p1 = some r) : FC Try.prog 81 [.t (.d (.lit (.int .i64 p0))), .t (.d (.lit (.int .i64 p1)))] [] (.tup [.own 5 1 (bytesD r.1), .d (.lit (.int .i64 r.2))]) := by
  unfold m_word_Put at h
  split at h
  case isFalse => cases h
  rename_i hc
  injection h with h
  subst h
  obtain ⟨h1, h2, h3, h4, h5⟩ := hc
  obtain ⟨n, rfl⟩ := Int.eq_ofNat_of_zero_le h1
  obtain ⟨k, rfl⟩ := Int.eq_ofNat_of_zero_le (show 0 ≤ p1 by omega)
  refine fc_own_err fun w m o vals hs hrep => ?_
  rw [vals2 hs (int_of (hrep 0)) (int_of (hrep 1))]
  simp only [Int.toNat_natCast] at h5 ⊢
  exact put_own n k w (by omega) (by omega) (by omega) ((lt_wid k n).1 h5)
end Go.Proofs.Ytjomnccladjpgaa

/-
  Growing a nil slice: cap, a cut of nil, append of zeros to nil, and the empty piece of what that gives.
-/
namespace Go.Proofs.Ytjomnccladjpgaa
open Go Go.RowKit
set_option linter.unusedVariables false
section
variable {w0 : World} {m0 : Mem} {o0 : OwnM} {G : Nat → Prop} {pins : List Nat} {S M : Nat → A} {a : Act} {w : World} {m : Mem} {o : OwnM} {P : Program} {N : Nat} {op : Oper} {d : Nat}
theorem h_cap0 (hM : Mk M S) {t e : Nat} {x : Operand} (hop : op.op = .call { callee := .builtin .cap, args := ⟨[x]⟩, argTypes := ⟨[t]⟩ }) (hx : vO M x = some (.slice none 0 0)) (hu : P.underlying t = some (.slice e)) (hd : op.dst = some d) (hok : okD N pins S d = true) : OpH P pins N op S (app S [(d, .t (.d (.lit (.int .i64 0))))]) := by
  refine .of (e := [(d, _)]) fun hN => ⟨?_, eff_1 (okD_lo hN hok)⟩
  refine ok_of_run fun w0 m0 o0 G ac w m o hN' I => ?_
  obtain ⟨h1, h2, h3⟩ := okD_iff (okD_hx hN hok)
  refine ⟨.int .i64 0, w, m, o, ?_, by rw [hd]; exact I.set d _ _ (by omega) h2 (.lit _ rfl)⟩
  unfold execOp
  rw [hop]
  simp only [resolve, invoke, builtin, Sem.run_bind, Sem.run_pure, Result.andThen_ok, List.map_toArray, List.map_cons, List.map_nil]
  rw [vO_eq hM.hx I hx]
  simp [Builtin.cap_, run_underlying hu, goInt]
theorem h_slnil (hM : Mk M S) {t e : Nat} {x : Operand} {hi : Option Operand} {ie : TypeInfo} (hop : op.op = .slice t x none hi none) (hx : vO M x = some (.slice none 0 0)) (hhi : bndO M hi = some (some 0)) (hu : P.underlying t = some (.slice e)) (hie : P.info? e = some ie) (hd : op.dst = some d) (hok : okD N pins S d = true) : OpH P pins N op S (app S [(d, .t (.d (.lit (.slice none 0 0))))]) := by
  refine .of (e := [(d, _)]) fun hN => ⟨?_, eff_1 (okD_lo hN hok)⟩
  refine ok_of_run fun w0 m0 o0 G ac w m o hN' I => ?_
  obtain ⟨h1, h2, h3⟩ := okD_iff (okD_hx hN hok)
  obtain ⟨kh, e2⟩ := bndO_eq hM.hx I hhi
  refine ⟨.slice none 0 0, w, m, o, ?_, by rw [hd]; exact I.set d _ _ (by omega) h2 (.lit _ rfl)⟩
  unfold execOp
  rw [hop]
  simp only [Sem.run_bind]
  rw [e2, vO_eq hM.hx I hx]
  have hb : (Instr.sliceBounds true 0 0 none ((some (0 : Int)).map fun z => .int (kh z) z) none).run P w = .ok (0, 0, 0) w := by
    unfold Instr.sliceBounds
    simp only [Option.map_some, Option.isSome_some, Sem.run_bind, Sem.run_pure, Result.andThen_ok]
    repeat (rw [run_sliceBound_ok (by omega) (by omega), Result.andThen_ok])
    rfl
  show Result.andThen (Sem.run P (Instr.sliceAt t (.slice none 0 0) none _ none) w) _ = _
  unfold Instr.sliceAt
  simp only [Sem.run_bind, run_underlying hu, Result.andThen_ok]
  unfold Instr.slice
  simp only [Sem.run_bind, run_underlying hu, Result.andThen_ok]
  rw [hb]
  simp [sizeOf, typeInfo, hie]
def growI (nb : Nat) (n : Int) : Option Nat := if 0 < n ∧ n.toNat * nb ≤ 140737488355328 then some n.toNat else none
theorem h_apfr (hM : Mk M S) {t tn e nb q : Nat} {z : Value} {x y : Operand} {ki : IntKind} {n : Int} (hop : op.op = .call { callee := .builtin .append, args := ⟨[x, y]⟩, argTypes := ⟨[t, tn]⟩ }) (hx : vO M x = some (.slice none 0 0)) (hn : vO M y = some (.int ki n)) (hz : zerF P t tn = some (e, nb, z)) (hq : growI nb n = some q) (hd : op.dst = some d) (hok : okD N pins S d = true) : OpH P pins N op S (app S [(d, .fr e 1)]) := by
  unfold zerF at hz
  split at hz
  case h_2 => cases hz
  rename_i e' kn hu htn
  split at hz
  case h_2 => cases hz
  rename_i ie hi
  split at hz
  case h_2 => cases hz
  rename_i kz nz hz0
  split at hz
  case isFalse => cases hz
  rename_i hc
  obtain ⟨hs1, hpb⟩ := hc
  generalize hzz : Value.int kz nz = z' at *
  have hz1 : z'.cells = #[z'] := by rw [← hzz]; rfl
  have hz2 : z'.oneCell' = true := by rw [← hzz]; rfl
  injection hz with hz
  injection hz with q1 hz
  injection hz with q2 q3
  subst q1 q2 q3
  unfold growI at hq
  split at hq
  case isFalse => cases hq
  rename_i hq'
  injection hq with hq
  subst hq
  obtain ⟨hq0, hb⟩ := hq'
  obtain ⟨k, rfl⟩ := Int.eq_ofNat_of_zero_le (Int.le_of_lt hq0)
  simp only [Int.toNat_natCast] at hb
  have hk : 0 < k := by omega
  refine .of (e := [(d, _)]) fun hN => ⟨?_, eff_1 (okD_lo hN hok)⟩
  refine ok_of_run fun w0 m0 o0 G a w m o hN' I => ?_
  obtain ⟨h1, h2, h3⟩ := okD_iff (okD_hx hN hok)
  obtain ⟨A2, c2, w', hrun, hown, hcase⟩ := run_app_zeros P w hu kn htn hi hz0 hs1 hz1 hz2 hpb op.type none 0 0 [] (World.ownsRow_nil w 0 e' 1) ki k (by simpa using hb)
  rw [Nat.zero_add] at hrun hown
  obtain ⟨g, cap, cur, hv, _, hg, hcap, hmax, hsz, htk⟩ := hown.2.resolve_left fun h => by omega
  injection hv with hv _ hv2
  subst hv hv2
  have hgr : g = w.heap.size ∧ w.grownBy w' none := by
    rcases hcase with ⟨h, _⟩ | ⟨h, h'⟩
    · cases h
    · injection h with h; exact ⟨h, h'⟩
  obtain ⟨rfl, hgr⟩ := hgr
  refine ⟨_, w', _, _, ?_, by
    rw [hd]
    refine I.own_put d (.fr e' 1) (.slice (some ⟨w.heap.size, 0, none⟩) k c2) (fun _ => none) w.heap.size w' (by omega) h2 h3 (I.free (Nat.le_refl _)) (I.newG (Nat.le_refl _)) ⟨hgr.os, hgr.tape, hgr.output, hgr.size, fun j hj _ => hgr.block j hj (by simp)⟩ (by
      exact (Array.getElem?_eq_some_iff.1 hg).1) (fun p u h => by rw [I.mem_none (Nat.le_refl _)] at h; cases h) (fun p u h => by cases h) ?_
    exact ⟨w.heap.size, k, c2, cur, rfl, newO_same _ _ _, fun p => newM_same _ _ _ _, hg, hcap, hmax, hsz⟩⟩
  unfold execOp
  rw [hop]
  simp only [resolve, invoke, builtin, Sem.run_bind, Sem.run_pure, Result.andThen_ok, List.map_toArray, List.map_cons, List.map_nil]
  rw [vO_eq hM.hx I hx, vO_eq hM.hx I hn, hrun]
  rfl
/-- A block that only slot s owned, of which nothing is told any more. -/
theorem Inv.unown (I : Inv w0 m0 o0 G pins S a w m o) {s g : Nat} (hs : s < OB) (hp : s ∉ pins) (hS : S s = .any) (ho : o g = some (s, 0)) : Inv w0 m0 o0 G pins S a w m (fun b => if b = g then none else o b) := by
  have hk : ∀ b l, (fun b => if b = g then none else o b) b = some l → b ≠ g ∧ o b = some l := by
    intro b l h
    show _ ∧ _
    by_cases e : b = g
    · simp only [e, if_pos] at h; cases h
    · simp only [e, if_neg, if_false] at h; exact ⟨e, h⟩
  have K : Keep (fun l => l.1 = s) m w o m w (fun b => if b = g then none else o b) := ⟨Mle.refl _, fun _ _ _ _ => rfl, fun _ _ _ _ => rfl, fun b l h hn => by
      show (if b = g then none else o b) = _
      rw [if_neg (fun e => by rw [e, ho] at h; injection h with h; exact hn (by rw [← h])), h], fun b j h => by
      show (if b = g then none else o b) = _
      rw [if_neg (fun e => by rw [e, ho] at h; injection h with h; injection h with h; omega), h], fun b t k _ h => ⟨b, k, (hk b _ h).2⟩, fun _ _ _ => .of_eq rfl⟩
  refine ⟨I.same, I.sat, I.mono, I.old, fun b l h => I.own b l (hk b l h).2, fun b l h => I.lt b l (hk b l h).2, fun b b' l h h' => I.inj b b' l (hk b l h).2 (hk b' l h').2, fun p hpp b hb => ?_, fun t => ?_, I.defers, I.tbl, I.wide, I.shps⟩
  · exact K.own b _ (I.pinned p hpp b hb) (fun e => hpp.elim (fun h => hp (by have e : p = s := e; rw [← e]; exact h)) fun h => by have e : p = s := e; omega)
  · by_cases e : t = s
    · subst e; rw [hS]; trivial
    · refine RepA.keep K (fun _ e2 => e e2) (fun b off he hb => ⟨fun e2 => ?_, id⟩) (I.slots t)
      have e2 : b = s := e2
      subst e2
      have h := I.slots t
      rw [he] at h
      obtain ⟨_, _, _, h3⟩ := h
      obtain ⟨l, hl⟩ := h3 hb
      rw [hS] at hl
      cases hl
theorem h_slfr {s : Nat} (hM : Mk M S) {t e E k : Nat} {hi : Option Operand} {ie : TypeInfo} (hop : op.op = .slice t (.tmp s) none hi none) (hxs : M s = .fr E k) (hhi : bndO M hi = some (some 0)) (hu : P.underlying t = some (.slice e)) (hie : P.info? e = some ie) (hsd : (s == d) = false) (hsp : (Nat.blt s OB && !pins.contains s) = true) (hd : op.dst = some d) (hok : okD N pins S d = true) : OpH P pins N op S (app S [(s, .any), (d, .t (.own E k []))]) := by
  simp only [Bool.and_eq_true, Bool.not_eq_true', List.contains_eq_mem, decide_eq_false_iff_not] at hsp
  have hsO : s < OB := by simpa using hsp.1
  have hne : s ≠ d := by simpa using hsd
  refine .of (e := [(s, _), (d, _)]) fun hN => ⟨?_, fun z hz => by
    simp at hz
    rcases hz with rfl | rfl
    · exact .inl hsO
    · exact .inl (okD_lo hN hok)⟩
  refine ok_of_run fun w0 m0 o0 G a w m o hN' I => ?_
  obtain ⟨h1, h2, h3⟩ := okD_iff (okD_hx hN hok)
  have hSs : hx S s = .fr E k := by
    rcases hM s with h | h
    · rw [h] at hxs; cases hxs
    · exact hx_of (h.symm.trans hxs) (by simp)
  have hs := I.slots s
  rw [hSs] at hs
  obtain ⟨g, n, cap, cur, q1, q2, q3, q4, q5, q6, q7⟩ := hs
  obtain ⟨kh, e2⟩ := bndO_eq hM.hx I hhi
  have I1 := I.tell s .any (by rw [hSs]; rfl) trivial
  have I2 := I1.unown (g := g) hsO hsp.2 (upd_same _ _ _) q2
  have hev : a.eval (.tmp s) = .slice (some ⟨g, 0, none⟩) n cap := q1
  have hb : (Instr.sliceBounds true n cap none ((some (0 : Int)).map fun z => .int (kh z) z) none).run P w = .ok (0, 0, cap) w := by
    unfold Instr.sliceBounds
    simp only [Option.map_some, Option.isSome_some, Sem.run_bind, Sem.run_pure, Result.andThen_ok]
    repeat (rw [run_sliceBound_ok (by omega) (by omega), Result.andThen_ok])
    rfl
  refine ⟨.slice (some ⟨g, 0, none⟩) 0 cap, w, _, _, ?_, by
    rw [hd]
    refine I2.own_put d (.t (.own E k [])) (.slice (some ⟨g, 0, none⟩) 0 cap) (fun _ => none) g w (by omega) (by rw [upd_other (Ne.symm hne)]; exact h2) h3 (fun l h => by simp at h) (I.own g _ q2) (Same.refl _ _) (I.lt g _ q2) (fun p u h => by rw [q3] at h; cases h) (fun p u h => by cases h) ?_
    refine ⟨some ⟨g, 0, none⟩, cap, [], rfl, ⟨by simp, .inr ⟨g, cap, cur, rfl, Nat.zero_le _, q4, Nat.zero_le _, q6, q7, by simp⟩⟩, fun g' hg' => ?_, fun i r h => by simp at h, fun i r j d h => by simp at h⟩
    injection hg' with hg'
    subst hg'
    exact ⟨newO_same _ _ _, fun p => newM_same _ _ _ _⟩⟩
  unfold execOp
  rw [hop]
  simp only [Sem.run_bind]
  rw [e2, hev]
  show Result.andThen (Sem.run P (Instr.sliceAt t _ none _ none) w) _ = _
  unfold Instr.sliceAt
  simp only [Sem.run_bind, run_underlying hu, Result.andThen_ok]
  unfold Instr.slice
  simp only [Sem.run_bind, run_underlying hu, Result.andThen_ok]
  rw [hb]
  by_cases hc : cap = 0
  · simp [sizeOf, typeInfo, hie, hc]
  · simp [sizeOf, typeInfo, hie, hc, Addr.add_mid]
end
end Go.Proofs.Ytjomnccladjpgaa

/-
  The model of slices.Clone over sectors.
-/
namespace Go.Proofs.Ytjomnccladjpgaa
open Go Go.RowKit
set_option linter.unusedVariables false
def m_slices_Clone_sector {α : Type} (p0 : List α) : Option (List α) := appI 64 [] p0
end Go.Proofs.Ytjomnccladjpgaa
