/-
  Texts joined: see the remark at the head of each part.
-/
import Derived.Test.YtikaahmonocahaaQ08
import Derived.Test.YtikaahmonocahaaQ11
import Derived.Test.YtikaahmonocahaaQ10
import Derived.Laws.MakeOwn
import Derived.Laws.CopyRow
import Derived.Laws.Pointers
/-
  From contracts that name memory to contracts over data.
-/
namespace Go.Proofs.Ytikaahmonocahaa
open Go Go.RowKit
set_option linter.unusedVariables false

/-- What is known, and the new blocks as they stand. -/
def newAll (m : Mem) (w w' : World) : Mem := fun b p => if b < w.heap.size then m b p else w'.cell? ⟨b, p, none⟩
theorem inv_of_below {w w' : World} {m : Mem} {o : OwnM} {pins : List Nat} (hsat : ∀ b p u, m b p = some u → w.cell? ⟨b, p, none⟩ = some u) (htbl : Mle TBL m) (hlt : ∀ g l, o g = some l → g < w.heap.size ∧ l.1 < OB) (hinj : ∀ g g' l, o g = some l → o g' = some l → g = g') (hb : Below w.heap.size w w') :
    Inv w m o (fun g => o g ≠ none) pins (fun _ => .any) { tmps := #[], defers := [] } w' (newAll m w w') o := by
  have hlow : ∀ b p u, m b p = some u → b < w.heap.size := fun b p u h => by
    have := World.block_lt_of_cell? w _ (hsat b p u h)
    simpa using this
  refine ⟨Same.of_below hb, fun b p u h => ?_, fun b p u h => ?_, fun b hb' _ => ?_, fun g l h => .inl (by rw [h]; simp), fun g l h => Nat.lt_of_lt_of_le (hlt g l h).1 hb.size, hinj, fun s _ g hg => hg, fun s => trivial, rfl, htbl, Nat.zero_le _, fun g j h => absurd (hlt g _ h).2 (by show ¬ OB + j < OB; omega)⟩
  · unfold newAll at h
    split at h
    · rename_i hlt
      rw [hb.cell (p := ⟨b, p, none⟩) hlt]
      exact hsat b p u h
    · exact h
  · unfold newAll
    rw [if_pos (hlow b p u h)]
    exact h
  · funext p
    unfold newAll
    rw [if_pos hb']

theorem seq_of_new {w w' : World} {m : Mem} {A' : Option Addr} {bs : List UInt8} {c : Nat} (h : New w w' A' bs) (hc : bs.length ≤ c ∧ c ≤ maxLen) : RepD (newAll m w w') (.seq 1 (bytesD bs)) (.slice A' bs.length c) := by
  have hl : (bytesD bs).length = bs.length := bytesD_length bs
  have key : ∀ A0 : Option Addr, (bytesD bs ≠ [] → ∃ g p, A0 = some ⟨g, p, none⟩ ∧ w.heap.size ≤ g ∧ ∀ i (hi : i < bs.length), w'.cell? ⟨g, p + i, none⟩ = some (.int .u8 (bs[i].toNat : Int))) → RepD (newAll m w w') (.seq 1 (bytesD bs)) (.slice A0 (bytesD bs).length c) := by
    intro A0 hA0
    by_cases he : bytesD bs = []
    · rw [he]
      exact .seq 1 [] A0 c 0 0 (fun _ _ => undef) (by simp) hc.2 (fun h => absurd rfl h) (fun i r h => by simp at h) (fun i r j d h => by simp at h) (fun i r j d h => by simp at h)
    · obtain ⟨g, p, e, hg, hcell⟩ := hA0 he
      have hb : ∀ (i : Nat) (r : List D), (bytesD bs)[i]? = some r → ∃ hi : i < bs.length, r = [D.lit (.int .u8 (bs[i].toNat : Int))] := by
        intro i r hi
        have hlt : i < bs.length := by rw [← hl]; exact (List.getElem?_eq_some_iff.1 hi).1
        refine ⟨hlt, ?_⟩
        unfold bytesD at hi
        rw [List.getElem?_map, List.getElem?_eq_getElem hlt] at hi
        injection hi with hi
        exact hi.symm
      refine .seq 1 _ A0 c g p (fun i _ => if h : i < bs.length then .int .u8 (bs[i].toNat : Int) else undef) (by rw [hl]; exact hc.1) hc.2 (fun _ => e) (fun i r hi => ?_) (fun i r j d hi hj => ?_) (fun i r j d hi hj => ?_)
      · obtain ⟨_, rfl⟩ := hb i r hi
        rfl
      · obtain ⟨hlt, rfl⟩ := hb i r hi
        cases j with
        | succ j => simp at hj
        | zero =>
          unfold newAll
          rw [if_neg (by omega), Nat.mul_one, Nat.add_zero, hcell i hlt]
          simp [hlt]
      · obtain ⟨hlt, rfl⟩ := hb i r hi
        cases j with
        | succ j => simp at hj
        | zero =>
          injection hj with hj
          subst hj
          simp only [hlt, dif_pos]
          exact .lit _ rfl
  rw [← hl]
  refine key A' fun hne => ?_
  have hpos : 0 < bs.length := by rw [← hl]; exact List.length_pos_iff.2 hne
  obtain ⟨ad, e, hc0⟩ := h.1.at_ (j := 0) hpos
  have hs : ad.spot = none := by
    have := World.cell?_spot hc0
    simpa [Addr.add] using this
  obtain ⟨g, p, sp⟩ := ad
  simp only at hs
  subst hs
  refine ⟨g, p, e, h.2 _ e, fun i hi => ?_⟩
  obtain ⟨ad', e', hci⟩ := h.1.at_ (j := i) hi
  rw [e] at e'
  injection e' with e'
  subst e'
  rwa [Addr.add_mid] at hci

theorem fc_bytes_err {f : FuncId} {args : List A} {bs : List UInt8} {er : Int} (h : ∀ (w : World) (m : Mem) (o : OwnM) (vals : Array Value), vals.size = args.length → (∀ s, RepA m w o (argS args) s (argS args s) (vals.getD s undef)) → Calls Try.prog f vals w (GivesBE bs er w)) : FC Try.prog f args [] (.tup [.d (.seq 1 (bytesD bs)), .d (.lit (.int .i64 er))]) := by
  intro w m o vals hsat htbl hlt hinj hsz hrep
  refine (h w m o vals hsz hrep).mono ?_
  rintro e w' ⟨A', c, rfl, hnew, hc, hb⟩
  refine ⟨_, newAll m w w', o, _, _, 0, rfl, inv_of_below hsat htbl hlt hinj hb, ⟨_, rfl, rfl, fun j x hj => ?_⟩, fun i l h => by cases h⟩
  match j, hj with
  | 0, hj => injection hj with hj; subst hj; exact ⟨_, rfl, seq_of_new hnew hc⟩
  | 1, hj => injection hj with hj; subst hj; exact ⟨_, rfl, .lit _ rfl⟩
  | j + 2, hj => simp at hj
theorem fc_lit {f : FuncId} {args : List A} {u : Value} (hu : u.oneCell' = true) (h : ∀ (w : World) (m : Mem) (o : OwnM) (vals : Array Value), vals.size = args.length → (∀ s, RepA m w o (argS args) s (argS args s) (vals.getD s undef)) → Calls Try.prog f vals w fun e w' => e = .returned u ∧ Below w.heap.size w w') : FC Try.prog f args [] (.t (.d (.lit u))) := by
  intro w m o vals hsat htbl hlt hinj hsz hrep
  refine (h w m o vals hsz hrep).mono ?_
  rintro e w' ⟨rfl, hb⟩
  exact ⟨_, newAll m w w', o, _, _, 0, rfl, inv_of_below hsat htbl hlt hinj hb, .lit u hu, fun i l h => by cases h⟩
theorem vals2 {x y : Value} {vals : Array Value} (hs : vals.size = 2) (h0 : vals.getD 0 undef = x) (h1 : vals.getD 1 undef = y) : vals = #[x, y] := by
  obtain ⟨l⟩ := vals
  match l, hs with
  | [p, q], _ => simp at h0 h1; rw [h0, h1]
theorem int_of {m : Mem} {w : World} {o : OwnM} {S : Nat → A} {s : Nat} {n : Int} {v : Value} (h : RepA m w o S s (intA n) v) : v = .int .i64 n := by
  have h : RepD m (.lit (.int .i64 n)) v := h
  cases h
  rfl
end Go.Proofs.Ytikaahmonocahaa

/-
  What the library's functions do: a copy of a slice; the program's numbers as bytes.
-/
namespace Go.Proofs.Ytikaahmonocahaa
open Go Go.RowKit
set_option linter.unusedVariables false
set_option maxHeartbeats 4000000
set_option maxRecDepth 20000
theorem fc_slices_Clone_byte (p0 : List UInt8) (r : List UInt8) (h : m_slices_Clone_byte p0 = some r) : FC Try.prog 82 [.t (.d (.seq 1 (bytesD p0)))] [] (.t (.d (.seq 1 (bytesD r)))) := by
  refine fc_mk (rs := [.tmp 2]) (n := 8) Try.func82 rfl rfl (Nat.le_of_ble_eq_true rfl) rfl (pins := []) rfl (L := [(0, .t (.d (.seq 1 (bytesD p0))))]) rfl ?_
  have hr : r = p0 := by
    have := (appI_iff h).2
    simpa using this
  refine c_seq ?_
  refine c_region ?_
  refine o_s (.t (.d (.lit (.slice none 0 0)))) (g0 rfl) rfl rfl rfl ?_
  refine o_nil ?_
  refine then_normal ?_
  refine c_seq ?_
  refine c_seq ?_
  refine c_nil (l1 := [_]) (k := 1) (l := bytesD p0) rfl rfl rfl rfl ?_
  refine o_s (.t (.d (.seq 1 (bytesD p0)))) (g0 rfl) rfl rfl rfl ?_
  refine o_nil ⟨rfl, rfl, fun b hb => ?_⟩
  refine then_normal ?_
  refine c_cond rfl (fun hc => ?_) (fun hc => ?_)
  · have hb := hb hc
    have hp : p0 = [] := by unfold bytesD at hb; simpa using hb
    refine c_seq ?_
    refine c_region ?_
    refine o_s (.t (.d (.lit (.slice none 0 0)))) (g0 rfl) rfl rfl rfl ?_
    refine o_nil ?_
    refine then_normal ?_
    refine c_ret ?_
    repeat (refine then_ret ?_)
    subst hr hp
    exact end0 rfl (.t (.d (.nil _)))
  · refine c_skip ?_
    refine then_normal ?_
    refine c_seq ?_
    refine c_region ?_
    refine o_b0 (.t (.own 5 1 (List.map cU8 []))) (g0 rfl) rfl rfl rfl rfl rfl ?_
    refine o_s (.t (.d (.seq 1 (bytesD p0)))) (g0 rfl) rfl rfl rfl ?_
    refine o_2c (g0 rfl) rfl rfl rfl (appE (c := cU8) h) (appC (c := cU8) h) ?_
    refine o_2 (.t (.d (.seq 1 (bytesD r)))) (.t (.own 5 1 (bytesD r))) (g0 rfl) rfl rfl rfl ?_
    refine o_nil ?_
    refine then_normal ?_
    refine c_ret ?_
    exact end0 rfl (.t (.own _ _ _))
theorem fc_word_Put (p0 p1 : Int) (r : List UInt8 × Int) (h : m_word_Put p0 p1 = some r) : FC Try.prog 61 [.t (.d (.lit (.int .i64 p0))), .t (.d (.lit (.int .i64 p1)))] [] (.tup [.d (.seq 1 (bytesD r.1)), .d (.lit (.int .i64 r.2))]) := by
  unfold m_word_Put at h
  split at h
  case isFalse => cases h
  rename_i hc
  injection h with h
  subst h
  obtain ⟨h1, h2, h3, h4, h5⟩ := hc
  obtain ⟨n, rfl⟩ := Int.eq_ofNat_of_zero_le h1
  obtain ⟨k, rfl⟩ := Int.eq_ofNat_of_zero_le (show 0 ≤ p1 by omega)
  refine fc_bytes_err fun w m o vals hs hrep => ?_
  rw [vals2 hs (int_of (hrep 0)) (int_of (hrep 1))]
  simp only [Int.toNat_natCast] at h5 ⊢
  exact put_any n k w (by omega) (by omega) (by omega) ((lt_wid k n).1 h5)
end Go.Proofs.Ytikaahmonocahaa

/-
  Slices that may grow: out of a call's results; made.
-/
namespace Go.Proofs.Ytikaahmonocahaa
open Go Go.RowKit
set_option linter.unusedVariables false
section
variable {w0 : World} {m0 : Mem} {o0 : OwnM} {G : Nat → Prop} {pins : List Nat} {S M : Nat → A} {a : Act} {w : World} {m : Mem} {o : OwnM} {P : Program} {N : Nat}
/-- A part of a call's results is told as data; what it held is owned by nobody. -/
theorem Inv.dropPart (I : Inv w0 m0 o0 G pins S a w m o) {s i E k : Nat} {l : List T} {ls : List (List D)} (hb : S s = .tup l) (hl : l[i]? = some (.own E k ls)) :
    ∃ o', Inv w0 m0 o0 G pins (upd S s (.tup (l.set i (.d (.seq k ls))))) a w m o' ∧ (∀ g x, o' g = some x → x ≠ (s, i + 1) ∧ o g = some x) := by
  have hk : ∀ g x, (fun g => if o g = some (s, i + 1) then none else o g) g = some x → x ≠ (s, i + 1) ∧ o g = some x := by
    intro g x h
    simp only at h
    split at h
    · cases h
    · rename_i hn
      exact ⟨fun e => hn (by rw [h, e]), h⟩
  have K : Keep (fun x => x = (s, i + 1)) m w o m w (fun g => if o g = some (s, i + 1) then none else o g) :=
    ⟨Mle.refl _, fun _ _ _ _ => rfl, fun _ _ _ _ => rfl, fun g x h hn => by
      show (if o g = some (s, i + 1) then none else o g) = _
      rw [h, if_neg (by simpa using hn)], fun g j h => by
      show (if o g = some (s, i + 1) then none else o g) = _
      rw [h, if_neg (by intro e; injection e with e; injection e with _ e; omega)], fun g s k _ h => ⟨g, k, (hk g _ h).2⟩, fun g _ _ => .of_eq rfl⟩
  refine ⟨_, ⟨I.same, I.sat, I.mono, I.old, fun g x h => I.own g x (hk g x h).2, fun g x h => I.lt g x (hk g x h).2, fun g g' x h h' => I.inj g g' x (hk g x h).2 (hk g' x h').2, fun p hp g hg => ?_, fun t => ?_, I.defers, I.tbl, I.wide, I.shps⟩, hk⟩
  · exact K.own g _ (I.pinned p hp g hg) (fun e => by injection e with _ e; omega)
  · have h := I.slots t
    by_cases e : t = s
    · subst e
      rw [hb] at h
      rw [upd_same]
      obtain ⟨vs, e1, h1, h2⟩ := h
      refine ⟨vs, e1, by simpa using h1, fun j x hj => ?_⟩
      rw [List.getElem?_set] at hj
      split at hj
      · rename_i e
        subst e
        split at hj
        · injection hj with hj
          subst hj
          obtain ⟨u, h6, h7⟩ := h2 i _ hl
          exact ⟨u, h6, own_seq I.sat h7⟩
        · cases hj
      · rename_i e
        obtain ⟨u, h7, h8⟩ := h2 j x hj
        exact ⟨u, h7, h8.keep K (fun e2 => by injection e2 with _ e2; omega)⟩
    · rw [upd_other e]
      refine RepA.keep K (fun j e2 => by injection e2 with e2 _; exact e e2) (fun b' off' he _ => ⟨fun e2 => by injection e2 with _ e2; omega, fun ⟨l', hl'⟩ => ?_⟩) h
      have : b' ≠ s := fun e3 => by subst e3; rw [hb] at hl'; cases hl'
      exact ⟨l', by rw [upd_other this, hl']⟩
/-- What may grow goes from a part of a call's results to a slot. -/
theorem ok_xt {op : Oper} {s i d E k : Nat} {l : List T} {ls : List (List D)} (hop : op.op = .extract (.tmp s) i) (hb : S s = .tup l) (hl : l[i]? = some (.own E k ls)) (hne : (s == d) = false) (hd : op.dst = some d) (hok : okD N pins S d = true) :
    OpOK P pins N op S (app S [(s, .tup (l.set i (.d (.seq k ls)))), (d, .t (.own E k ls))]) := by
  refine ok_of_run fun w0 m0 o0 G a w m o hN I => ?_
  obtain ⟨h1, h2, h3⟩ := okD_iff hok
  have hne : s ≠ d := by simpa using hne
  have hs := I.slots s
  rw [hb] at hs
  obtain ⟨vs, e, k1, k2⟩ := hs
  obtain ⟨u, k3, hown⟩ := k2 i _ hl
  have hown : OwnAt m w o (s, i + 1) E k ls u := hown
  obtain ⟨o1, I2, ho1⟩ := I.dropPart hb hl
  have hbox2 : (upd S s (.tup (l.set i (.d (.seq k ls)))) d).isBox = false := by rw [upd_other (Ne.symm hne)]; exact h2
  suffices h : ∃ m' o', Inv w0 m0 o0 G pins (app S [(s, .tup (l.set i (.d (.seq k ls)))), (d, .t (.own E k ls))]) (a.put (some d) u) w m' o' by
    obtain ⟨m', o', h⟩ := h
    refine ⟨u, w, m', o', ?_, by rw [hd]; exact h⟩
    unfold execOp
    rw [hop]
    simp only [Sem.run_bind]
    rw [show a.eval (.tmp s) = _ from e]
    simp [Instr.extract, k3]
  obtain ⟨A', cap, xs, e, h1', h2', h3', h4'⟩ := hown
  rw [e]
  show ∃ m' o', Inv w0 m0 o0 G pins (upd (upd S s (.tup (l.set i (.d (.seq k ls))))) d (.t (.own E k ls))) _ w m' o'
  rcases blk_addr (w := w) (e := E) (sz := k) (n := ls.length) (c := cap) (xs := xs) (by rw [e] at h1'; exact h1') with rfl | ⟨g, rfl⟩
  · refine ⟨m, o1, I2.set d _ _ (by omega) hbox2 ⟨none, cap, xs, rfl, by rw [e] at h1'; exact h1', fun g hg => (by cases hg), h3', h4'⟩⟩
  · obtain ⟨hg, hm⟩ := h2' g rfl
    have hlt := I.lt g _ hg
    refine ⟨_, _, I2.own_put d _ _ (fun p => m g p) g w (by omega) hbox2 h3 (fun x hx => ?_) (I.own g _ hg) (Same.refl _ _) hlt (fun p u h => h) (fun p u h => I.sat g p u h) ?_⟩
    · obtain ⟨q1, q2⟩ := ho1 g x hx
      rw [hg] at q2
      injection q2 with q2
      exact absurd q2.symm q1
    · have hme : newM m g (fun p => m g p) = m := by
        funext b p
        unfold newM
        split
        · rename_i e; rw [e]
        · rfl
      rw [hme]
      exact ⟨some ⟨g, 0, none⟩, cap, xs, rfl, by rw [e] at h1'; exact h1', fun g' hg' => by injection hg' with hg'; subst hg'; exact ⟨newO_same _ _ _, hm⟩, h3', h4'⟩
/-- Is there room for n elements of so many bytes? -/
def mkI (nb : Nat) (n : Int) : Option Nat := if 0 ≤ n ∧ (nb : Int) * n ≤ 281474976710656 ∧ n ≤ 140737488351232 then some n.toNat else none
theorem mkI_iff {nb q : Nat} {n : Int} (h : mkI nb n = some q) : 0 ≤ n ∧ (nb : Int) * n ≤ 281474976710656 ∧ n ≤ 140737488351232 ∧ q = n.toNat := by
  unfold mkI at h
  split at h
  · rename_i hc; injection h with h; exact ⟨hc.1, hc.2.1, hc.2.2, h.symm⟩
  · cases h
/-- A made slice, of elements of one cell, that may grow. -/
theorem ok_mko (hM : Mk M S) {op : Oper} {d t e sz nb q : Nat} {xn xc : Operand} {kl kc : IntKind} {n : Int} {ie : TypeInfo} {z : Value} (hop : op.op = .makeSlice t xn xc) (hn : vO M xn = some (.int kl n)) (hc : vO M xc = some (.int kc n)) (hE : elF P t = some (e, 1, nb)) (hie : P.info? e = some ie) (hz : ie.zero = some z) (hz1 : z.cells = #[z]) (hz2 : z.oneCell' = true)
    (hq : mkI nb n = some q) (hd : op.dst = some d) (hok : okD N pins S d = true) :
    OpOK P pins N op S (upd S d (.t (.own e 1 (List.replicate q [.lit z])))) := by
  obtain ⟨q1, q2, q3, rfl⟩ := mkI_iff hq
  refine ok_of_run fun w0 m0 o0 G a w m o hN I => ?_
  obtain ⟨h1, h2, h3⟩ := okD_iff hok
  have E := elF_of hE
  obtain ⟨i, z', hi, hz', hs1, hnb, hzs⟩ := E.info
  rw [hie] at hi
  injection hi with hi
  subst hi
  rw [hz] at hz'
  injection hz' with hz'
  subst hz'
  subst hnb
  have hrun := run_make (P := P) (w := w) t e ie z E.under hie hz kl kc n n q1 (Int.le_refl _) q2 (by omega)
  rw [hs1, Nat.mul_one, hz1] at hrun
  have hmc : madeCells #[z] n.toNat = (List.replicate n.toNat z).toArray := by
    apply Array.ext_getElem?
    intro i
    unfold madeCells
    rw [Array.getElem?_map, Array.getElem?_range]
    by_cases h : i < n.toNat
    · rw [if_pos h]; simp [h, Nat.mod_one]
    · rw [if_neg h]; simp [h]
  rw [hmc] at hrun
  have hown : Own (w.alloc (.cells (List.replicate n.toNat z).toArray e)) 0 e 1 (some ⟨w.heap.size, 0, none⟩) n.toNat n.toNat (List.replicate n.toNat z) := by
    have := Own.lit (B := 0) w (List.replicate n.toNat z).toArray e 1 n.toNat (Nat.zero_le _) (by unfold maxLen; omega) (by simp)
    simpa using this
  have hw : ∀ (i : Nat) (r : List D), (List.replicate n.toNat [D.lit z])[i]? = some r → r.length = 1 := by
    intro i r hi
    rw [List.getElem?_replicate] at hi
    split at hi
    · injection hi with hi; subst hi; rfl
    · cases hi
  have hr : ∀ (m' : Mem) (i : Nat) (r : List D) (j : Nat) (x : D), (List.replicate n.toNat [D.lit z])[i]? = some r → r[j]? = some x → ∃ u, (List.replicate n.toNat z)[i * 1 + j]? = some u ∧ RepD m' x u := by
    intro m' i r j x hi hj
    rw [List.getElem?_replicate] at hi
    split at hi
    · rename_i hlt
      injection hi with hi
      subst hi
      cases j with
      | zero => injection hj with hj; subst hj; exact ⟨z, by rw [List.getElem?_replicate]; simp [hlt], .lit z hz2⟩
      | succ j => simp at hj
    · cases hi
  have J := I.own_put d (.t (.own e 1 (List.replicate n.toNat [.lit z]))) (.slice (some ⟨w.heap.size, 0, none⟩) n.toNat n.toNat) (fun p => (List.replicate n.toNat z)[p]?) w.heap.size (w.alloc (.cells (List.replicate n.toNat z).toArray e)) (by omega) h2 h3 (I.free (Nat.le_refl _)) (I.newG (Nat.le_refl _)) ((Same.alloc (fun _ => False) w _).weaken (fun _ h => h.elim)) (by simp) (fun p u h => by rw [I.mem_none (Nat.le_refl _)] at h; cases h) (fun p u hp => Own.cellAt hown rfl hp)
    ⟨some ⟨w.heap.size, 0, none⟩, n.toNat, List.replicate n.toNat z, by rw [List.length_replicate], by rw [List.length_replicate]; exact hown, (fun g hg => by injection hg with hg; subst hg; exact ⟨newO_same _ _ _, fun p => newM_same _ _ _ _⟩), hw, hr _⟩
  refine ⟨_, _, _, _, ?_, by rw [hd]; exact J⟩
  unfold execOp
  rw [hop]
  simp only [Sem.run_bind]
  rw [vO_eq hM I hn, vO_eq hM I hc, hrun]
  rfl
end
end Go.Proofs.Ytikaahmonocahaa

/-
  The heap's objects: addresses in them, slices of them; read, written, made.
-/
namespace Go.Proofs.Ytikaahmonocahaa
open Go Go.RowKit
set_option linter.unusedVariables false

/-! ### The heap's objects among the slots -/
section
variable {S : Nat → A} {f f' : Nat → A} {c : Nat} {x : A}
theorem ob2_eq (c : Nat) : OB2 + c = OB + (OB + c) := by unfold OB OB2; omega
theorem hx_hp (hl : Low S) (hk : S HK = .hp f) (c : Nat) : hx S (OB + (OB + c)) = san (f c) := by
  rw [← ob2_eq]
  unfold hx
  rw [hl (OB2 + c) (Nat.le_add_right _ _)]
  simp only
  rw [if_pos (Nat.le_add_right _ _), hk, Nat.add_sub_cancel_left]
theorem hk_lt : HK < OB2 := by decide
theorem hk_ge : OB ≤ HK := by decide
def updF (f : Nat → A) (c : Nat) (x : A) : Nat → A := fun k => if k = c then x else f k
theorem hx_set (hl : Low S) (hk : S HK = .hp f) (hs : san x = x) : hx (upd S HK (.hp (updF f c x))) = upd (upd (hx S) (OB + (OB + c)) x) HK (.hp (updF f c x)) := by
  funext t
  by_cases e : t = HK
  · subst e
    rw [upd_same]
    exact hx_of (upd_same _ _ _) (by simp)
  · rw [upd_other e]
    rcases Nat.lt_or_ge t OB2 with h | h
    · rw [hx_lo h, upd_other e, upd_other (by unfold OB; unfold OB2 at h; omega), hx_lo h]
    · obtain ⟨k, rfl⟩ : ∃ k, t = OB2 + k := ⟨t - OB2, by omega⟩
      have hl' : Low (upd S HK (.hp (updF f c x))) := hl.upd hk_lt
      rw [ob2_eq, hx_hp hl' (upd_same _ _ _)]
      unfold updF
      by_cases e2 : k = c
      · subst e2
        rw [if_pos rfl, upd_same, hs]
      · rw [if_neg e2, upd_other (by omega), hx_hp hl hk]
end

section
variable {w0 : World} {m0 : Mem} {o0 : OwnM} {G : Nat → Prop} {pins : List Nat} {S M : Nat → A} {a : Act} {w : World} {m : Mem} {o : OwnM} {P : Program} {N : Nat} {f : Nat → A}
/-- What place HK tells may turn. -/
theorem Inv.hk (I : Inv w0 m0 o0 G pins S a w m o) (hk : S HK = .hp f) (f' : Nat → A) : Inv w0 m0 o0 G pins (upd S HK (.hp f')) a w m o := by
  refine ⟨I.same, I.sat, I.mono, I.old, I.own, I.lt, I.inj, I.pinned, fun s => ?_, I.defers, I.tbl, I.wide, I.shps⟩
  by_cases e : s = HK
  · subst e
    rw [upd_same]
    trivial
  · rw [upd_other e]
    refine (I.slots s).turn fun b l hb => ⟨l, ?_⟩
    rw [upd_other (fun e => by rw [e, hk] at hb; cases hb), hb]

/-! ### Addresses -/
theorem run_field {t : TypeId} {fs : Array Field} {k : Nat} {fd : Field} {i : TypeInfo} (hu : P.underlying t = some (.struct fs)) (hf : fs[k]? = some fd) (hi : P.info? fd.type = some i) (hsz : i.size ≠ 0) (g p : Nat) : (Instr.fieldAt t (.pointer (some ⟨g, p, none⟩)) k).run P w = .ok (.pointer (some ⟨g, p + fd.offset, none⟩)) w := by
  simp [Instr.fieldAt, run_underlying hu, hf, Instr.sureAddr, fieldPlace, sizeOf, typeInfo, hi, hsz, Addr.add_mid]
def fdH (P : Program) (t : TypeId) (k : Nat) : Option Nat := match P.underlying t with
  | some (.struct fs) => match fs[k]? with
    | some fd => match P.info? fd.type with
      | some i => if i.size = 0 then none else some fd.offset
      | none => none
    | none => none
  | _ => none
/-- A field's address. -/
theorem ok_hfd (hM : Mk M S) {op : Oper} {d c off t k q : Nat} {x : Operand} (hop : op.op = .fieldAddr t x k) (hx : cpO M x = .t (.hpt c off)) (hq : fdH P t k = some q) (hd : op.dst = some d) (hok : okD N pins S d = true) : OpOK P pins N op S (upd S d (.t (.hpt c (off + q)))) := by
  refine ok_of_run fun w0 m0 o0 G a w m o hN I => ?_
  obtain ⟨h1, h2, h3⟩ := okD_iff hok
  have hxr := cpO_rep hM I x 0
  rw [hx] at hxr
  obtain ⟨g, k1, k2⟩ := hxr
  unfold fdH at hq
  split at hq
  case h_2 => cases hq
  rename_i fs hu
  split at hq
  case h_2 => cases hq
  rename_i fd hf
  split at hq
  case h_2 => cases hq
  rename_i i hi
  split at hq
  · cases hq
  rename_i hsz
  injection hq with hq
  subst hq
  refine ⟨.pointer (some ⟨g, off + fd.offset, none⟩), w, m, o, ?_, by rw [hd]; exact I.set d _ _ (by omega) h2 ⟨g, k1, rfl⟩⟩
  unfold execOp
  rw [hop]
  simp only [Sem.run_bind]
  rw [k2, run_field hu hf hi hsz]
  rfl
def ixH (P : Program) (t : TypeId) : Option (Option Nat × Nat) := match P.underlying t with
  | some (.slice e) => (P.info? e).map fun i => (none, i.size)
  | some (.array len e) => (P.info? e).map fun i => (some len, i.size)
  | _ => none
/-- An element's address: of a slice. -/
theorem ok_hix (hM : Mk M S) {op : Oper} {d c off E k n t : Nat} {x i : Operand} {ki : IntKind} {z : Int} (hop : op.op = .indexAddr t x i) (hx : cpO M x = .t (.hvw c off E k n)) (hi : vO M i = some (.int ki z)) (hq : ixH P t = some (none, k)) (hz : 0 ≤ z ∧ z < n) (hd : op.dst = some d) (hok : okD N pins S d = true) : OpOK P pins N op S (upd S d (.t (.hpt c (off + z.toNat * k)))) := by
  refine ok_of_run fun w0 m0 o0 G a w m o hN I => ?_
  obtain ⟨h1, h2, h3⟩ := okD_iff hok
  have hxr := cpO_rep hM I x 0
  rw [hx] at hxr
  obtain ⟨A', q, k1, _, k3, k4⟩ := hxr
  unfold ixH at hq
  split at hq
  · rename_i e hu
    cases hie : P.info? e with
    | none => rw [hie] at hq; cases hq
    | some ie =>
      rw [hie] at hq
      injection hq with hq
      injection hq with _ hq
      subst hq
      rcases k4 with k4 | ⟨g, cs, k5, k6, _⟩
      · omega
      · subst k6
        refine ⟨.pointer (some ⟨g, off + z.toNat * ie.size, none⟩), w, m, o, ?_, by rw [hd]; exact I.set d _ _ (by omega) h2 ⟨g, k5, rfl⟩⟩
        unfold execOp
        rw [hop]
        simp only [Sem.run_bind]
        rw [vO_eq hM I hi, k3]
        simp [Instr.indexAt, asIntOf, run_underlying hu, hz, sizeOf, typeInfo, hie, Addr.add_mid]
  · rename_i len e hu
    cases hie : P.info? e <;> rw [hie] at hq <;> cases hq
  · cases hq
/-- An element's address: of an array. -/
theorem ok_hia (hM : Mk M S) {op : Oper} {d c off k len t : Nat} {x i : Operand} {ki : IntKind} {z : Int} (hop : op.op = .indexAddr t x i) (hx : cpO M x = .t (.hpt c off)) (hi : vO M i = some (.int ki z)) (hq : ixH P t = some (some len, k)) (hz : 0 ≤ z ∧ z < len) (hd : op.dst = some d) (hok : okD N pins S d = true) : OpOK P pins N op S (upd S d (.t (.hpt c (off + z.toNat * k)))) := by
  refine ok_of_run fun w0 m0 o0 G a w m o hN I => ?_
  obtain ⟨h1, h2, h3⟩ := okD_iff hok
  have hxr := cpO_rep hM I x 0
  rw [hx] at hxr
  obtain ⟨g, k1, k2⟩ := hxr
  unfold ixH at hq
  split at hq
  · rename_i e hu
    cases hie : P.info? e <;> rw [hie] at hq <;> cases hq
  · rename_i len' e hu
    cases hie : P.info? e with
    | none => rw [hie] at hq; cases hq
    | some ie =>
      rw [hie] at hq
      injection hq with hq
      injection hq with hq1 hq
      injection hq1 with hq1
      subst hq hq1
      refine ⟨.pointer (some ⟨g, off + z.toNat * ie.size, none⟩), w, m, o, ?_, by rw [hd]; exact I.set d _ _ (by omega) h2 ⟨g, k1, rfl⟩⟩
      unfold execOp
      rw [hop]
      simp only [Sem.run_bind]
      rw [vO_eq hM I hi, k2]
      simp [Instr.indexAt, asIntOf, Instr.sureAddr, run_underlying hu, hz, sizeOf, typeInfo, hie, Addr.add_mid]
  · cases hq
/-- How long a slice is. -/
theorem ok_hln (hM : Mk M S) {op : Oper} {d c off E k n t e : Nat} {x : Operand} (hop : op.op = .call { callee := .builtin .len, args := #[x], argTypes := #[t] }) (hx : cpO M x = .t (.hvw c off E k n)) (hu : P.underlying t = some (.slice e)) (hd : op.dst = some d) (hok : okD N pins S d = true) :
    OpOK P pins N op S (upd S d (.t (.d (.lit (.int .i64 n))))) := by
  refine ok_of_run fun w0 m0 o0 G a w m o hN I => ?_
  obtain ⟨h1, h2, h3⟩ := okD_iff hok
  have hxr := cpO_rep hM I x 0
  rw [hx] at hxr
  obtain ⟨A', q, _, _, k3, _⟩ := hxr
  refine ⟨.int .i64 n, w, m, o, ?_, by rw [hd]; exact I.set d _ _ (by omega) h2 (.lit _ rfl)⟩
  unfold execOp
  rw [hop]
  simp only [resolve, invoke, builtin, Sem.run_bind, Sem.run_pure, Result.andThen_ok, List.map_toArray, List.map_cons, List.map_nil]
  rw [k3]
  simp [Builtin.len_, run_underlying hu, goInt]
/-- Is an address nil? -/
def ptrN : A → Option Bool
  | .t (.hpt _ _) => some false
  | .t (.ptr _ _) => some false
  | .ref _ _ => some false
  | .imm _ => some false
  | .t (.d (.lit (.pointer none))) => some true
  | _ => none
theorem ptrN_rep {s : Nat} {x : A} {v : Value} {b : Bool} (h : ptrN x = some b) (hr : RepA m w o S s x v) : ∃ p, v = .pointer p ∧ p.isNone = b := by
  unfold ptrN at h
  split at h
  · obtain ⟨g, _, e⟩ := hr; injection h with h; subst h; exact ⟨_, e, rfl⟩
  · obtain ⟨g, _, e⟩ := hr; injection h with h; subst h; exact ⟨_, e, rfl⟩
  · obtain ⟨g, _, e, _⟩ := hr; injection h with h; subst h; exact ⟨_, e, rfl⟩
  · obtain ⟨g, p, e, _⟩ := hr; injection h with h; subst h; exact ⟨_, e, rfl⟩
  · injection h with h
    subst h
    have hr : RepD m (.lit (.pointer none)) v := hr
    cases hr
    exact ⟨none, rfl, rfl⟩
  · cases h
theorem ok_hpn (hM : Mk M S) {op : Oper} {bop : BinOp} {d t yt e : Nat} {x : Operand} {b ng : Bool} (hop : op.op = .binOp bop t x (.const (.pointer none)) yt) (hb : bop = bif ng then .neq else .eql) (ht : P.underlying t = some (.pointer e)) (hx : ptrN (cpO M x) = some b) (hd : op.dst = some d) (hok : okD N pins S d = true) : OpOK P pins N op S (upd S d (.t (.d (.lit (.bool (b != ng)))))) := by
  refine ok_of_run fun w0 m0 o0 G a w m o hN I => ?_
  obtain ⟨h1, h2, h3⟩ := okD_iff hok
  obtain ⟨p, hv, rfl⟩ := ptrN_rep hx (cpO_rep hM I x 0)
  refine ⟨.bool (p.isNone != ng), w, m, o, ?_, by rw [hd]; exact I.set d _ _ (by omega) h2 (.lit _ rfl)⟩
  subst hb
  unfold execOp
  rw [hop]
  show Sem.run P (do pure (Next.value (← (do eqGuard _ t x _ (a.eval x) (.pointer none); binOp _ t (a.eval x) (.pointer none))))) w = _
  rw [hv, Sem.run_bind]
  have hg : ∀ bop : BinOp, (eqGuard bop t x (.const (.pointer none)) (.pointer p) (.pointer none)).run P w = .ok () w := by
    intro bop
    unfold eqGuard
    cases bop <;> rfl
  have hpt : P.underlying t = some (.pointer (P.pointee t)) := by unfold Program.pointee; rw [ht]
  cases ng with
  | false =>
    show Result.andThen (Sem.run P (do eqGuard .eql t x _ (.pointer p) (.pointer none); binOp .eql t (.pointer p) (.pointer none)) w) _ = _
    rw [Sem.run_bind, hg, Result.andThen_ok, run_eql_pointer_nil w t p hpt]
    cases p <;> rfl
  | true =>
    show Result.andThen (Sem.run P (do eqGuard .neq t x _ (.pointer p) (.pointer none); binOp .neq t (.pointer p) (.pointer none)) w) _ = _
    rw [Sem.run_bind, hg, Result.andThen_ok, run_neq_pointer_nil w t p hpt]
    cases p <;> rfl

/-! ### Reading -/
/-- A cell's part, as a slot tells it (no address told by a place). -/
def norH : T → Option A
  | .ptr _ _ => none
  | .view j off E k n => some (.t (.view j off E k n))
  | .agg _ => none
  | .own _ k l => some (.t (.d (.seq k l)))
  | x => some (.t x)
theorem norH_rep {loc : Nat × Nat} {s : Nat} {x : T} {y : A} {v : Value} (hsat : ∀ b p u, m b p = some u → w.cell? ⟨b, p, none⟩ = some u) (hy : norH x = some y) (h : RepT m w o loc x v) : RepA m w o S s y v := by
  cases x with
  | ptr j off => cases hy
  | agg l => cases hy
  | own E k l => injection hy with hy; subst hy; exact own_seq hsat h
  | d x => injection hy with hy; subst hy; exact h
  | view j off E k n => injection hy with hy; subst hy; exact h
  | hpt c off => injection hy with hy; subst hy; exact h
  | mpt c => injection hy with hy; subst hy; exact h
  | hvw c off E k n => injection hy with hy; subst hy; exact h
/-- One cell of an object is read. -/
theorem ok_hld (hM : Mk M S) {op : Oper} {d c off t n : Nat} {x : Operand} {l : List T} {z : T} {y : A} (hop : op.op = .load t x) (ht : tyA P t = some (false, n)) (hx : cpO M x = .t (.hpt c off)) (hb : S (OB + (OB + c)) = .box l) (hz : l[off]? = some z) (hy : norH z = some y) (hd : op.dst = some d) (hok : okD N pins S d = true) : OpOK P pins N op S (upd S d y) := by
  refine ok_of_run fun w0 m0 o0 G a w m o hN I => ?_
  obtain ⟨h1, h2, h3⟩ := okD_iff hok
  have hxr := cpO_rep hM I x 0
  rw [hx] at hxr
  obtain ⟨g, k1, e⟩ := hxr
  have hs := I.slots (OB + (OB + c))
  rw [hb] at hs
  obtain ⟨g', _, q1, q2, cs, E, q3, q4, q5⟩ := hs
  have := I.inj _ _ _ k1 q1
  subst this
  obtain ⟨hz1, u, hu, hr⟩ := q5 off z hz
  refine ⟨u, w, m, o, ?_, by rw [hd]; exact I.set d _ _ (by omega) h2 (norH_rep I.sat hy hr)⟩
  unfold execOp
  rw [hop]
  simp only [Sem.run_bind]
  rw [e]
  simp only [Instr.loadAt, Instr.sureAddr, Sem.run_bind, Sem.run_pure, Result.andThen_ok]
  rw [run_loadVar_one ht (by rw [cell_of_row w g off cs E _ q3]; exact hu)]
  rfl
/-- Cells of an object are read, a struct or an array. -/
theorem ok_hlr (hM : Mk M S) {op : Oper} {d c off t n : Nat} {x : Operand} {l r : List T} {y : List D} (hop : op.op = .load t x) (ht : tyA P t = some (true, n)) (hx : cpO M x = .t (.hpt c off)) (hb : S (OB + (OB + c)) = .box l) (hl : (l.drop off).take n = r) (hr : r.length = n) (hpt : noPt r = true) (hy : r.map toD = y) (hd : op.dst = some d) (hok : okD N pins S d = true) : OpOK P pins N op S (upd S d (.t (.agg y))) := by
  subst hy
  refine ok_of_run fun w0 m0 o0 G a w m o hN I => ?_
  obtain ⟨h1, h2, h3⟩ := okD_iff hok
  have hxr := cpO_rep hM I x 0
  rw [hx] at hxr
  obtain ⟨g, k1, e⟩ := hxr
  have hs := I.slots (OB + (OB + c))
  rw [hb] at hs
  obtain ⟨g', _, q1, q2, cs, E, q3, q4, q5⟩ := hs
  have := I.inj _ _ _ k1 q1
  subst this
  have hle : n = 0 ∨ off + n ≤ l.length := by
    rw [← hl, List.length_take, List.length_drop] at hr
    omega
  have hcs : n = 0 ∨ off + n ≤ cs.size := by omega
  have hrep : RepL m (r.map toD) ((cs.toList.drop off).take n) := by
    refine ⟨by rw [List.length_map, hr, List.length_take, List.length_drop, Array.length_toList]; omega, fun j z hj => ?_⟩
    rw [List.getElem?_map, ← hl, List.getElem?_take, List.getElem?_drop] at hj
    rw [List.getElem?_take, List.getElem?_drop]
    split at hj
    · rename_i hjn
      rw [if_pos hjn]
      cases hz : l[off + j]? with
      | none => rw [hz] at hj; cases hj
      | some z =>
        rw [hz] at hj
        injection hj with hj
        subst hj
        obtain ⟨ha, u, h7, h8⟩ := q5 (off + j) z hz
        have hzp : z.isPt = false := by
          have := List.all_eq_true.1 hpt z (List.mem_of_getElem? (i := j) (by rw [← hl, List.getElem?_take, if_pos hjn, List.getElem?_drop]; exact hz))
          simpa using this
        exact ⟨u, by simpa using h7, h8.toD I.sat ha hzp⟩
    · cases hj
  have hrun := run_loadVar_many (P := P) (w := w) ht (g := g) (p := off) (vs := (cs.toList.drop off).take n) (by rw [List.length_take, List.length_drop, Array.length_toList]; omega) fun j v hj => by
    rw [cell_of_row w g (off + j) cs E _ q3]
    rw [List.getElem?_take] at hj
    split at hj
    · rw [List.getElem?_drop] at hj; simpa using hj
    · cases hj
  refine ⟨.agg ((cs.toList.drop off).take n).toArray, w, m, o, ?_, by rw [hd]; exact I.set d _ _ (by omega) h2 ⟨_, rfl, by simpa using hrep⟩⟩
  unfold execOp
  rw [hop]
  simp only [Sem.run_bind]
  rw [e]
  simp only [Instr.loadAt, Instr.sureAddr, Sem.run_bind, Sem.run_pure, Result.andThen_ok]
  rw [hrun]
  rfl

/-! ### Writing -/
/-- What a cell of an object holds is so where the object's own cells turn. -/
theorem rep_setRow {g : Nat} {loc loc' : Nat × Nat} {cs cs' : Array Value} {E : Nat} (h1 : o g = some loc') (h4 : w.heap[g]? = some (.cells cs E (0, 0))) (hss : cs'.size = cs.size) (hne : loc' ≠ loc) {z : T} {u : Value} (k0 : z.isAgg = false) (k2 : RepT m w o loc z u) : RepT m (w.setRow g cs') o loc z u := by
  cases z with
  | d x => exact k2
  | agg l => cases k0
  | ptr j off => exact k2
  | hpt c off => exact k2
  | mpt c => exact k2
  | view j off E k n => exact view_keep (m' := m) (fun _ _ h => h) (fun g' _ _ => shp_setRow h4 hss g') k2
  | hvw c off E k n => exact hvw_keep (m' := m) (fun _ _ h => h) (fun g' _ _ => shp_setRow h4 hss g') k2
  | own E' k ls =>
    obtain ⟨A', cap, xs, e1, q1, q2, q3, q4⟩ := k2
    refine ⟨A', cap, xs, e1, ownsRow_same q1 fun g2 hg2 => ?_, q2, q3, q4⟩
    rw [e1, ownBlock_slice] at hg2
    refine setRow_other w g g2 _ fun e2 => ?_
    subst e2
    have := (q2 _ hg2).1
    rw [h1] at this
    injection this with this
    exact hne this
theorem ok_hst (hM : Mk M S) {op : Oper} {t c off : Nat} {x y : Operand} (hop : op.op = .store t x y) (hd : op.dst = none) {i : TypeInfo} (hi : P.info? t = some i) (hx : cpO M x = .t (.hpt c off)) {l : List T} (hb : S (OB + (OB + c)) = .box l) {q : List T} (hc : cellsP (cpO M y) = some q) (hsz : q.length = i.size) (hle : off + i.size ≤ l.length) :
    OpOK P pins N op S (upd S (OB + (OB + c)) (.box (splice l off q))) := by
  refine ok_of_skip hd fun w0 m0 o0 G a w m o hN I => ?_
  have hxr := cpO_rep hM I x 0
  rw [hx] at hxr
  obtain ⟨g, h1, e⟩ := hxr
  have hs := I.slots (OB + (OB + c))
  rw [hb] at hs
  obtain ⟨g', _, q1, q2, cs, E, h4, h5, h6⟩ := hs
  have := I.inj _ _ _ h1 q1
  subst this
  have hyr := cellsP_rep hc (cpO_rep hM I y 0)
  have hvl : (a.eval y).cells.size = i.size := by have := hyr.1; simp at this; omega
  have hone := hyr.2.1
  have hrun := run_store_row (P := P) (w := w) (off := off) hi h4 hvl hone (by omega)
  have hcl : (a.eval y).cells.toList.length = q.length := hyr.1
  have hsp : (splice cs.toList off (a.eval y).cells.toList).length = cs.toList.length := splice_length cs.toList off (a.eval y).cells.toList (by simp only [Array.length_toList]; omega)
  have hss : (splice cs.toList off (a.eval y).cells.toList).toArray.size = cs.size := by simpa using hsp
  refine ⟨_, m, o, ?_, I.box_put hb h1 h4 (cs' := (splice cs.toList off (a.eval y).cells.toList).toArray) hss o (fun _ => False) (fun s h => h.elim) (fun g l h _ _ => h) h1 (fun g l h => ⟨l, h⟩) I.inj (fun g l l' h h' k => by rw [h] at h'; injection h' with h'; rw [h']; exact k) ?_ (fun j z hj => ?_)⟩
  · unfold execOp
    rw [hop]
    simp only [Sem.run_bind]
    rw [e, hrun]
    rfl
  · exact splice_length l off q (by omega)
  · have hcs2 : (splice cs.toList off (a.eval y).cells.toList).toArray[j]? = (splice cs.toList off (a.eval y).cells.toList)[j]? := by simp
    rw [hcs2, splice_get cs.toList off (a.eval y).cells.toList (by simp only [Array.length_toList] at hcl ⊢; omega)]
    rw [splice_get l off q (by omega)] at hj
    rw [hcl]
    split at hj
    · rename_i hjo
      rw [if_pos hjo]
      obtain ⟨k0, u, k1, k2⟩ := hyr.2.2 _ z hj
      exact ⟨k0, u, k1, k2 _ _ (shp_setRow h4 hss)⟩
    · rename_i hjo
      rw [if_neg hjo]
      obtain ⟨k0, u, k1, k2⟩ := h6 j z hj
      exact ⟨k0, u, by simpa using k1, rep_setRow h1 h4 hss (by intro e; injection e with _ e; omega) k0 k2⟩

/-! ### New objects -/
def T.noOwn : T → Bool
  | .own _ _ _ | .agg _ => false
  | _ => true
theorem noOwn_rep {x : T} (hx : x.noOwn = true) {o' : OwnM} (ho : ∀ g j, o g = some (OB + j, 0) → o' g = some (OB + j, 0)) {loc loc' : Nat × Nat} {w' : World} (hs : ∀ g, ShpAt w w' g) {v : Value} (h : RepT m w o loc x v) : RepT m w' o' loc' x v := by
  cases x with
  | d x => exact h
  | agg l => cases hx
  | own E k l => cases hx
  | ptr j off => obtain ⟨g, h1, h2⟩ := h; exact ⟨g, ho g j h1, h2⟩
  | hpt j off => obtain ⟨g, h1, h2⟩ := h; exact ⟨g, ho g _ h1, h2⟩
  | mpt j => obtain ⟨g, h1, h2⟩ := h; exact ⟨g, ho g _ h1, h2⟩
  | view j off E k n => exact view_keep (m' := m) ho (fun g _ _ => hs g) h
  | hvw j off E k n => exact hvw_keep (m' := m) ho (fun g _ _ => hs g) h
/-- A new block, held by object j, which was not there. -/
theorem Inv.obj_new (I : Inv w0 m0 o0 G pins S a w m o) {j : Nat} {l : List T} {cs : Array Value} {E : Nat} (hfree : S (OB + j) = .free) (hlen : l.length ≤ cs.size)
    (hc : ∀ (i : Nat) (x : T), l[i]? = some x → x.noOwn = true ∧ ∃ u, cs[i]? = some u ∧ RepT m w o (0, 0) x u) :
    Inv w0 m0 o0 G pins (upd S (OB + j) (.box l)) a (w.alloc (.cells cs E)) m (newO o (OB + j) w.heap.size) := by
  have hf : ∀ g k, o g ≠ some (OB + j, k) := by have := I.slots (OB + j); rw [hfree] at this; exact this
  have hS : Same (fun _ => False) w (w.alloc (.cells cs E)) := Same.alloc _ _ _
  have hne : ∀ b l, o b = some l → b ≠ w.heap.size := fun b l h e => by have := I.lt b l h; omega
  have hk : ∀ b l, o b = some l → newO o (OB + j) w.heap.size b = some l := by
    intro b l h
    unfold newO
    rw [if_neg (hne b l h), h, if_neg]
    intro e
    obtain ⟨s, k⟩ := l
    injection e with e
    subst e
    exact hf b k h
  have hk' : ∀ b l, newO o (OB + j) w.heap.size b = some l → (b = w.heap.size ∧ l = (OB + j, 0)) ∨ (b ≠ w.heap.size ∧ o b = some l) := by
    intro b l h
    unfold newO at h
    split at h
    · rename_i e; injection h with h; exact .inl ⟨e, h.symm⟩
    · split at h
      · cases h
      · rename_i e _; exact .inr ⟨e, h⟩
  have hsh : ∀ g, ShpAt w (w.alloc (.cells cs E)) g := fun g => .of_lt fun h => hS.block g h id
  have K : Keep (fun l => l.1 = OB + j) m w o m (w.alloc (.cells cs E)) (newO o (OB + j) w.heap.size) :=
    ⟨Mle.refl _, fun _ _ _ _ => rfl, fun b l h _ => hS.block b (I.lt b l h) id, fun b l h _ => hk b l h, fun b j' h => hk b _ h, fun b s k hs h => by
      rcases hk' b _ h with ⟨_, e⟩ | ⟨_, e⟩
      · injection e with e _; exact absurd e hs
      · exact ⟨b, k, e⟩, fun g _ _ => hsh g⟩
  refine ⟨I.same.trans (hS.weaken fun _ h => h.elim), fun b p u h => ?_, I.mono, I.old, fun g l h => ?_, fun g l h => ?_, fun g g' l h h' => ?_, fun s hs g hg => hk g _ (I.pinned s hs g hg), fun s => ?_, I.defers, I.tbl, I.wide, I.shps.keep I.pinned K.sh⟩
  · have h1 := I.sat b p u h
    have hlt : b < w.heap.size := by have := World.block_lt_of_cell? w _ h1; simpa using this
    rw [World.cell?_of_block (w := w) (hS.block b hlt id)]
    exact h1
  · rcases hk' g l h with ⟨e, _⟩ | ⟨_, e⟩
    · subst e; exact I.newG (Nat.le_refl _)
    · exact I.own g l e
  · rcases hk' g l h with ⟨e, _⟩ | ⟨_, e⟩
    · subst e; simp
    · exact Nat.lt_of_lt_of_le (I.lt g l e) hS.size
  · rcases hk' g l h with ⟨e, q⟩ | ⟨_, e⟩ <;> rcases hk' g' l h' with ⟨e', q'⟩ | ⟨_, e'⟩
    · rw [e, e']
    · subst q; exact absurd e' (hf _ _)
    · subst q'; exact absurd e (hf _ _)
    · exact I.inj _ _ _ e e'
  · by_cases e : s = OB + j
    · subst e
      rw [upd_same]
      refine ⟨w.heap.size, fun h => absurd h (by omega), newO_same _ _ _, fun p => I.mem_none (Nat.le_refl _), cs, E, heap_alloc_new w _, hlen, fun i x hi => ?_⟩
      obtain ⟨h1, u, h2, h3⟩ := hc i x hi
      refine ⟨?_, u, h2, noOwn_rep h1 (fun g j' h => hk g _ h) hsh h3⟩
      cases x <;> first | rfl | cases h1
    · rw [upd_other e]
      exact RepA.keep K (fun _ => e) (fun b off _ hb => ⟨fun e' => by have : b = OB + j := e'; omega, fun ⟨l', hl'⟩ => ⟨l', by rw [upd_other (by omega), hl']⟩⟩) (I.slots s)


theorem cellsP_noOwn {y : A} {l : List T} (hl : cellsP y = some l) : ∀ x ∈ l, x.noOwn = true := by
  intro x hx
  cases y with
  | t y =>
    cases y with
    | d y => injection hl with hl; subst hl; simp at hx; subst hx; rfl
    | agg y => injection hl with hl; subst hl; obtain ⟨_, _, rfl⟩ := List.mem_map.1 hx; rfl
    | view j off E k n => injection hl with hl; subst hl; simp at hx; subst hx; rfl
    | hpt c off => injection hl with hl; subst hl; simp at hx; subst hx; rfl
    | mpt c => injection hl with hl; subst hl; simp at hx; subst hx; rfl
    | hvw c off E k n => injection hl with hl; subst hl; simp at hx; subst hx; rfl
    | own E k l => cases hl
    | ptr j off => cases hl
  | ref b off =>
    have hl : (if OB ≤ b then some [T.ptr (b - OB) off] else none) = some l := hl
    split at hl
    · injection hl with hl; subst hl; simp at hx; subst hx; rfl
    · cases hl
  | ag ls =>
    have hl : (if ls.all T.cell then some ls else none) = some l := hl
    split at hl
    · rename_i hc
      injection hl with hl
      subst hl
      have h1 := List.all_eq_true.1 hc x hx
      cases x <;> first | rfl | cases h1
    · cases hl
  | _ => cases hl
/-- An operation that makes an object of the heap: its address lies in slot d. -/
theorem ok_hmk {op : Oper} {d c : Nat} {l : List T} (hd : op.dst = some d) (hok : okD N pins S d = true) (hdO : d < OB) (hfree : S (OB + (OB + c)) = .free)
    (h : ∀ (w0 : World) (m0 : Mem) (o0 : OwnM) (G : Nat → Prop) (a : Act) (w : World) (m : Mem) (o : OwnM), Inv w0 m0 o0 G pins S a w m o → ∃ v cs E, (execOp a.eval op).run P w = .ok (.value v) (w.alloc (.cells cs E)) ∧ l.length ≤ cs.size ∧
      (∀ (i : Nat) (x : T), l[i]? = some x → x.noOwn = true ∧ ∃ u, cs[i]? = some u ∧ RepT m w o (0, 0) x u) ∧ v = .pointer (some ⟨w.heap.size, 0, none⟩)) :
    OpOK P pins N op S (app S [(OB + (OB + c), .box l), (d, .t (.hpt c 0))]) := by
  refine ok_of_run fun w0 m0 o0 G a w m o hN I => ?_
  obtain ⟨h1, h2, h3⟩ := okD_iff hok
  obtain ⟨v, cs, E, hrun, hlen, hc, rfl⟩ := h w0 m0 o0 G a w m o I
  refine ⟨_, w.alloc (.cells cs E), m, newO o (OB + (OB + c)) w.heap.size, hrun, ?_⟩
  rw [hd]
  have J := I.obj_new (E := E) hfree hlen hc
  exact J.set d _ _ (by omega) (by rw [upd_other (by omega)]; exact h2) ⟨_, newO_same _ _ _, rfl⟩
theorem ok_hnew {op : Oper} {d c E : Nat} {i : TypeInfo} {z : Value} {l : List T} (hop : op.op = .alloc E) (hi : P.info? E = some i) (hz : i.zero = some z) (hl : cellsT (litA z) = some l) (hd : op.dst = some d) (hok : okD N pins S d = true) (hdO : d < OB) (hfree : S (OB + (OB + c)) = .free) :
    OpOK P pins N op S (app S [(OB + (OB + c), .box l), (d, .t (.hpt c 0))]) := by
  refine ok_hmk hd hok hdO hfree fun w0 m0 o0 G a w m o I => ?_
  have hcp : cellsP (litA z) = some l := by
    revert hl
    generalize litA z = y
    intro hl
    cases y with
    | t y => cases y <;> first | exact hl | cases hl
    | _ => cases hl
  obtain ⟨k1, k2, k3⟩ := cellsP_rep hcp (litA_rep (m := m) (w := w) (o := o) (S := S) 0 z)
  refine ⟨_, z.cells, E, ?_, by simpa using Nat.le_of_eq k1.symm, fun i x hx => ?_, rfl⟩
  · unfold execOp
    rw [hop]
    simp [Instr.alloc, zeroValue, typeInfo, hi, hz, newVar, newRow]
  · obtain ⟨q1, u, q2, q3⟩ := k3 i x hx
    exact ⟨cellsP_noOwn hcp x (List.mem_of_getElem? hx), u, by simpa using q2, q3 _ _ (ShpAt.refl w)⟩
theorem ok_hbox (hM : Mk M S) {op : Oper} {d c E : Nat} {x : Operand} {l : List T} (hop : op.op = .box E x) (hl : cellsP (cpO M x) = some l) (hd : op.dst = some d) (hok : okD N pins S d = true) (hdO : d < OB) (hfree : S (OB + (OB + c)) = .free) :
    OpOK P pins N op S (app S [(OB + (OB + c), .box l), (d, .t (.hpt c 0))]) := by
  refine ok_hmk hd hok hdO hfree fun w0 m0 o0 G a w m o I => ?_
  obtain ⟨k1, k2, k3⟩ := cellsP_rep hl (cpO_rep hM I x 0)
  refine ⟨_, (a.eval x).cells, E, ?_, by simpa using Nat.le_of_eq k1.symm, fun i x hx => ?_, rfl⟩
  · unfold execOp
    rw [hop]
    simp [Instr.box, newVar, newRow]
  · obtain ⟨q1, u, q2, q3⟩ := k3 i x hx
    exact ⟨cellsP_noOwn hl x (List.mem_of_getElem? hx), u, by simpa using q2, q3 _ _ (ShpAt.refl w)⟩
end
end Go.Proofs.Ytikaahmonocahaa
