/-
  Texts joined: see the remark at the head of each part.
-/
import Derived.Test.YtikaahmonocahaaQ09
import Derived.Laws.StructEq
import Derived.Lib.SliceRun
/-
  More operations for walks that a program writes: functions as values, empty slices, two structs held against each other, a slice held against nil.
-/
namespace Go.Proofs.Ytikaahmonocahaa
open Go Go.RowKit
set_option linter.unusedVariables false

section
variable {P : Program} {pins : List Nat} {N : Nat} {S M : Nat → A}
theorem ok_mf {op : Oper} {d f : Nat} (hop : op.op = .makeFunc (.func f) #[] #[]) (hd : op.dst = some d) (hok : okD N pins S d = true) : OpOK P pins N op S (upd S d (.t (.d (.lit (.func (.func f) #[] #[]))))) := by
  refine ok_of_run fun w0 m0 o0 G a w m o hN I => ?_
  obtain ⟨k1, k2, k3⟩ := okD_iff hok
  refine ⟨.func (.func f) #[] #[], w, m, o, ?_, by rw [hd]; exact I.set d _ _ (by omega) k2 (.lit _ rfl)⟩
  unfold execOp
  rw [hop]
  simp [Instr.makeFunc]
theorem ok_b0 {op : Oper} {d t e sz nb : Nat} (hop : op.op = .buildSlice t 0 #[]) (hd : op.dst = some d) (hok : okD N pins S d = true) (hE : elF P t = some (e, sz, nb)) : OpOK P pins N op S (upd S d (.t (.own e sz []))) := by
  refine ok_of_run fun w0 m0 o0 G a w m o hN I => ?_
  obtain ⟨h1, h2, h3⟩ := okD_iff hok
  have E := elF_of hE
  obtain ⟨i, z, hi, hz, rfl, rfl, hzs⟩ := E.info
  have hown : Own (w.alloc (.cells #[] e)) 0 e i.size (some ⟨w.heap.size, 0, none⟩) 0 0 [] := by
    have := Own.lit (B := 0) w #[] e i.size 0 (Nat.zero_le _) (by unfold maxLen; omega) (by simp)
    simpa using this
  refine ⟨.slice (some ⟨w.heap.size, 0, none⟩) 0 0, w.alloc (.cells #[] e), _, _, ?_, by
    rw [hd]
    refine I.own_put d _ _ (fun p => ([] : List Value)[p]?) w.heap.size _ (by omega) h2 h3 (I.free (Nat.le_refl _)) (I.newG (Nat.le_refl _)) ((Same.alloc (fun _ => False) w _).weaken (fun _ h => h.elim)) (by simp) (fun p u h => by rw [I.mem_none (Nat.le_refl _)] at h; cases h) (fun p u hp => Own.cellAt hown rfl hp) ?_
    exact ⟨some ⟨w.heap.size, 0, none⟩, 0, [], rfl, hown, fun g hg => by injection hg with hg; subst hg; exact ⟨newO_same _ _ _, fun p => newM_same _ _ _ _⟩, fun i r h => by simp at h, fun i r j d h => by simp at h⟩⟩
  unfold execOp
  rw [hop]
  simp [Instr.buildSlice, run_underlying E.under, sizeOf, typeInfo, hi, Instr.fill, newRow]
  rw [show Array.range 0 = #[] from by simp [Array.range]]
  simp

/-! ### Two structs held against each other -/
def eqV : Value → Value → TypeDesc → Option Bool
  | .int k a, .int k' b, .int _ => if k = k' then some (a == b) else none
  | .bool a, .bool b, .bool => some (a == b)
  | .string a, .string b, .string => some (a.toList == b.toList)
  | _, _, _ => none
def eqFs (P : Program) : List Field → List D → List D → Option Bool
  | [], _, _ => some true
  | f :: fs, xs, ys => if f.name = "_" then none else match xs[f.offset]?, ys[f.offset]?, P.underlying f.type, P.info? f.type with
    | some (.lit u), some (.lit v), some t, some i => if i.size = 1 ∧ TypeDesc.aggr t = false then match eqV u v t, eqFs P fs xs ys with
      | some b, some c => some (b && c)
      | _, _ => none
      else none
    | _, _, _, _ => none
theorem eqV_run {u v : Value} {td : TypeDesc} {b : Bool} (h : eqV u v td = some b) {t : TypeId} (ht : P.underlying t = some td) (w : World) (d : Nat) : (Op.equalIn (d + 1) t u v).run P w = .ok b w := by
  unfold eqV at h
  split at h
  · split at h
    · rename_i hk
      subst hk
      injection h with h
      rw [run_equalIn_int w d t _ _ _ _ ht, h]
    · cases h
  · injection h with h
    rw [run_equalIn_bool w d t _ _ ht, h]
  · injection h with h
    rw [run_equalIn_string w d t _ _ ht, h]
  · cases h
theorem part_run {t : TypeId} {td : TypeDesc} {i : TypeInfo} (ht : P.underlying t = some td) (hi : P.info? t = some i) (h1 : i.size = 1) (ha : TypeDesc.aggr td = false) {xs : Array Value} {off : Nat} {u : Value} (hu : xs[off]? = some u) (w : World) : (part t xs off).run P w = .ok u w := by
  simp [part, run_isAgg ht, ha, hu]
theorem eqFs_run {m : Mem} {xs ys : List D} {us vs : Array Value} (hx : RepL m xs us.toList) (hy : RepL m ys vs.toList) (w : World) (d : Nat) : ∀ (fs : List Field) (b : Bool), eqFs P fs xs ys = some b → (Op.eqFields (d + 1) us vs fs).run P w = .ok b w
  | [], b, h => by
    injection h with h
    subst h
    rfl
  | f :: fs, b, h => by
    unfold eqFs at h
    split at h
    · cases h
    rename_i hn
    split at h
    case h_2 => cases h
    rename_i u v t i h1 h2 h3 h4
    split at h
    case isFalse => cases h
    rename_i hc
    split at h
    case h_2 => cases h
    rename_i b1 c h5 h6
    injection h with h
    subst h
    have ih := eqFs_run hx hy w d fs c h6
    obtain ⟨u', k1, k2⟩ := hx.2 _ _ h1
    obtain ⟨v', k3, k4⟩ := hy.2 _ _ h2
    cases k2
    cases k4
    simp only [Op.eqFields, if_pos hn, Sem.run_bind, part_run h3 h4 hc.1 hc.2 (by simpa using k1) w, part_run h3 h4 hc.1 hc.2 (by simpa using k3) w, Result.andThen_ok, eqV_run h5 h3 w d]
    cases b1
    · rfl
    · simp [ih]
def eqS (P : Program) (M : Nat → A) (t : TypeId) (x y : Operand) : Option Bool := match cpO M x, cpO M y with
  | .t (.agg xs), .t (.agg ys) => match P.underlying t with
    | some (.struct fs) => if P.stoodInHeld t = false ∧ P.eqGuardType P.depth t = false then eqFs P fs.toList xs ys else none
    | _ => none
  | _, _ => none
theorem ok_eqs (hM : Mk M S) {op : Oper} {bop : BinOp} {d t yt : Nat} {x y : Operand} (ng : Bool) (hb : bop = bif ng then .neq else .eql) (hop : op.op = .binOp bop t x y yt) (hd : op.dst = some d) (hok : okD N pins S d = true) {b : Bool} (h : eqS P M t x y = some b) : OpOK P pins N op S (upd S d (.t (.d (.lit (.bool (ng ^^ b)))))) := by
  refine ok_of_run fun w0 m0 o0 G a w m o hN I => ?_
  obtain ⟨k1, k2, k3⟩ := okD_iff hok
  unfold eqS at h
  split at h
  case h_2 => cases h
  rename_i xs ys hx hy
  split at h
  case h_2 => cases h
  rename_i fs hu
  split at h
  case isFalse => cases h
  rename_i hc
  have ex := cpO_rep hM I x 0
  have ey := cpO_rep hM I y 0
  rw [hx] at ex
  rw [hy] at ey
  obtain ⟨us, e1, r1⟩ := ex
  obtain ⟨vs, e2, r2⟩ := ey
  have hf : P.fieldsOf t = fs := by unfold Program.fieldsOf; rw [hu]
  have hrun := eqFs_run (P := P) r1 r2 w 9998 fs.toList b h
  have hag := run_equalIn_agg (P := P) w 9999 t us vs (by rw [hf]; exact hu) hc.1
  rw [hf] at hag
  refine ⟨.bool (ng ^^ b), w, m, o, ?_, by rw [hd]; exact I.set d _ _ (by omega) k2 (.lit _ rfl)⟩
  unfold execOp
  rw [hop]
  simp only [Sem.run_bind]
  rw [e1, e2, run_eqGuard_agg w bop t x y us vs hc.2, Result.andThen_ok]
  subst hb
  cases ng
  · show Result.andThen ((binOp .eql t (.agg us) (.agg vs)).run P w) _ = _
    rw [run_eql_struct, hag, hrun]
    simp
  · show Result.andThen ((binOp .neq t (.agg us) (.agg vs)).run P w) _ = _
    rw [run_neq_struct, hag, hrun]
    simp
end

section
variable {P : Program} {pins : List Nat} {N : Nat} {ops : Array Oper} {Q : SL → Prop} {r : List Oper} {op : Oper} {L : SL}
theorem o_mf {d f : Nat} (hy : yes ops op L true) (hop : op.op = .makeFunc (.func f) #[] #[]) (hd : op.dst = some d) (hok : okD N pins (gt L) d = true) (k : OpsOK P pins N ops Q r ((d, .t (.d (.lit (.func (.func f) #[] #[])))) :: L)) : OpsOK P pins N ops Q (op :: r) L :=
  o_of (e := [(d, _)]) hy (.of (e := [(d, _)]) fun hN => ⟨ok_mf hop hd (okD_hx hN hok), eff_1 (okD_lo hN hok)⟩) rfl k
theorem o_b0 {d t e sz nb : Nat} (x : A) (hy : yes ops op L true) (hop : op.op = .buildSlice t 0 #[]) (hd : op.dst = some d) (hok : okD N pins (gt L) d = true) (hE : elF P t = some (e, sz, nb)) (hx : A.t (.own e sz []) = x) (k : OpsOK P pins N ops Q r ((d, x) :: L)) : OpsOK P pins N ops Q (op :: r) L := by
  subst hx
  exact o_of (e := [(d, _)]) hy (.of (e := [(d, _)]) fun hN => ⟨ok_b0 hop hd (okD_hx hN hok) hE, eff_1 (okD_lo hN hok)⟩) rfl k
theorem o_eqs {bop : BinOp} {d t yt : Nat} {x y : Operand} {b b' : Bool} (ng : Bool) (he : b = b') (hy : yes ops op L true) (hop : op.op = .binOp bop t x y yt) (hb : bop = bif ng then .neq else .eql) (hd : op.dst = some d) (hok : okD N pins (gt L) d = true) (h : eqS P (gt L) t x y = some b) (z : Bool) (hz : (ng ^^ b') = z) (k : OpsOK P pins N ops Q r ((d, .t (.d (.lit (.bool z)))) :: L)) : OpsOK P pins N ops Q (op :: r) L := by
  subst hz he
  exact o_of (e := [(d, _)]) hy (.of (e := [(d, _)]) fun hN => ⟨ok_eqs (Mk_hx _) ng hb hop hd (okD_hx hN hok) h, eff_1 (okD_lo hN hok)⟩) rfl k
end
section
variable {P : Program} {pins : List Nat} {N : Nat} {l0 : List Oper} {Q : SL → Prop} {r : List Oper} {op : Oper} {L : SL} {acc : List (List Nat × List Nat)} {T : List Nat}
theorem d_mf {d f : Nat} (hT : frcNs (touch l0.toArray (gt L) op) some = some T) (hy : dyes l0 op L T) (hop : op.op = .makeFunc (.func f) #[] #[]) (hd : op.dst = some d) (hdT : T.contains d = true) (hok : okD N pins (gt L) d = true) (k : DOK P pins N l0 Q r ((T, [d]) :: acc) ((d, .t (.d (.lit (.func (.func f) #[] #[])))) :: L)) : DOK P pins N l0 Q (op :: r) acc L :=
  d_of (ks := [d]) hT hy (e := [(d, _)]) rfl (by simp only [List.all_cons, List.all_nil, hdT]; rfl) (fun S' hS => have hok := okD_of hS (by simpa using hdT) hok; .of (e := [(d, _)]) fun hN => ⟨ok_mf hop hd (okD_hx hN hok), eff_1 (okD_lo hN hok)⟩) rfl k
where
  okD_of {S' : Nat → A} {L : SL} {T : List Nat} {d : Nat} (hS : ∀ t ∈ T, S' t = gt L t) (hdT : d ∈ T) (hok : okD N pins (gt L) d = true) : okD N pins S' d = true := by
    unfold okD at hok ⊢
    rw [hS d hdT]
    exact hok
theorem d_b0 {d t e sz nb : Nat} (x : A) (hT : frcNs (touch l0.toArray (gt L) op) some = some T) (hy : dyes l0 op L T) (hop : op.op = .buildSlice t 0 #[]) (hd : op.dst = some d) (hdT : T.contains d = true) (hok : okD N pins (gt L) d = true) (hE : elF P t = some (e, sz, nb)) (hx : A.t (.own e sz []) = x) (k : DOK P pins N l0 Q r ((T, [d]) :: acc) ((d, x) :: L)) : DOK P pins N l0 Q (op :: r) acc L := by
  subst hx
  exact d_of (ks := [d]) hT hy (e := [(d, _)]) rfl (by simp only [List.all_cons, List.all_nil, hdT]; rfl) (fun S' hS => have hok := d_mf.okD_of hS (by simpa using hdT) hok; .of (e := [(d, _)]) fun hN => ⟨ok_b0 hop hd (okD_hx hN hok) hE, eff_1 (okD_lo hN hok)⟩) rfl k
theorem d_eqs {bop : BinOp} {d t yt : Nat} {x y : Operand} {b b' : Bool} (ng : Bool) (he : b = b') (hT : frcNs (touch l0.toArray (gt L) op) some = some T) (hy : dyes l0 op L T) (hop : op.op = .binOp bop t x y yt) (hb : bop = bif ng then .neq else .eql) (hd : op.dst = some d) (hdT : T.contains d = true) (hok : okD N pins (gt L) d = true) (h : eqS P (mask T (gt L)) t x y = some b) (z : Bool) (hz : (ng ^^ b') = z) (k : DOK P pins N l0 Q r ((T, [d]) :: acc) ((d, .t (.d (.lit (.bool z)))) :: L)) : DOK P pins N l0 Q (op :: r) acc L := by
  subst hz he
  exact d_of (ks := [d]) hT hy (e := [(d, _)]) rfl (by simp only [List.all_cons, List.all_nil, hdT]; rfl) (fun S' hS => have hok := d_mf.okD_of hS (by simpa using hdT) hok; .of (e := [(d, _)]) fun hN => ⟨ok_eqs (mask_Mk hS).hx ng hb hop hd (okD_hx hN hok) h, eff_1 (okD_lo hN hok)⟩) rfl k
end

/-! ### A slice held against nil, as a region's last operation -/
section
variable {P : Program} {pins : List Nat} {N : Nat}
theorem ops_tail {w0 : World} {m0 : Mem} {o0 : OwnM} {G : Nat → Prop} {ops : Array Oper} {Q : SL → Prop} {tail : List Oper} {R : Exit → Act → World → Prop} (hQ : ∀ L a w, Q L → St w0 m0 o0 G pins N L a w → wpList P ops R tail a w) : ∀ (l : List Oper) (L : SL) (a : Act) (w : World), OpsOK P pins N ops Q l L → St w0 m0 o0 G pins N L a w → wpList P ops R (l ++ tail) a w := by
  intro l
  induction l with
  | nil => intro L a w h hS; exact hQ L a w h hS
  | cons op r ih =>
    intro L a w h hS
    obtain ⟨b, hy, hb⟩ := h
    refine wpList_step fun K hK => ?_
    rw [wanted_yes hy hS]
    cases b with
    | true =>
      rw [if_pos rfl] at hb ⊢
      obtain ⟨L', hop, hr⟩ := hb
      obtain ⟨hN, hlo, m, o, I⟩ := hS
      obtain ⟨hop, hlo'⟩ := hop (by rw [← hN]; exact I.wide) hlo
      exact hop w0 m0 o0 G a w m o hN I K R fun a' w' m' o' hN' I' => hK _ _ (ih L' a' w' hr ⟨hN', hlo', m', o', I'⟩)
    | false =>
      rw [if_neg (by simp)] at hb ⊢
      obtain ⟨d, hd, hok, hr⟩ := hb
      obtain ⟨hN, hlo, m, o, I⟩ := hS
      have hNO : N ≤ OB := by rw [← hN]; exact I.wide
      obtain ⟨h1, h2, h3⟩ := okD_iff (okD_hx hNO hok)
      refine hK _ _ (ih _ _ w hr ⟨by rw [put_size, hN], by rw [gt_cons]; exact hlo.upd (by have := okD_lo hNO hok; unfold OB at this; unfold OB2; omega), m, o, ?_⟩)
      rw [hd, gt_cons, hx_upd (.inl (okD_lo hNO hok))]
      exact I.set d (.tup []) undef (by omega) h2 ⟨#[], rfl, rfl, fun j x h => by simp at h⟩
theorem c_nil {id : Nat} {l1 : List Oper} {op : Oper} {d t yt e k : Nat} {x : Operand} {l : List (List D)} {Q : Exit → SL → Prop} {L : SL} (hop : op.op = .binOp .eql t x (.const (.slice none 0 0)) yt) (hg : op.guard = none) (hd : op.dst = some d) (ht : P.underlying t = some (.slice e))
    (h : OpsOK P pins N (l1 ++ [op]).toArray (fun L1 => okD N pins (gt L1) d = true ∧ dO (gt L1) x = some (.seq k l) ∧ ∀ b : Bool, (b = true → l = []) → Q .normal ((d, .t (.d (.lit (.bool b)))) :: L1)) l1 L) : CodeOK P pins N (.region id (l1 ++ [op]).toArray false) Q L := by
  intro w0 m0 o0 G a w hS
  refine wp_region_lit (ops_tail (fun L1 a w hq hS => ?_) l1 L a w h hS)
  obtain ⟨hok, hxd, hb⟩ := hq
  obtain ⟨hN, hlo, m, o, I⟩ := hS
  have hNO : N ≤ OB := by rw [← hN]; exact I.wide
  obtain ⟨h1, h2, h3⟩ := okD_iff (okD_hx hNO hok)
  refine wpList_step fun K hK => ?_
  have hw : Region.wanted op (yielded (l1 ++ [op]).toArray a.tmps) = true := by unfold Region.wanted; rw [hg]
  rw [hw, if_pos rfl]
  have hr := dO_rep (Mk_hx _) I hxd
  have key : ∀ v, RepD m (.seq k l) v → ∃ b : Bool, (b = true → l = []) ∧ ∀ y : Operand, (do eqGuard .eql t x y v (.slice none 0 0); binOp .eql t v (.slice none 0 0)).run P w = .ok (.bool b) w := by
    intro v hv
    cases hv with
    | seq _ _ A' cap g o f hcap hmax hA hw hm hr =>
      refine ⟨A'.isNone, fun hb => ?_, fun y => ?_⟩
      · by_cases hl : l = []
        · exact hl
        · rw [hA hl] at hb; cases hb
      · have hgd : (eqGuard .eql t x y (.slice A' l.length cap) (.slice none 0 0)).run P w = .ok () w := by
          unfold eqGuard
          rfl
        rw [Sem.run_bind, hgd, Result.andThen_ok]
        exact Go.Lib.run_eql_slice_nil w t e A' _ cap 0 0 ht
  obtain ⟨b, hbl, hrun⟩ := key _ hr
  unfold Oper.wp
  have hex : (execOp a.eval op).run P w = .ok (.value (.bool b)) w := by
    unfold execOp
    rw [hop]
    have := hrun (.const (.slice none 0 0))
    show Sem.run P (do pure (Next.value (← (do eqGuard .eql t x (.const (.slice none 0 0)) (a.eval x) (.slice none 0 0); binOp .eql t (a.eval x) (.slice none 0 0))))) w = _
    rw [Sem.run_bind, this]
    rfl
  rw [hex]
  refine hK _ _ (wpList_nil ⟨_, hb b hbl, by rw [put_size, hN], by rw [gt_cons]; exact hlo.upd (by have := okD_lo hNO hok; unfold OB at this; unfold OB2; omega), m, o, ?_⟩)
  rw [hd, gt_cons, hx_upd (.inl (okD_lo hNO hok))]
  exact I.set d _ _ (by omega) h2 (.lit _ rfl)
end
theorem andE {a b c d : Bool} (h : a = b) (k : c = d) : (a && c) = (b && d) := by rw [h, k]
/-- slices.Clone of bytes. -/
def m_slices_Clone_byte (l : List UInt8) : Option (List UInt8) := appI 1 [] l
/-- word.Put, where its arguments may be. -/
def m_word_Put (n size : Int) : Option (List UInt8 × Int) := if 0 ≤ n ∧ n ≤ 4611686018427387904 ∧ 1 ≤ size ∧ size ≤ 8 ∧ n.toNat < 256 ^ size.toNat then some (be size.toNat n.toNat, 0) else none
end Go.Proofs.Ytikaahmonocahaa

/-
  Still more operations for walks that a program writes: the bytes of a text that stands in the program; texts held against each other by order.
-/
namespace Go.Proofs.Ytikaahmonocahaa
open Go Go.RowKit
set_option linter.unusedVariables false

theorem str_ltL (x y : List UInt8) : Op.bytesLess (ByteArray.mk ⟨x⟩).toList (ByteArray.mk ⟨y⟩).toList = Op.bytesLess x y := by simp
def sLt (x y : List UInt8) : Bool := Op.bytesLess x y
theorem s_lt (x y : List UInt8) : Op.bytesLess (ByteArray.mk ⟨x⟩).toList (ByteArray.mk ⟨y⟩).toList = sLt x y := str_ltL x y
theorem s_le (x y : List UInt8) : (Op.bytesLess (ByteArray.mk ⟨x⟩).toList (ByteArray.mk ⟨y⟩).toList || (ByteArray.mk ⟨x⟩).toList == (ByteArray.mk ⟨y⟩).toList) = (sLt x y || x == y) := by rw [s_lt, str_beqL]
theorem s_gt (x y : List UInt8) : (!(Op.bytesLess (ByteArray.mk ⟨x⟩).toList (ByteArray.mk ⟨y⟩).toList || (ByteArray.mk ⟨x⟩).toList == (ByteArray.mk ⟨y⟩).toList)) = (!(sLt x y || x == y)) := by rw [s_le]
theorem s_ge (x y : List UInt8) : (!(Op.bytesLess (ByteArray.mk ⟨x⟩).toList (ByteArray.mk ⟨y⟩).toList)) = (!(sLt x y)) := by rw [s_lt]

theorem frz_size (w : World) (a : Addr) (n : Nat) : (w.freeze a n).heap.size = w.heap.size := by
  unfold World.freeze
  split
  · rfl
  · simp
theorem frz_other (w : World) (a : Addr) (n g : Nat) (h : g ≠ a.block) : (w.freeze a n).heap[g]? = w.heap[g]? := by
  unfold World.freeze
  split
  · rfl
  · simp [Array.getElem?_modify, Ne.symm h]
theorem frz_cell (w : World) (a : Addr) (n : Nat) (b : Addr) : (w.freeze a n).cell? b = w.cell? b := by
  unfold World.freeze
  split
  · rfl
  · unfold World.cell?
    simp only [Array.getElem?_modify]
    by_cases h : a.block = b.block
    · rw [if_pos h]
      cases w.heap[b.block]? with
      | none => rfl
      | some o =>
        cases o with
        | cells c e f => rfl
        | _ => rfl
    · rw [if_neg h]
theorem frz_os (w : World) (a : Addr) (n : Nat) : (w.freeze a n).os = w.os := by unfold World.freeze; split <;> rfl
theorem frz_tape (w : World) (a : Addr) (n : Nat) : (w.freeze a n).tape = w.tape := by unfold World.freeze; split <;> rfl
theorem frz_output (w : World) (a : Addr) (n : Nat) : (w.freeze a n).output = w.output := by unfold World.freeze; split <;> rfl

/-- Is t a type of bytes in a row? -/
def bytesT (P : Program) (t : TypeId) : Bool := match P.underlying t with
  | some (.slice e) => match P.underlying e with
    | some (.int .u8) => true
    | _ => false
  | _ => false
section
variable {P : Program} {pins : List Nat} {N : Nat} {S M : Nat → A}
theorem ok_cvk (hM : Mk M S) {op : Oper} {d s t E k : Nat} (hop : op.op = .convert t t (.tmp s)) (hd : op.dst = some d) (hok : okD N pins S d = true) (ht : bytesT P t = true) {l : List (List D)} (hs : M s = .t (.own E k l)) (hl : l.isEmpty = false) (hne : (d == s) = false) (hsp : pins.contains s = false) :
    OpOK P pins N op S (upd (upd S s (.t (.d (.seq k l)))) d (.t (.d (.seq k l)))) := by
  refine ok_of_run fun w0 m0 o0 G a w m o hN I => ?_
  obtain ⟨h1, h2, h3⟩ := okD_iff hok
  have hne : s ≠ d := fun e => by subst e; simp at hne
  have hsp : s ∉ pins := by simpa using hsp
  have hS : S s = .t (.own E k l) := by
    rcases hM s with k | k
    · rw [k] at hs; cases hs
    · rw [← k]; exact hs
  have hown : OwnAt m w o (s, 0) E k l (a.tmps.getD s undef) := by
    have := I.slots s
    rw [hS] at this
    exact this
  have hsO : s < OB := by
    rcases Nat.lt_or_ge s a.tmps.size with h | h
    · exact Nat.lt_of_lt_of_le h I.wide
    · obtain ⟨A', cap, xs, e, _⟩ := hown
      rw [Array.getD_eq_getD_getElem?, Array.getElem?_eq_none h] at e
      cases e
  have I1 := I.degrade s (by rw [hS]; rfl)
  rw [hS] at I1
  obtain ⟨o1, I2, ho1⟩ := I1.drop s hsp hsO (x := .seq k l) (by simp [upd, cpA, cpT])
  have hrep : RepD m (.seq k l) (a.tmps.getD s undef) := by
    have := I2.slots s
    rw [upd_same] at this
    exact this
  obtain ⟨A', cap, xs, e1, k1, k2, k3, k4⟩ := hown
  obtain ⟨q0, q1 | ⟨g, cap', cur, q1, q2, q3, q4⟩⟩ := k1
  · rw [q1.2] at q0
    have : l = [] := List.length_eq_zero_iff.1 q1.2
    rw [this] at hl
    cases hl
  have hA : A' = some ⟨g, 0, none⟩ := by
    rw [e1] at q1
    injection q1
  subst hA
  obtain ⟨p1, p2⟩ := k2 g rfl
  have hglt := I.lt g _ p1
  unfold bytesT at ht
  split at ht
  case h_2 => cases ht
  rename_i e hu
  split at ht
  case h_2 => cases ht
  rename_i hu8
  have hsh : w.shape? g = some (E, cur.size) := by unfold World.shape?; rw [q3]
  have hrun : (convert t t (.slice (some ⟨g, 0, none⟩) l.length cap)).run P w = .ok (.slice (some ⟨g, 0, none⟩) l.length cap) (w.freeze ⟨g, cur.size, none⟩ 1) := by
    simp [convert, run_underlying hu, run_underlying hu8, markStringish, hsh]
  have J := I2.own_put d (.t (.d (.seq k l))) (a.tmps.getD s undef) (m g) g (w.freeze ⟨g, cur.size, none⟩ 1) (by omega) (by rw [upd_other (Ne.symm hne)]; exact h2) h3
    (fun l' hl' => by
      obtain ⟨z1, z2⟩ := ho1 g l' hl'
      rw [p1] at z2
      injection z2 with z2
      exact absurd (by rw [← z2]) z1) (I.own g _ p1)
    ⟨frz_os _ _ _, frz_tape _ _ _, frz_output _ _ _, Nat.le_of_eq (frz_size _ _ _).symm, fun b hb hn => frz_other _ _ _ _ fun e => hn ⟨e, e ▸ hglt⟩⟩
    (by rw [frz_size]; exact hglt) (fun p u h => h) (fun p u h => by rw [frz_cell]; exact I.sat g p u h)
    (RepD.mono (fun b p u h => by
      unfold newM
      split
      · rename_i hb
        rw [← hb]
        exact h
      · exact h) hrep)
  refine ⟨a.tmps.getD s undef, _, _, _, ?_, by rw [hd]; exact J⟩
  unfold execOp
  rw [hop]
  simp only [Sem.run_bind]
  rw [show a.eval (.tmp s) = .slice (some ⟨g, 0, none⟩) l.length cap from e1, hrun, ← e1]
  rfl
end
section
variable {P : Program} {pins : List Nat} {N : Nat} {ops : Array Oper} {Q : SL → Prop} {r : List Oper} {op : Oper} {L : SL}
theorem o_cvk {d s t E k : Nat} {l : List (List D)} (z : A) (hy : yes ops op L true) (hop : op.op = .convert t t (.tmp s)) (hd : op.dst = some d) (hok : okD N pins (gt L) d = true) (ht : bytesT P t = true) (hs : gt L s = .t (.own E k l)) (hl : l.isEmpty = false) (hne : (d == s) = false) (hsp : pins.contains s = false) (hz : A.t (.d (.seq k l)) = z) (h : OpsOK P pins N ops Q r ((d, z) :: (s, z) :: L)) : OpsOK P pins N ops Q (op :: r) L := by
  subst hz
  exact o_of (e := [(s, _), (d, _)]) hy (.of (e := [(s, _), (d, _)]) fun hN => ⟨ok_cvk (Mk_hx _) hop hd (okD_hx hN hok) ht hs hl hne hsp, eff_2 (stb_of (Mk.refl _) hs rfl) rfl (okD_lo hN hok)⟩) rfl h
end
section
variable {P : Program} {pins : List Nat} {N : Nat} {l0 : List Oper} {Q : SL → Prop} {r : List Oper} {op : Oper} {L : SL} {acc : List (List Nat × List Nat)} {T : List Nat}
theorem d_cvk {d s t E k : Nat} {l : List (List D)} (z : A) (hT : frcNs (touch l0.toArray (gt L) op) some = some T) (hy : dyes l0 op L T) (hop : op.op = .convert t t (.tmp s)) (hd : op.dst = some d) (hdT : T.contains d = true) (hsT : T.contains s = true) (hok : okD N pins (gt L) d = true) (ht : bytesT P t = true) (hs : mask T (gt L) s = .t (.own E k l)) (hl : l.isEmpty = false) (hne : (d == s) = false) (hsp : pins.contains s = false) (hz : A.t (.d (.seq k l)) = z) (h : DOK P pins N l0 Q r ((T, [s, d]) :: acc) ((d, z) :: (s, z) :: L)) : DOK P pins N l0 Q (op :: r) acc L := by
  subst hz
  exact d_of (ks := [s, d]) hT hy (e := [(s, _), (d, _)]) rfl (by simp only [List.all_cons, List.all_nil, hdT, hsT]; rfl) (fun S' hS => have hok := d_mf.okD_of hS (by simpa using hdT) hok; .of (e := [(s, _), (d, _)]) fun hN => ⟨ok_cvk (mask_Mk hS).hx hop hd (okD_hx hN hok) ht hs hl hne hsp, eff_2 (stb_of (mask_Mk hS) hs rfl) rfl (okD_lo hN hok)⟩) rfl h
end
/-! ### Short names of the control rules -/
theorem k1 {L : SL} {K : SL → Prop} {Q : Exit → SL → Prop} (h : K L) : thenQ K Q .normal L := h
theorem k2 {L : SL} {K : SL → Prop} {Q : Exit → SL → Prop} {i : Nat} (h : Q (.exit i) L) : thenQ K Q (.exit i) L := h
theorem k3 {L : SL} {K : SL → Prop} {Q : Exit → SL → Prop} (h : Q .ret L) : thenQ K Q .ret L := h
theorem k4 {L : SL} {i : Nat} {Q : Exit → SL → Prop} (h : Q .normal L) : blockQ i Q .normal L := h
theorem k5 {L : SL} {i : Nat} {Q : Exit → SL → Prop} (h : Q .ret L) : blockQ i Q .ret L := h
theorem k6 {L : SL} {i : Nat} {Q : Exit → SL → Prop} (h : Q .normal L) : blockQ i Q (.exit i) L := block_exit h
theorem k7 {L : SL} {i j : Nat} {Q : Exit → SL → Prop} (hne : (j == i) = false) (h : Q (.exit j) L) : blockQ i Q (.exit j) L := block_pass hne h
theorem c_sr {P : Program} {pins : List Nat} {N : Nat} {Q : Exit → SL → Prop} {L : SL} {id : Nat} {l : List Oper} {y : Code} (h : OpsOK P pins N l.toArray (thenQ (CodeOK P pins N y Q) Q .normal) l L) : CodeOK P pins N (.seq (.region id l.toArray false) y) Q L := c_seq (c_region h)
end Go.Proofs.Ytikaahmonocahaa

/-
  Functions that have caught variables: made, handed over, called. A caught variable never changes again: it is frozen first.
-/
namespace Go.Proofs.Ytikaahmonocahaa
open Go Go.RowKit
set_option linter.unusedVariables false

def frzD : T → D
  | .d x => x
  | .own _ k l => .seq k l
  | _ => default
section
variable {w0 : World} {m0 : Mem} {o0 : OwnM} {G : Nat → Prop} {pins : List Nat} {S M : Nat → A} {a : Act} {w : World} {m : Mem} {o : OwnM} {P : Program} {N : Nat}
/-- A variable that nothing writes any more. -/
theorem Inv.freeze (I : Inv w0 m0 o0 G pins S a w m o) (s : Nat) (hsO : s < OB) (hs : s ∉ pins) {l : List T} (hpt : noPt l = true) (hbox : S s = .box l) (hno : ∀ t off, S t ≠ .ref s off) : ∃ m' o', Inv w0 m0 o0 G pins (upd S s (.imm (l.map frzD))) a w m' o' := by
  have hb := I.slots s
  rw [hbox] at hb
  obtain ⟨g, e, h1, h2, cs, E, h3, h4, h5⟩ := hb
  have hk : ∀ b l, (fun b => if (o b).map (·.1) = some s then none else o b) b = some l → l.1 ≠ s ∧ o b = some l := by
    intro b l h
    simp only at h
    split at h
    · cases h
    · rename_i hn
      exact ⟨fun e => hn (by rw [h, ← e]; rfl), h⟩
  have hko : ∀ b l, o b = some l → l.1 ≠ s → (if (o b).map (·.1) = some s then none else o b) = some l := fun b l h hn => by rw [h, if_neg (by simpa using hn)]
  have K : Keep (fun l => l.1 = s) m w o (newM m g fun p => cs[p]?) w (fun b => if (o b).map (·.1) = some s then none else o b) := by
    refine ⟨fun b p u h => ?_, fun b l h hn => ?_, fun _ _ _ _ => rfl, fun b l h hn => hko b l h hn, fun b j h => hko b _ h (OB_ne hsO), fun b t k _ h => ⟨b, k, (hk b _ h).2⟩, fun b j _ => .of_eq rfl⟩
    · unfold newM
      split
      · rename_i hb
        rw [hb, h2 p] at h
        cases h
      · exact h
    · have : b ≠ g := fun e => by
        subst e
        rw [h1] at h
        injection h with h
        exact hn (by rw [← h])
      funext p
      unfold newM
      rw [if_neg this]
  refine ⟨_, _, ⟨I.same, fun b p u h => ?_, I.mono.trans K.mle, fun b hb hg => ?_, fun b l h => I.own b l (hk b l h).2, fun b l h => I.lt b l (hk b l h).2, fun b b' l h h' => I.inj b b' l (hk b l h).2 (hk b' l h').2, fun p hp b hb => ?_, fun t => ?_, I.defers, I.tbl, I.wide, I.shps⟩⟩
  · unfold newM at h
    split at h
    · rename_i hb
      subst hb
      unfold World.cell?
      simp only [h3]
      exact h
    · exact I.sat b p u h
  · have : b ≠ g := fun e => by
      subst e
      rcases I.own b _ h1 with h | h
      · exact hg h
      · omega
    rw [← I.old b hb hg]
    funext p
    unfold newM
    rw [if_neg this]
  · exact hko b _ (I.pinned p hp b hb) fun e => hp.elim (fun hp => hs (by rw [← e]; exact hp)) fun hp => by have e : p = s := e; omega
  · by_cases ht : t = s
    · subst ht
      rw [upd_same]
      refine ⟨g, 0, e hsO, fun j d hj => ?_⟩
      rw [List.getElem?_map] at hj
      cases hx : l[j]? with
      | none => rw [hx] at hj; cases hj
      | some x =>
        rw [hx] at hj
        injection hj with hj
        subst hj
        obtain ⟨ha, u, hu, hr⟩ := h5 j x hx
        refine ⟨u, by rw [Nat.zero_add, newM_same]; exact hu, ?_⟩
        refine RepD.mono K.mle ?_
        cases x with
        | d y => exact hr
        | agg l => cases ha
        | own E k l => exact own_seq I.sat hr
        | ptr => exact absurd (noPt_get hpt hx) (by simp [T.isPt])
        | view => exact absurd (noPt_get hpt hx) (by simp [T.isPt])
        | hpt => exact absurd (noPt_get hpt hx) (by simp [T.isPt])
        | hvw => exact absurd (noPt_get hpt hx) (by simp [T.isPt])
        | mpt => exact absurd (noPt_get hpt hx) (by simp [T.isPt])
    · rw [upd_other ht]
      refine RepA.keep K (fun j e => ht e) (fun b off e _ => ?_) (I.slots t)
      have hbs : b ≠ s := fun e' => hno t off (by rw [e, e'])
      exact ⟨hbs, fun ⟨l, hl⟩ => ⟨l, by rw [upd_other hbs, hl]⟩⟩
def noRefTo (s : Nat) : SL → Bool
  | [] => true
  | (_, x) :: r => (match x with | .ref b _ => b != s | _ => true) && noRefTo s r
theorem noRefTo_of {s : Nat} {L : SL} (h : noRefTo s L = true) (t off : Nat) : gt L t ≠ .ref s off := by
  induction L with
  | nil => intro h; cases h
  | cons x r ih =>
    obtain ⟨t', y⟩ := x
    simp only [noRefTo, Bool.and_eq_true] at h
    rw [gt_cons, upd]
    split
    · intro e
      rw [e] at h
      simp at h
    · exact ih h.2
/-- From here on the variable of slot s doesn't change. -/
theorem c_fz {c : Code} {Q : Exit → SL → Prop} {L : SL} (s : Nat) {l : List T} (z : A) (hb : gt L s = .box l) (hp : (pins.contains s || !Nat.blt s OB) = false) (hr : (noRefTo s L && noPt l) = true) (hz : A.imm (l.map frzD) = z) (h : CodeOK P pins N c Q ((s, z) :: L)) : CodeOK P pins N c Q L := by
  subst hz
  intro w0 m0 o0 G a w hS
  obtain ⟨hN, hlo, m, o, I⟩ := hS
  rw [Bool.or_eq_false_iff] at hp
  rw [Bool.and_eq_true] at hr
  obtain ⟨m', o', J⟩ := I.freeze s (by simpa using hp.2) (by simpa using hp.1) hr.2 (hx_of hb (by simp)) (fun t off e => noRefTo_of hr.1 t off (hx_ref e))
  exact h w0 m0 o0 G a w ⟨hN, by rw [gt_cons]; exact hlo.upd (lt2 (by simpa using hp.2)), m', o', by rw [gt_cons, hx_upd (.inl (by simpa using hp.2))]; exact J⟩

/-- What slots hold the addresses of. -/
def capsF (M : Nat → A) : List Operand → Option (List (List D))
  | [] => some []
  | x :: r => match cpO M x, capsF M r with
    | .imm l, some k => some (l :: k)
    | _, _ => none
theorem capsF_get (hM : Mk M S) (I : Inv w0 m0 o0 G pins S a w m o) : ∀ {xs : List Operand} {caps : List (List D)}, capsF M xs = some caps → xs.length = caps.length ∧ ∀ i l, caps[i]? = some l → RepA m w o S 0 (.imm l) ((xs.map a.eval).getD i undef)
  | [], caps, h => by injection h with h; subst h; exact ⟨rfl, fun i l h => by simp at h⟩
  | x :: r, caps, h => by
    unfold capsF at h
    split at h
    case h_2 => cases h
    rename_i l k h1 h2
    injection h with h
    subst h
    obtain ⟨k1, k2⟩ := capsF_get hM I h2
    refine ⟨by simpa using k1, fun i l' hi => ?_⟩
    cases i with
    | zero =>
      injection hi with hi
      subst hi
      have := cpO_rep hM I x 0
      rw [h1] at this
      simpa using this
    | succ i => simpa using k2 i l' (by simpa using hi)
theorem clo_rep {m : Mem} {f : FuncId} {caps : List (List D)} {ptrs : Array Value} (hsz : ptrs.size = caps.length) (h : ∀ (i : Nat) (l : List D), caps[i]? = some l → ∃ g p, ptrs[i]? = some (Value.pointer (some ⟨g, p, none⟩)) ∧ ∀ (j : Nat) (d : D), l[j]? = some d → ∃ u, m g (p + j) = some u ∧ RepD m d u) : RepD m (.clo f caps) (.func (.func f) #[] ptrs) := by
  have H : ∀ i : Nat, ∃ x : Nat × Nat, ∀ l : List D, caps[i]? = some l → ptrs[i]? = some (Value.pointer (some ⟨x.1, x.2, none⟩)) ∧ ∀ (j : Nat) (d : D), l[j]? = some d → ∃ u, m x.1 (x.2 + j) = some u ∧ RepD m d u := by
    intro i
    cases hc : caps[i]? with
    | none => exact ⟨(0, 0), fun l h => by cases h⟩
    | some l =>
      obtain ⟨g, p, h1, h2⟩ := h i l hc
      exact ⟨(g, p), fun l' h => by injection h with h; subst h; exact ⟨h1, h2⟩⟩
  refine .clo f caps ptrs (fun i => (H i).choose.1) (fun i => (H i).choose.2) (fun i j => (m (H i).choose.1 ((H i).choose.2 + j)).getD undef) hsz (fun i r hr => ((H i).choose_spec r hr).1) (fun i r j d hr hd => ?_) (fun i r j d hr hd => ?_)
  · obtain ⟨u, h1, h2⟩ := ((H i).choose_spec r hr).2 j d hd
    rw [h1]; rfl
  · obtain ⟨u, h1, h2⟩ := ((H i).choose_spec r hr).2 j d hd
    rw [h1]; exact h2
theorem ok_mfc (hM : Mk M S) {op : Oper} {d f : Nat} {xs : List Operand} (hop : op.op = .makeFunc (.func f) #[] xs.toArray) (hd : op.dst = some d) (hok : okD N pins S d = true) {caps : List (List D)} (hc : capsF M xs = some caps) : OpOK P pins N op S (upd S d (.t (.d (.clo f caps)))) := by
  refine ok_of_run fun w0 m0 o0 G a w m o hN I => ?_
  obtain ⟨k1, k2, k3⟩ := okD_iff hok
  obtain ⟨c1, c2⟩ := capsF_get hM I hc
  have hrep : RepD m (.clo f caps) (.func (.func f) #[] (xs.map a.eval).toArray) := by
    refine clo_rep (by simpa using c1) fun i l hi => ?_
    have hlt : i < xs.length := by rw [c1]; exact (List.getElem?_eq_some_iff.1 hi).1
    obtain ⟨g, p, e, h⟩ := c2 i l hi
    refine ⟨g, p, ?_, h⟩
    rw [← e, List.getElem?_toArray, List.getD_eq_getElem?_getD, List.getElem?_eq_getElem (by simpa using hlt)]
    rfl
  refine ⟨.func (.func f) #[] (xs.map a.eval).toArray, w, m, o, ?_, by rw [hd]; exact I.set d _ _ (by omega) k2 hrep⟩
  unfold execOp
  rw [hop]
  simp [Instr.makeFunc]
/-- A call of a function that has caught variables. -/
theorem ok_callc (hM : Mk M S) {op : Oper} {d f : Nat} {xs : List Operand} {ts : Array TypeId} {fx : Operand} {caps : List (List D)} (hop : op.op = .call { callee := .value fx, args := xs.toArray, argTypes := ts }) (hfx : dO M fx = some (.clo f caps)) (hd : op.dst = some d) (hok : okD N pins S d = true) {fn : Func} (hfn : P.funcs[f]? = some fn) (hbody : fn.body.isNone = false) (hname : (fn.name == "runtime.NumGoroutine") = false)
    {args : List A} {r : A} (hargs : WkArgs (xs.map (cpO M)) args) (hp : args.all A.plain = true) (hf : FC P f (args ++ caps.map A.imm) [] r) (hnr : r.noRef = true) : OpOK P pins N op S (upd S d r) := by
  intro w0 m0 o0 G a w m o hN I K Q hK
  obtain ⟨h1, h2, h3⟩ := okD_iff hok
  have key : ∀ (xs : List Operand) (args : List A), WkArgs (xs.map (cpO M)) args → (xs.map a.eval).length = args.length ∧ ∀ i x, args[i]? = some x → ∃ s, RepA m w o S s x ((xs.map a.eval).getD i undef) := by
    intro xs
    induction xs with
    | nil => intro args h; cases h; exact ⟨rfl, fun i x h => by simp at h⟩
    | cons y ys ih =>
      intro args h
      cases h with
      | cons hx ht =>
        obtain ⟨k1, k2⟩ := ih _ ht
        refine ⟨by simpa using k1, fun i x hi => ?_⟩
        cases i with
        | zero => injection hi with hi; subst hi; exact ⟨0, hx.rep I.sat (cpO_rep hM I y 0)⟩
        | succ i => simpa using k2 i x (by simpa using hi)
  obtain ⟨k1, k2⟩ := key xs args hargs
  have hfv := dO_rep hM I hfx
  generalize hfe : a.eval fx = fv at hfv
  cases hfv with
  | clo _ _ ptrs g p fu q1 q2 q3 q4 =>
    have hpl : (args ++ caps.map A.imm).all A.plain = true := by
      rw [List.all_append, hp, Bool.true_and, List.all_eq_true]
      intro x hx
      obtain ⟨l, _, rfl⟩ := List.mem_map.1 hx
      rfl
    have hc := call_plain I hf hpl (vals := (xs.map a.eval).toArray ++ ptrs) (by simp [q1]; simpa using k1) (fun i x hi => by
      rw [List.getElem?_append] at hi
      rw [Array.getD_eq_getD_getElem?, Array.getElem?_append]
      split at hi
      · rename_i hlt
        rw [if_pos (by simp at k1 ⊢; omega)]
        have := k2 i x hi
        simpa [List.getD_eq_getElem?_getD] using this
      · rename_i hlt
        rw [if_neg (by simp at k1 ⊢; omega)]
        rw [List.getElem?_map] at hi
        cases hc : caps[i - args.length]? with
        | none => rw [hc] at hi; cases hi
        | some l =>
          rw [hc] at hi
          injection hi with hi
          subst hi
          have e : i - (xs.map a.eval).toArray.size = i - args.length := by simp at k1 ⊢; omega
          rw [e, q2 _ l hc]
          exact ⟨0, g _, p _, rfl, fun j d hj => ⟨_, q3 _ l j d hc hj, q4 _ l j d hc hj⟩⟩) (d := d) (by omega) h2 h3 hnr
    unfold Oper.wp
    have hrun : (execOp a.eval op).run P w = .ok (.enter f ((xs.map a.eval).toArray ++ ptrs)) w := by
      unfold execOp
      rw [hop]
      simp only [resolve, hfe, Deferred.ofValue, List.map_toArray]
      have hb : fn.body ≠ none := fun e => by rw [e] at hbody; cases hbody
      have hn : fn.name ≠ "runtime.NumGoroutine" := fun e => by rw [e] at hname; simp at hname
      simp [invoke, callFunc, hfn, hn, hb]
    rw [hrun]
    refine Calls.mono hc ?_
    rintro e w' ⟨u, m', o', rfl, J⟩
    rw [← hd] at J
    exact hK _ _ _ _ (by rw [put_size, hN]) J
end
section
variable {P : Program} {pins : List Nat} {N : Nat} {ops : Array Oper} {Q : SL → Prop} {r : List Oper} {op : Oper} {L : SL}
theorem o_mfc {d f : Nat} {xs : List Operand} {caps : List (List D)} (x : A) (hy : yes ops op L true) (hop : op.op = .makeFunc (.func f) #[] xs.toArray) (hd : op.dst = some d) (hok : okD N pins (gt L) d = true) (hc : capsF (gt L) xs = some caps) (hx : A.t (.d (.clo f caps)) = x) (k : OpsOK P pins N ops Q r ((d, x) :: L)) : OpsOK P pins N ops Q (op :: r) L := by
  subst hx
  exact o_of (e := [(d, _)]) hy (.of (e := [(d, _)]) fun hN => ⟨ok_mfc (Mk_hx _) hop hd (okD_hx hN hok) hc, eff_1 (okD_lo hN hok)⟩) rfl k
theorem o_cc {d f : Nat} {xs : List Operand} {ts : Array TypeId} {args : List A} {caps : List (List D)} {y : A} (hf : FC P f (args ++ caps.map A.imm) [] y) (hy : yes ops op L true) {fx : Operand} (hop : op.op = .call { callee := .value fx, args := xs.toArray, argTypes := ts }) (hfx : dO (gt L) fx = some (.clo f caps)) (hd : op.dst = some d) (hok : okD N pins (gt L) d = true)
    {fn : Func} (hfn : P.funcs[f]? = some fn) (hbody : fn.body.isNone = false) (hname : (fn.name == "runtime.NumGoroutine") = false) (hargs : WkArgs (xs.map (cpO (gt L))) args) (hp : args.all A.plain = true) (hnr : y.noRef = true) (k : OpsOK P pins N ops Q r ((d, y) :: L)) : OpsOK P pins N ops Q (op :: r) L :=
  o_of (e := [(d, y)]) hy (.of (e := [(d, y)]) fun hN => ⟨ok_callc (Mk_hx _) hop hfx hd (okD_hx hN hok) hfn hbody hname hargs hp hf hnr, eff_1 (okD_lo hN hok)⟩) rfl k
end
section
variable {P : Program} {pins : List Nat} {N : Nat} {l0 : List Oper} {Q : SL → Prop} {r : List Oper} {op : Oper} {L : SL} {acc : List (List Nat × List Nat)} {T : List Nat}
theorem d_mfc {d f : Nat} {xs : List Operand} {caps : List (List D)} (x : A) (hT : frcNs (touch l0.toArray (gt L) op) some = some T) (hy : dyes l0 op L T) (hop : op.op = .makeFunc (.func f) #[] xs.toArray) (hd : op.dst = some d) (hdT : T.contains d = true) (hok : okD N pins (gt L) d = true) (hc : capsF (mask T (gt L)) xs = some caps) (hx : A.t (.d (.clo f caps)) = x) (k : DOK P pins N l0 Q r ((T, [d]) :: acc) ((d, x) :: L)) : DOK P pins N l0 Q (op :: r) acc L := by
  subst hx
  exact d_of (ks := [d]) hT hy (e := [(d, _)]) rfl (by simp only [List.all_cons, List.all_nil, hdT]; rfl) (fun S' hS => have hok := d_mf.okD_of hS (by simpa using hdT) hok; .of (e := [(d, _)]) fun hN => ⟨ok_mfc (mask_Mk hS).hx hop hd (okD_hx hN hok) hc, eff_1 (okD_lo hN hok)⟩) rfl k
theorem d_cc {d f : Nat} {xs : List Operand} {ts : Array TypeId} {args : List A} {caps : List (List D)} {y : A} (hf : FC P f (args ++ caps.map A.imm) [] y) (hT : frcNs (touch l0.toArray (gt L) op) some = some T) (hy : dyes l0 op L T) {fx : Operand} (hop : op.op = .call { callee := .value fx, args := xs.toArray, argTypes := ts }) (hfx : dO (mask T (gt L)) fx = some (.clo f caps)) (hd : op.dst = some d) (hdT : T.contains d = true) (hok : okD N pins (gt L) d = true)
    {fn : Func} (hfn : P.funcs[f]? = some fn) (hbody : fn.body.isNone = false) (hname : (fn.name == "runtime.NumGoroutine") = false) (hargs : WkArgs (xs.map (cpO (mask T (gt L)))) args) (hp : args.all A.plain = true) (hnr : y.noRef = true) (k : DOK P pins N l0 Q r ((T, [d]) :: acc) ((d, y) :: L)) : DOK P pins N l0 Q (op :: r) acc L :=
  d_of (ks := [d]) hT hy (e := [(d, y)]) rfl (by simp only [List.all_cons, List.all_nil, hdT]; rfl) (fun S' hS => have hok := d_mf.okD_of hS (by simpa using hdT) hok; .of (e := [(d, y)]) fun hN => ⟨ok_callc (mask_Mk hS).hx hop hfx hd (okD_hx hN hok) hfn hbody hname hargs hp hf hnr, eff_1 (okD_lo hN hok)⟩) rfl k
end
end Go.Proofs.Ytikaahmonocahaa

/-
  The values of the codec as plain Lean data.
-/
namespace Go.Proofs.Ytikaahmonocahaa

/-- A value: its kind, its number, its bytes, its items. -/
inductive V where
  | mk (k n : Int) (b : List UInt8) (l : List V)

namespace V
def k : V → Int | .mk k _ _ _ => k
def n : V → Int | .mk _ n _ _ => n
def b : V → List UInt8 | .mk _ _ b _ => b
def l : V → List V | .mk _ _ _ l => l
theorem eta (v : V) : V.mk v.k v.n v.b v.l = v := by cases v; rfl
/-- The height of a value: for inductions. -/
def ht : V → Nat
  | .mk _ _ _ l => hts l + 1
where hts : List V → Nat
  | [] => 0
  | x :: r => max (ht x) (hts r)
theorem ht_le_hts : ∀ (l : List V) (x : V), x ∈ l → ht x ≤ ht.hts l
  | y :: r, x, h => by
    simp only [ht.hts]
    rcases List.mem_cons.1 h with rfl | h
    · omega
    · have := ht_le_hts r x h; omega
theorem ht_item (v x : V) (h : x ∈ v.l) : ht x < ht v := by
  cases v with
  | mk k n b l =>
    have := ht_le_hts l x h
    simp only [ht]
    omega
/-- How much a value holds. -/
def wt : V → Nat
  | .mk _ _ b l => b.length + wts l + 1
where wts : List V → Nat
  | [] => 0
  | x :: r => wt x + wts r
theorem wt_eq (v : V) : v.wt = v.b.length + wt.wts v.l + 1 := by cases v; simp [wt, V.b, V.l]
theorem wt_pos (v : V) : 0 < v.wt := by rw [wt_eq]; omega
theorem wt_le_wts : ∀ (l : List V) (x : V), x ∈ l → wt x ≤ wt.wts l
  | y :: r, x, h => by
    simp only [wt.wts]
    rcases List.mem_cons.1 h with rfl | h
    · omega
    · have := wt_le_wts r x h; omega
theorem len_le_wts : ∀ l : List V, l.length ≤ wt.wts l
  | [] => Nat.zero_le _
  | x :: r => by
    have := len_le_wts r
    have := wt_pos x
    simp only [wt.wts, List.length_cons]
    omega
theorem wt_item (v x : V) (h : x ∈ v.l) : x.wt < v.wt := by
  have := wt_le_wts v.l x h
  rw [wt_eq v]
  omega
theorem len_b (v : V) : v.b.length < v.wt := by rw [wt_eq]; omega
theorem len_l (v : V) : v.l.length < v.wt := by have := len_le_wts v.l; rw [wt_eq]; omega
theorem hts_le_wts : ∀ (d : Nat) (l : List V), wt.wts l ≤ d → ht.hts l ≤ wt.wts l
  | 0, [], _ => Nat.le_refl _
  | 0, x :: r, h => by have := wt_pos x; simp only [wt.wts] at h; omega
  | d + 1, [], _ => Nat.zero_le _
  | d + 1, .mk k n b l :: r, h => by
    simp only [wt.wts, wt] at h
    have h1 := hts_le_wts d l (by omega)
    have h2 := hts_le_wts d r (by omega)
    simp only [ht.hts, ht, wt.wts, wt]
    omega
theorem ht_le_wt (v : V) : v.ht ≤ v.wt := by
  cases v with
  | mk k n b l =>
    have := hts_le_wts _ l (Nat.le_refl _)
    simp only [ht, wt]
    omega
theorem ht_pos (v : V) : 0 < ht v := by cases v; simp [ht]
/-- Every slice in a value is as long as a slice may be. -/
inductive Fit : V → Prop
  | mk (v : V) (h1 : v.b.length ≤ 9223372036854775807) (h2 : v.l.length ≤ 9223372036854775807) (h : ∀ x, x ∈ v.l → Fit x) : Fit v
theorem Fit.len {v : V} (h : Fit v) : v.l.length ≤ 9223372036854775807 := by cases h; assumption
theorem Fit.lenb {v : V} (h : Fit v) : v.b.length ≤ 9223372036854775807 := by cases h; assumption
theorem Fit.item {v x : V} (h : Fit v) (hx : x ∈ v.l) : Fit x := by
  cases h with
  | mk _ _ _ h => exact h x hx
end V
end Go.Proofs.Ytikaahmonocahaa

/-
  How deep a value is, plain.
-/
namespace Go.Proofs.Ytikaahmonocahaa

namespace V
/-- How deep a value is. -/
def deep : V → Nat
  | .mk k _ _ l => if k = 3 then dm l 1 else 0
where dm : List V → Nat → Nat
  | [], d => d
  | x :: r, d => dm r (max d (deep x + 1))
theorem dm_le : ∀ (l : List V) (d m : Nat), (∀ x ∈ l, deep x + 1 ≤ m) → d ≤ m → deep.dm l d ≤ m
  | [], _, _, _, h => h
  | x :: r, d, m, hl, h => by
    rw [deep.dm]
    exact dm_le r _ m (fun y hy => hl y (List.mem_cons_of_mem _ hy)) (Nat.max_le.2 ⟨h, hl x List.mem_cons_self⟩)
theorem deep_le_ht : ∀ (d : Nat) (v : V), v.ht ≤ d → v.deep ≤ v.ht
  | 0, v, h => absurd (ht_pos v) (by omega)
  | d + 1, .mk k n b l, h => by
    rw [deep]
    split
    · refine dm_le l 1 _ (fun x hx => ?_) (ht_pos _)
      have h1 := ht_item (.mk k n b l) x hx
      have h2 := deep_le_ht d x (by omega)
      omega
    · omega
theorem deep_item (v x : V) (h : x ∈ v.l) : x.deep + 1 ≤ v.ht := by
  have h1 := ht_item v x h
  have h2 := deep_le_ht _ x (Nat.le_refl _)
  omega
theorem deep_eq (v : V) (h : v.k = 3) : v.deep = deep.dm v.l 1 := by cases v; simp [V.k] at h; simp [deep, h, V.l]
theorem dm_drop (l : List V) (k d : Nat) (h : k < l.length) : deep.dm (l.drop k) d = deep.dm (l.drop (k + 1)) (max d (deep l[k] + 1)) := by
  rw [List.drop_eq_getElem_cons h, deep.dm]
/-- The depth, cut off behind m more levels. -/
def dn (m : Nat) : List V → Nat → Nat
  | [], d => d
  | x :: r, d => dn m r (max d (1 + min (deep x) m))
theorem dn_eq (m : Nat) : ∀ (l : List V) (d : Nat), dn m l (min d (m + 1)) = min (deep.dm l d) (m + 1)
  | [], d => rfl
  | x :: r, d => by
    rw [dn, deep.dm, ← dn_eq m r]
    congr 1
    omega
theorem dn_drop (m : Nat) (l : List V) (k d : Nat) (h : k < l.length) : dn m (l.drop k) d = dn m (l.drop (k + 1)) (max d (1 + min (deep l[k]) m)) := by
  rw [List.drop_eq_getElem_cons h, dn]
theorem deep_zero (v : V) (h : ¬ v.k = 3) : v.deep = 0 := by cases v; simp [k] at h; simp [deep, h]
end V
end Go.Proofs.Ytikaahmonocahaa
