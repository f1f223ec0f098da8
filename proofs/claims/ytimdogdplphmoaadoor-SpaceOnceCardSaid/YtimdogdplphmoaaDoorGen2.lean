/-
  More operations for walks that a program writes: functions as values, empty slices, two structs held against each other, a slice held against nil.
-/
import Derived.Test.YtimdogdplphmoaaDoorGen
import Derived.Test.YtimdogdplphmoaaDoorBe
import Derived.Laws.StructEq
import Derived.Lib.SliceRun
namespace Go.Proofs.YtimdogdplphmoaaDoor
open Go Go.RowKit
set_option linter.unusedVariables false

section
variable {P : Program} {pins : List Nat} {N : Nat} {S M : Nat → A}
theorem ok_mf {op : Oper} {d f : Nat} (hop : op.op = .makeFunc (.func f) #[] #[]) (hd : op.dst = some d) (hok : okD N pins S d = true) : OpOK P pins N op S (upd S d (.t (.d (.lit (.func (.func f) #[] #[]))))) := by
  refine ok_of_run fun w0 m0 o0 G a w m o hN I => ?_
  obtain ⟨k1, k2, k3⟩ := okD_iff hok
  refine ⟨.func (.func f) #[] #[], w, m, o, ?_, by rw [hd]; exact I.set d _ _ (by omega) k2 (.lit _ rfl)⟩
  unfold execOp
  rw [hop]
  simp [Instr.makeFunc]
theorem ok_b0 {op : Oper} {d t e sz nb : Nat} (hop : op.op = .buildSlice t 0 #[]) (hd : op.dst = some d) (hok : okD N pins S d = true) (hE : elF P t = some (e, sz, nb)) : OpOK P pins N op S (upd S d (.t (.own e sz []))) := by
  refine ok_of_run fun w0 m0 o0 G a w m o hN I => ?_
  obtain ⟨h1, h2, h3⟩ := okD_iff hok
  have E := elF_of hE
  obtain ⟨i, z, hi, hz, rfl, rfl, hzs⟩ := E.info
  have hown : Own (w.alloc (.cells #[] e)) 0 e i.size (some ⟨w.heap.size, 0, none⟩) 0 0 [] := by
    have := Own.lit (B := 0) w #[] e i.size 0 (Nat.zero_le _) (by unfold maxLen; omega) (by simp)
    simpa using this
  refine ⟨.slice (some ⟨w.heap.size, 0, none⟩) 0 0, w.alloc (.cells #[] e), _, _, ?_, by
    rw [hd]
    refine I.own_put d _ _ (fun p => ([] : List Value)[p]?) w.heap.size _ (by omega) h2 h3 (I.free (Nat.le_refl _)) (I.newG (Nat.le_refl _)) ((Same.alloc (fun _ => False) w _).weaken (fun _ h => h.elim)) (by simp) (fun p u h => by rw [I.mem_none (Nat.le_refl _)] at h; cases h) (fun p u hp => Own.cellAt hown rfl hp) ?_
    exact ⟨some ⟨w.heap.size, 0, none⟩, 0, [], rfl, hown, fun g hg => by injection hg with hg; subst hg; exact ⟨newO_same _ _ _, fun p => newM_same _ _ _ _⟩, fun i r h => by simp at h, fun i r j d h => by simp at h⟩⟩
  unfold execOp
  rw [hop]
  simp [Instr.buildSlice, run_underlying E.under, sizeOf, typeInfo, hi, Instr.fill, newRow]
  rw [show Array.range 0 = #[] from by simp [Array.range]]
  simp

/-! ### Two structs held against each other -/
def eqV : Value → Value → TypeDesc → Option Bool
  | .int k a, .int k' b, .int _ => if k = k' then some (a == b) else none
  | .bool a, .bool b, .bool => some (a == b)
  | .string a, .string b, .string => some (a.toList == b.toList)
  | _, _, _ => none
def eqFs (P : Program) : List Field → List D → List D → Option Bool
  | [], _, _ => some true
  | f :: fs, xs, ys => if f.name = "_" then none else match xs[f.offset]?, ys[f.offset]?, P.underlying f.type, P.info? f.type with
    | some (.lit u), some (.lit v), some t, some i => if i.size = 1 ∧ TypeDesc.aggr t = false then match eqV u v t, eqFs P fs xs ys with
      | some b, some c => some (b && c)
      | _, _ => none
      else none
    | _, _, _, _ => none
theorem eqV_run {u v : Value} {td : TypeDesc} {b : Bool} (h : eqV u v td = some b) {t : TypeId} (ht : P.underlying t = some td) (w : World) (d : Nat) : (Op.equalIn (d + 1) t u v).run P w = .ok b w := by
  unfold eqV at h
  split at h
  · split at h
    · rename_i hk
      subst hk
      injection h with h
      rw [run_equalIn_int w d t _ _ _ _ ht, h]
    · cases h
  · injection h with h
    rw [run_equalIn_bool w d t _ _ ht, h]
  · injection h with h
    rw [run_equalIn_string w d t _ _ ht, h]
  · cases h
theorem part_run {t : TypeId} {td : TypeDesc} {i : TypeInfo} (ht : P.underlying t = some td) (hi : P.info? t = some i) (h1 : i.size = 1) (ha : TypeDesc.aggr td = false) {xs : Array Value} {off : Nat} {u : Value} (hu : xs[off]? = some u) (w : World) : (part t xs off).run P w = .ok u w := by
  simp [part, run_isAgg ht, ha, hu]
theorem eqFs_run {m : Mem} {xs ys : List D} {us vs : Array Value} (hx : RepL m xs us.toList) (hy : RepL m ys vs.toList) (w : World) (d : Nat) : ∀ (fs : List Field) (b : Bool), eqFs P fs xs ys = some b → (Op.eqFields (d + 1) us vs fs).run P w = .ok b w
  | [], b, h => by
    injection h with h
    subst h
    rfl
  | f :: fs, b, h => by
    unfold eqFs at h
    split at h
    · cases h
    rename_i hn
    split at h
    case h_2 => cases h
    rename_i u v t i h1 h2 h3 h4
    split at h
    case isFalse => cases h
    rename_i hc
    split at h
    case h_2 => cases h
    rename_i b1 c h5 h6
    injection h with h
    subst h
    have ih := eqFs_run hx hy w d fs c h6
    obtain ⟨u', k1, k2⟩ := hx.2 _ _ h1
    obtain ⟨v', k3, k4⟩ := hy.2 _ _ h2
    cases k2
    cases k4
    simp only [Op.eqFields, if_pos hn, Sem.run_bind, part_run h3 h4 hc.1 hc.2 (by simpa using k1) w, part_run h3 h4 hc.1 hc.2 (by simpa using k3) w, Result.andThen_ok, eqV_run h5 h3 w d]
    cases b1
    · rfl
    · simp [ih]
def eqS (P : Program) (M : Nat → A) (t : TypeId) (x y : Operand) : Option Bool := match cpO M x, cpO M y with
  | .t (.agg xs), .t (.agg ys) => match P.underlying t with
    | some (.struct fs) => if P.stoodInHeld t = false ∧ P.eqGuardType P.depth t = false then eqFs P fs.toList xs ys else none
    | _ => none
  | _, _ => none
theorem ok_eqs (hM : Mk M S) {op : Oper} {bop : BinOp} {d t yt : Nat} {x y : Operand} (ng : Bool) (hb : bop = bif ng then .neq else .eql) (hop : op.op = .binOp bop t x y yt) (hd : op.dst = some d) (hok : okD N pins S d = true) {b : Bool} (h : eqS P M t x y = some b) : OpOK P pins N op S (upd S d (.t (.d (.lit (.bool (ng ^^ b)))))) := by
  refine ok_of_run fun w0 m0 o0 G a w m o hN I => ?_
  obtain ⟨k1, k2, k3⟩ := okD_iff hok
  unfold eqS at h
  split at h
  case h_2 => cases h
  rename_i xs ys hx hy
  split at h
  case h_2 => cases h
  rename_i fs hu
  split at h
  case isFalse => cases h
  rename_i hc
  have ex := cpO_rep hM I x 0
  have ey := cpO_rep hM I y 0
  rw [hx] at ex
  rw [hy] at ey
  obtain ⟨us, e1, r1⟩ := ex
  obtain ⟨vs, e2, r2⟩ := ey
  have hf : P.fieldsOf t = fs := by unfold Program.fieldsOf; rw [hu]
  have hrun := eqFs_run (P := P) r1 r2 w 9998 fs.toList b h
  have hag := run_equalIn_agg (P := P) w 9999 t us vs (by rw [hf]; exact hu) hc.1
  rw [hf] at hag
  refine ⟨.bool (ng ^^ b), w, m, o, ?_, by rw [hd]; exact I.set d _ _ (by omega) k2 (.lit _ rfl)⟩
  unfold execOp
  rw [hop]
  simp only [Sem.run_bind]
  rw [e1, e2, run_eqGuard_agg w bop t x y us vs hc.2, Result.andThen_ok]
  subst hb
  cases ng
  · show Result.andThen ((binOp .eql t (.agg us) (.agg vs)).run P w) _ = _
    rw [run_eql_struct, hag, hrun]
    simp
  · show Result.andThen ((binOp .neq t (.agg us) (.agg vs)).run P w) _ = _
    rw [run_neq_struct, hag, hrun]
    simp
end

section
variable {P : Program} {pins : List Nat} {N : Nat} {ops : Array Oper} {Q : SL → Prop} {r : List Oper} {op : Oper} {L : SL}
theorem o_mf {d f : Nat} (hy : yes ops op L true) (hop : op.op = .makeFunc (.func f) #[] #[]) (hd : op.dst = some d) (hok : okD N pins (gt L) d = true) (k : OpsOK P pins N ops Q r ((d, .t (.d (.lit (.func (.func f) #[] #[])))) :: L)) : OpsOK P pins N ops Q (op :: r) L :=
  o_of (e := [(d, _)]) hy (.of (e := [(d, _)]) fun hN => ⟨ok_mf hop hd (okD_hx hN hok), eff_1 (okD_lo hN hok)⟩) rfl k
theorem o_b0 {d t e sz nb : Nat} (x : A) (hy : yes ops op L true) (hop : op.op = .buildSlice t 0 #[]) (hd : op.dst = some d) (hok : okD N pins (gt L) d = true) (hE : elF P t = some (e, sz, nb)) (hx : A.t (.own e sz []) = x) (k : OpsOK P pins N ops Q r ((d, x) :: L)) : OpsOK P pins N ops Q (op :: r) L := by
  subst hx
  exact o_of (e := [(d, _)]) hy (.of (e := [(d, _)]) fun hN => ⟨ok_b0 hop hd (okD_hx hN hok) hE, eff_1 (okD_lo hN hok)⟩) rfl k
theorem o_eqs {bop : BinOp} {d t yt : Nat} {x y : Operand} {b b' : Bool} (ng : Bool) (he : b = b') (hy : yes ops op L true) (hop : op.op = .binOp bop t x y yt) (hb : bop = bif ng then .neq else .eql) (hd : op.dst = some d) (hok : okD N pins (gt L) d = true) (h : eqS P (gt L) t x y = some b) (z : Bool) (hz : (ng ^^ b') = z) (k : OpsOK P pins N ops Q r ((d, .t (.d (.lit (.bool z)))) :: L)) : OpsOK P pins N ops Q (op :: r) L := by
  subst hz he
  exact o_of (e := [(d, _)]) hy (.of (e := [(d, _)]) fun hN => ⟨ok_eqs (Mk_hx _) ng hb hop hd (okD_hx hN hok) h, eff_1 (okD_lo hN hok)⟩) rfl k
end
section
variable {P : Program} {pins : List Nat} {N : Nat} {l0 : List Oper} {Q : SL → Prop} {r : List Oper} {op : Oper} {L : SL} {acc : List (List Nat × List Nat)} {T : List Nat}
theorem d_mf {d f : Nat} (hT : frcNs (touch l0.toArray (gt L) op) some = some T) (hy : dyes l0 op L T) (hop : op.op = .makeFunc (.func f) #[] #[]) (hd : op.dst = some d) (hdT : T.contains d = true) (hok : okD N pins (gt L) d = true) (k : DOK P pins N l0 Q r ((T, [d]) :: acc) ((d, .t (.d (.lit (.func (.func f) #[] #[])))) :: L)) : DOK P pins N l0 Q (op :: r) acc L :=
  d_of (ks := [d]) hT hy (e := [(d, _)]) rfl (by simp only [List.all_cons, List.all_nil, hdT]; rfl) (fun S' hS => have hok := okD_of hS (by simpa using hdT) hok; .of (e := [(d, _)]) fun hN => ⟨ok_mf hop hd (okD_hx hN hok), eff_1 (okD_lo hN hok)⟩) rfl k
where
  okD_of {S' : Nat → A} {L : SL} {T : List Nat} {d : Nat} (hS : ∀ t ∈ T, S' t = gt L t) (hdT : d ∈ T) (hok : okD N pins (gt L) d = true) : okD N pins S' d = true := by
    unfold okD at hok ⊢
    rw [hS d hdT]
    exact hok
theorem d_b0 {d t e sz nb : Nat} (x : A) (hT : frcNs (touch l0.toArray (gt L) op) some = some T) (hy : dyes l0 op L T) (hop : op.op = .buildSlice t 0 #[]) (hd : op.dst = some d) (hdT : T.contains d = true) (hok : okD N pins (gt L) d = true) (hE : elF P t = some (e, sz, nb)) (hx : A.t (.own e sz []) = x) (k : DOK P pins N l0 Q r ((T, [d]) :: acc) ((d, x) :: L)) : DOK P pins N l0 Q (op :: r) acc L := by
  subst hx
  exact d_of (ks := [d]) hT hy (e := [(d, _)]) rfl (by simp only [List.all_cons, List.all_nil, hdT]; rfl) (fun S' hS => have hok := d_mf.okD_of hS (by simpa using hdT) hok; .of (e := [(d, _)]) fun hN => ⟨ok_b0 hop hd (okD_hx hN hok) hE, eff_1 (okD_lo hN hok)⟩) rfl k
theorem d_eqs {bop : BinOp} {d t yt : Nat} {x y : Operand} {b b' : Bool} (ng : Bool) (he : b = b') (hT : frcNs (touch l0.toArray (gt L) op) some = some T) (hy : dyes l0 op L T) (hop : op.op = .binOp bop t x y yt) (hb : bop = bif ng then .neq else .eql) (hd : op.dst = some d) (hdT : T.contains d = true) (hok : okD N pins (gt L) d = true) (h : eqS P (mask T (gt L)) t x y = some b) (z : Bool) (hz : (ng ^^ b') = z) (k : DOK P pins N l0 Q r ((T, [d]) :: acc) ((d, .t (.d (.lit (.bool z)))) :: L)) : DOK P pins N l0 Q (op :: r) acc L := by
  subst hz he
  exact d_of (ks := [d]) hT hy (e := [(d, _)]) rfl (by simp only [List.all_cons, List.all_nil, hdT]; rfl) (fun S' hS => have hok := d_mf.okD_of hS (by simpa using hdT) hok; .of (e := [(d, _)]) fun hN => ⟨ok_eqs (mask_Mk hS).hx ng hb hop hd (okD_hx hN hok) h, eff_1 (okD_lo hN hok)⟩) rfl k
end

/-! ### A slice held against nil, as a region's last operation -/
section
variable {P : Program} {pins : List Nat} {N : Nat}
theorem ops_tail {w0 : World} {m0 : Mem} {o0 : OwnM} {G : Nat → Prop} {ops : Array Oper} {Q : SL → Prop} {tail : List Oper} {R : Exit → Act → World → Prop} (hQ : ∀ L a w, Q L → St w0 m0 o0 G pins N L a w → wpList P ops R tail a w) : ∀ (l : List Oper) (L : SL) (a : Act) (w : World), OpsOK P pins N ops Q l L → St w0 m0 o0 G pins N L a w → wpList P ops R (l ++ tail) a w := by
  intro l
  induction l with
  | nil => intro L a w h hS; exact hQ L a w h hS
  | cons op r ih =>
    intro L a w h hS
    obtain ⟨b, hy, hb⟩ := h
    refine wpList_step fun K hK => ?_
    rw [wanted_yes hy hS]
    cases b with
    | true =>
      rw [if_pos rfl] at hb ⊢
      obtain ⟨L', hop, hr⟩ := hb
      obtain ⟨hN, hlo, m, o, I⟩ := hS
      obtain ⟨hop, hlo'⟩ := hop (by rw [← hN]; exact I.wide) hlo
      exact hop w0 m0 o0 G a w m o hN I K R fun a' w' m' o' hN' I' => hK _ _ (ih L' a' w' hr ⟨hN', hlo', m', o', I'⟩)
    | false =>
      rw [if_neg (by simp)] at hb ⊢
      obtain ⟨d, hd, hok, hr⟩ := hb
      obtain ⟨hN, hlo, m, o, I⟩ := hS
      have hNO : N ≤ OB := by rw [← hN]; exact I.wide
      obtain ⟨h1, h2, h3⟩ := okD_iff (okD_hx hNO hok)
      refine hK _ _ (ih _ _ w hr ⟨by rw [put_size, hN], by rw [gt_cons]; exact hlo.upd (by have := okD_lo hNO hok; unfold OB at this; unfold OB2; omega), m, o, ?_⟩)
      rw [hd, gt_cons, hx_upd (.inl (okD_lo hNO hok))]
      exact I.set d (.tup []) undef (by omega) h2 ⟨#[], rfl, rfl, fun j x h => by simp at h⟩
theorem c_nil {id : Nat} {l1 : List Oper} {op : Oper} {d t yt e k : Nat} {x : Operand} {l : List (List D)} {Q : Exit → SL → Prop} {L : SL} (hop : op.op = .binOp .eql t x (.const (.slice none 0 0)) yt) (hg : op.guard = none) (hd : op.dst = some d) (ht : P.underlying t = some (.slice e))
    (h : OpsOK P pins N (l1 ++ [op]).toArray (fun L1 => okD N pins (gt L1) d = true ∧ dO (gt L1) x = some (.seq k l) ∧ ∀ b : Bool, (b = true → l = []) → Q .normal ((d, .t (.d (.lit (.bool b)))) :: L1)) l1 L) : CodeOK P pins N (.region id (l1 ++ [op]).toArray false) Q L := by
  intro w0 m0 o0 G a w hS
  refine wp_region_lit (ops_tail (fun L1 a w hq hS => ?_) l1 L a w h hS)
  obtain ⟨hok, hxd, hb⟩ := hq
  obtain ⟨hN, hlo, m, o, I⟩ := hS
  have hNO : N ≤ OB := by rw [← hN]; exact I.wide
  obtain ⟨h1, h2, h3⟩ := okD_iff (okD_hx hNO hok)
  refine wpList_step fun K hK => ?_
  have hw : Region.wanted op (yielded (l1 ++ [op]).toArray a.tmps) = true := by unfold Region.wanted; rw [hg]
  rw [hw, if_pos rfl]
  have hr := dO_rep (Mk_hx _) I hxd
  have key : ∀ v, RepD m (.seq k l) v → ∃ b : Bool, (b = true → l = []) ∧ ∀ y : Operand, (do eqGuard .eql t x y v (.slice none 0 0); binOp .eql t v (.slice none 0 0)).run P w = .ok (.bool b) w := by
    intro v hv
    cases hv with
    | seq _ _ A' cap g o f hcap hmax hA hw hm hr =>
      refine ⟨A'.isNone, fun hb => ?_, fun y => ?_⟩
      · by_cases hl : l = []
        · exact hl
        · rw [hA hl] at hb; cases hb
      · have hgd : (eqGuard .eql t x y (.slice A' l.length cap) (.slice none 0 0)).run P w = .ok () w := by
          unfold eqGuard
          rfl
        rw [Sem.run_bind, hgd, Result.andThen_ok]
        exact Go.Lib.run_eql_slice_nil w t e A' _ cap 0 0 ht
  obtain ⟨b, hbl, hrun⟩ := key _ hr
  unfold Oper.wp
  have hex : (execOp a.eval op).run P w = .ok (.value (.bool b)) w := by
    unfold execOp
    rw [hop]
    have := hrun (.const (.slice none 0 0))
    show Sem.run P (do pure (Next.value (← (do eqGuard .eql t x (.const (.slice none 0 0)) (a.eval x) (.slice none 0 0); binOp .eql t (a.eval x) (.slice none 0 0))))) w = _
    rw [Sem.run_bind, this]
    rfl
  rw [hex]
  refine hK _ _ (wpList_nil ⟨_, hb b hbl, by rw [put_size, hN], by rw [gt_cons]; exact hlo.upd (by have := okD_lo hNO hok; unfold OB at this; unfold OB2; omega), m, o, ?_⟩)
  rw [hd, gt_cons, hx_upd (.inl (okD_lo hNO hok))]
  exact I.set d _ _ (by omega) h2 (.lit _ rfl)
end
theorem andE {a b c d : Bool} (h : a = b) (k : c = d) : (a && c) = (b && d) := by rw [h, k]
/-- slices.Clone of bytes. -/
def m_slices_Clone_byte (l : List UInt8) : Option (List UInt8) := appI 1 [] l
/-- word.Put, where its arguments may be. -/
def m_word_Put (n size : Int) : Option (List UInt8 × Int) := if 0 ≤ n ∧ n ≤ 4611686018427387904 ∧ 1 ≤ size ∧ size ≤ 8 ∧ n.toNat < 256 ^ size.toNat then some (be size.toNat n.toNat, 0) else none
end Go.Proofs.YtimdogdplphmoaaDoor
