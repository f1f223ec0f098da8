/-
 An element of a package-level table whose cells are known.
-/
import Derived.Test.YtmgafkpkpmjieaaDoorK05
set_option linter.unusedVariables false
set_option linter.unusedSimpArgs false
namespace Go.Proofs.YtmgafkpkpmjieaaDoor
open Go Go.RowKit
set_option linter.unusedVariables false
def arrLen (P : Program) (t : TypeId) : Option Nat := match P.underlying t with
 | some (.array len e) => match P.info? e with
  | some ie => if ie.size = 1 then some len else none
  | none => none
 | _ => none
section
variable {P : Program} {pins : List Nat} {N : Nat} {S M : Nat → A}
theorem ok_gix (hM : Mk M S) {op : Oper} {d t g len : Nat} {i : Operand} {ki : IntKind} {n : Int} {u : Value} (hop : op.op = .indexAddr t (.global g) i) (hd : op.dst = some d) (hok : okD N pins S d = true) (hl : arrLen P t = some len) (hn : vO M i = some (.int ki n)) (hb : 0 ≤ n ∧ n < len) (hu : TBL g n.toNat = some u) (h1 : u.oneCell' = true) : OpOK P pins N op S (upd S d (.imm [.lit u])) := by
 refine zK fun w0 m0 o0 G a w m o hN I => ?_
 obtain ⟨k1, k2, k3⟩ := zS hok
 unfold arrLen at hl
 split at hl
 case h_2 => cases hl
 rename_i len' e hu'
 split at hl
 case h_2 => cases hl
 rename_i ie hie
 split at hl
 case isFalse => cases hl
 rename_i hsz
 injection hl with hl
 subst hl
 have hmem : m g n.toNat = some u := I.mono _ _ _ (I.tbl _ _ _ hu)
 have hrep : RepA m w o (upd S d (.imm [.lit u])) d (.imm [.lit u]) (.pointer (some ⟨g, 0 + n.toNat * 1, none⟩)) := by
  refine ⟨g, _, rfl, fun j d hj => ?_⟩
  cases j with
  | zero =>
   injection hj with hj
   subst hj
   exact ⟨u, by rw [Nat.zero_add, Nat.mul_one, Nat.add_zero]; exact hmem, .lit u h1⟩
  | succ j => simp at hj
 refine ⟨_, w, m, o, ?_, by rw [hd]; exact I.set d _ _ (by omega) k2 hrep⟩
 unfold execOp
 rw [hop]
 simp only [Sem.run_bind]
 rw [zBV hM I hn, show a.eval (.global g) = .pointer (some ⟨g, 0, none⟩) from rfl]
 have hrun : (Instr.indexAt t (.pointer (some ⟨g, 0, none⟩)) (.int ki n)).run P w = .ok (.pointer (some ⟨g, 0 + n.toNat * ie.size, none⟩)) w := by
  simp [Instr.indexAt, asIntOf, Instr.sureAddr, run_underlying hu', hb, sizeOf, typeInfo, hie, Addr.add_mid]
 rw [hrun, hsz]
 rfl
end
def TabIs (g : Nat) (k : IntKind) (l : List Int) : Bool := match TBLS.find? (fun x => x.1 == g) with
 | some x => x.2.length == l.length && (List.range l.length).all fun i => match x.2[i]?, l[i]? with
  | some (.int k' z), some z' => k' == k && z == z'
  | _, _ => false
 | none => false
theorem tab_get {g : Nat} {k : IntKind} {l : List Int} (h : TabIs g k l = true) {n x : Int} (hx : idx l n = some x) : TBL g n.toNat = some (.int k x) ∧ 0 ≤ n ∧ n < l.length := by
 unfold idx at hx
 by_cases h0 : 0 ≤ n
 ·
  rw [dec_t' h0] at hx
  have hx : l[n.toNat]? = some x := hx
  have hlt : n.toNat < l.length := (List.getElem?_eq_some_iff.1 hx).1
  refine ⟨?_, h0, by omega⟩
  unfold TabIs at h
  unfold TBL
  split at h
  ·
   rename_i y hy
   rw [hy]
   simp only [Bool.and_eq_true, List.all_eq_true] at h
   have h2 := h.2 n.toNat (List.mem_range.2 hlt)
   show y.2[n.toNat]? = _
   rw [hx] at h2
   split at h2
   ·
    rename_i k' z z' e1 e2
    injection e2 with e2
    simp only [Bool.and_eq_true, beq_iff_eq] at h2
    rw [e1, h2.1, h2.2, e2]
   · cases h2
  · cases h
 ·
  rw [dec_f' h0] at hx
  cases hx
where
 dec_t' {p : Prop} [Decidable p] (h : p) : decide p = true := decide_eq_true h
 dec_f' {p : Prop} [Decidable p] (h : ¬ p) : decide p = false := decide_eq_false h
section
variable {P : Program} {pins : List Nat} {N : Nat} {l0 : List Oper} {Q : SL → Prop} {r : List Oper} {op : Oper} {L : SL} {acc : List (List Nat × List Nat)} {T : List Nat}
theorem d_gix {d t g : Nat} {i : Operand} {ki k : IntKind} {n x : Int} {l : List Int} (hx : idx l n = some x) (hTt : zBF (zBc l0.toArray (gt L) op) some = some T) (hy : dyes l0 op L T) (hop : op.op = .indexAddr t (.global g) i) (hd : op.dst = some d) (hdT : T.contains d = true) (hok : okD N pins (gt L) d = true) (hl : arrLen P t = some l.length) (hn : vO (mask T (gt L)) i = some (.int ki n)) (hT : TabIs g k l = true) (K : DOK P pins N l0 Q r ((T, [d]) :: acc) ((d, .imm [.lit (.int k x)]) :: L)) : DOK P pins N l0 Q (op :: r) acc L :=
 d_of (ks := [d]) hTt hy (e := [(d, _)]) rfl (by simp only [List.all_cons, List.all_nil, hdT]; rfl) (fun S' hS => have hok := d_mf.okD_of hS (by simpa using hdT) hok; .of (e := [(d, _)]) fun hN => ⟨ok_gix (zCD hS).hx hop hd (qL hN hok) hl hn (tab_get hT hx).2 (tab_get hT hx).1 rfl, zA0 (qI hN hok)⟩) rfl K
end
end Go.Proofs.YtmgafkpkpmjieaaDoor
