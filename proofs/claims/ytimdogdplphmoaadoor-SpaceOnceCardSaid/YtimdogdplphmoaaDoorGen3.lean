/-
  Still more operations for walks that a program writes: the bytes of a text that stands in the program; texts held against each other by order.
-/
import Derived.Test.YtimdogdplphmoaaDoorGen2
namespace Go.Proofs.YtimdogdplphmoaaDoor
open Go Go.RowKit
set_option linter.unusedVariables false

theorem str_ltL (x y : List UInt8) : Op.bytesLess (ByteArray.mk ⟨x⟩).toList (ByteArray.mk ⟨y⟩).toList = Op.bytesLess x y := by simp
def sLt (x y : List UInt8) : Bool := Op.bytesLess x y
theorem s_lt (x y : List UInt8) : Op.bytesLess (ByteArray.mk ⟨x⟩).toList (ByteArray.mk ⟨y⟩).toList = sLt x y := str_ltL x y
theorem s_le (x y : List UInt8) : (Op.bytesLess (ByteArray.mk ⟨x⟩).toList (ByteArray.mk ⟨y⟩).toList || (ByteArray.mk ⟨x⟩).toList == (ByteArray.mk ⟨y⟩).toList) = (sLt x y || x == y) := by rw [s_lt, str_beqL]
theorem s_gt (x y : List UInt8) : (!(Op.bytesLess (ByteArray.mk ⟨x⟩).toList (ByteArray.mk ⟨y⟩).toList || (ByteArray.mk ⟨x⟩).toList == (ByteArray.mk ⟨y⟩).toList)) = (!(sLt x y || x == y)) := by rw [s_le]
theorem s_ge (x y : List UInt8) : (!(Op.bytesLess (ByteArray.mk ⟨x⟩).toList (ByteArray.mk ⟨y⟩).toList)) = (!(sLt x y)) := by rw [s_lt]

theorem frz_size (w : World) (a : Addr) (n : Nat) : (w.freeze a n).heap.size = w.heap.size := by
  unfold World.freeze
  split
  · rfl
  · simp
theorem frz_other (w : World) (a : Addr) (n g : Nat) (h : g ≠ a.block) : (w.freeze a n).heap[g]? = w.heap[g]? := by
  unfold World.freeze
  split
  · rfl
  · simp [Array.getElem?_modify, Ne.symm h]
theorem frz_cell (w : World) (a : Addr) (n : Nat) (b : Addr) : (w.freeze a n).cell? b = w.cell? b := by
  unfold World.freeze
  split
  · rfl
  · unfold World.cell?
    simp only [Array.getElem?_modify]
    by_cases h : a.block = b.block
    · rw [if_pos h]
      cases w.heap[b.block]? with
      | none => rfl
      | some o =>
        cases o with
        | cells c e f => rfl
        | _ => rfl
    · rw [if_neg h]
theorem frz_os (w : World) (a : Addr) (n : Nat) : (w.freeze a n).os = w.os := by unfold World.freeze; split <;> rfl
theorem frz_tape (w : World) (a : Addr) (n : Nat) : (w.freeze a n).tape = w.tape := by unfold World.freeze; split <;> rfl
theorem frz_output (w : World) (a : Addr) (n : Nat) : (w.freeze a n).output = w.output := by unfold World.freeze; split <;> rfl

/-- Is t a type of bytes in a row? -/
def bytesT (P : Program) (t : TypeId) : Bool := match P.underlying t with
  | some (.slice e) => match P.underlying e with
    | some (.int .u8) => true
    | _ => false
  | _ => false
section
variable {P : Program} {pins : List Nat} {N : Nat} {S M : Nat → A}
theorem ok_cvk (hM : Mk M S) {op : Oper} {d s t E k : Nat} (hop : op.op = .convert t t (.tmp s)) (hd : op.dst = some d) (hok : okD N pins S d = true) (ht : bytesT P t = true) {l : List (List D)} (hs : M s = .t (.own E k l)) (hl : l.isEmpty = false) (hne : (d == s) = false) (hsp : pins.contains s = false) :
    OpOK P pins N op S (upd (upd S s (.t (.d (.seq k l)))) d (.t (.d (.seq k l)))) := by
  refine ok_of_run fun w0 m0 o0 G a w m o hN I => ?_
  obtain ⟨h1, h2, h3⟩ := okD_iff hok
  have hne : s ≠ d := fun e => by subst e; simp at hne
  have hsp : s ∉ pins := by simpa using hsp
  have hS : S s = .t (.own E k l) := by
    rcases hM s with k | k
    · rw [k] at hs; cases hs
    · rw [← k]; exact hs
  have hown : OwnAt m w o (s, 0) E k l (a.tmps.getD s undef) := by
    have := I.slots s
    rw [hS] at this
    exact this
  have hsO : s < OB := by
    rcases Nat.lt_or_ge s a.tmps.size with h | h
    · exact Nat.lt_of_lt_of_le h I.wide
    · obtain ⟨A', cap, xs, e, _⟩ := hown
      rw [Array.getD_eq_getD_getElem?, Array.getElem?_eq_none h] at e
      cases e
  have I1 := I.degrade s (by rw [hS]; rfl)
  rw [hS] at I1
  obtain ⟨o1, I2, ho1⟩ := I1.drop s hsp hsO (x := .seq k l) (by simp [upd, cpA, cpT])
  have hrep : RepD m (.seq k l) (a.tmps.getD s undef) := by
    have := I2.slots s
    rw [upd_same] at this
    exact this
  obtain ⟨A', cap, xs, e1, k1, k2, k3, k4⟩ := hown
  obtain ⟨q0, q1 | ⟨g, cap', cur, q1, q2, q3, q4⟩⟩ := k1
  · rw [q1.2] at q0
    have : l = [] := List.length_eq_zero_iff.1 q1.2
    rw [this] at hl
    cases hl
  have hA : A' = some ⟨g, 0, none⟩ := by
    rw [e1] at q1
    injection q1
  subst hA
  obtain ⟨p1, p2⟩ := k2 g rfl
  have hglt := I.lt g _ p1
  unfold bytesT at ht
  split at ht
  case h_2 => cases ht
  rename_i e hu
  split at ht
  case h_2 => cases ht
  rename_i hu8
  have hsh : w.shape? g = some (E, cur.size) := by unfold World.shape?; rw [q3]
  have hrun : (convert t t (.slice (some ⟨g, 0, none⟩) l.length cap)).run P w = .ok (.slice (some ⟨g, 0, none⟩) l.length cap) (w.freeze ⟨g, cur.size, none⟩ 1) := by
    simp [convert, run_underlying hu, run_underlying hu8, markStringish, hsh]
  have J := I2.own_put d (.t (.d (.seq k l))) (a.tmps.getD s undef) (m g) g (w.freeze ⟨g, cur.size, none⟩ 1) (by omega) (by rw [upd_other (Ne.symm hne)]; exact h2) h3
    (fun l' hl' => by
      obtain ⟨z1, z2⟩ := ho1 g l' hl'
      rw [p1] at z2
      injection z2 with z2
      exact absurd (by rw [← z2]) z1) (I.own g _ p1)
    ⟨frz_os _ _ _, frz_tape _ _ _, frz_output _ _ _, Nat.le_of_eq (frz_size _ _ _).symm, fun b hb hn => frz_other _ _ _ _ fun e => hn ⟨e, e ▸ hglt⟩⟩
    (by rw [frz_size]; exact hglt) (fun p u h => h) (fun p u h => by rw [frz_cell]; exact I.sat g p u h)
    (RepD.mono (fun b p u h => by
      unfold newM
      split
      · rename_i hb
        rw [← hb]
        exact h
      · exact h) hrep)
  refine ⟨a.tmps.getD s undef, _, _, _, ?_, by rw [hd]; exact J⟩
  unfold execOp
  rw [hop]
  simp only [Sem.run_bind]
  rw [show a.eval (.tmp s) = .slice (some ⟨g, 0, none⟩) l.length cap from e1, hrun, ← e1]
  rfl
end
section
variable {P : Program} {pins : List Nat} {N : Nat} {ops : Array Oper} {Q : SL → Prop} {r : List Oper} {op : Oper} {L : SL}
theorem o_cvk {d s t E k : Nat} {l : List (List D)} (z : A) (hy : yes ops op L true) (hop : op.op = .convert t t (.tmp s)) (hd : op.dst = some d) (hok : okD N pins (gt L) d = true) (ht : bytesT P t = true) (hs : gt L s = .t (.own E k l)) (hl : l.isEmpty = false) (hne : (d == s) = false) (hsp : pins.contains s = false) (hz : A.t (.d (.seq k l)) = z) (h : OpsOK P pins N ops Q r ((d, z) :: (s, z) :: L)) : OpsOK P pins N ops Q (op :: r) L := by
  subst hz
  exact o_of (e := [(s, _), (d, _)]) hy (.of (e := [(s, _), (d, _)]) fun hN => ⟨ok_cvk (Mk_hx _) hop hd (okD_hx hN hok) ht hs hl hne hsp, eff_2 (stb_of (Mk.refl _) hs rfl) rfl (okD_lo hN hok)⟩) rfl h
end
section
variable {P : Program} {pins : List Nat} {N : Nat} {l0 : List Oper} {Q : SL → Prop} {r : List Oper} {op : Oper} {L : SL} {acc : List (List Nat × List Nat)} {T : List Nat}
theorem d_cvk {d s t E k : Nat} {l : List (List D)} (z : A) (hT : frcNs (touch l0.toArray (gt L) op) some = some T) (hy : dyes l0 op L T) (hop : op.op = .convert t t (.tmp s)) (hd : op.dst = some d) (hdT : T.contains d = true) (hsT : T.contains s = true) (hok : okD N pins (gt L) d = true) (ht : bytesT P t = true) (hs : mask T (gt L) s = .t (.own E k l)) (hl : l.isEmpty = false) (hne : (d == s) = false) (hsp : pins.contains s = false) (hz : A.t (.d (.seq k l)) = z) (h : DOK P pins N l0 Q r ((T, [s, d]) :: acc) ((d, z) :: (s, z) :: L)) : DOK P pins N l0 Q (op :: r) acc L := by
  subst hz
  exact d_of (ks := [s, d]) hT hy (e := [(s, _), (d, _)]) rfl (by simp only [List.all_cons, List.all_nil, hdT, hsT]; rfl) (fun S' hS => have hok := d_mf.okD_of hS (by simpa using hdT) hok; .of (e := [(s, _), (d, _)]) fun hN => ⟨ok_cvk (mask_Mk hS).hx hop hd (okD_hx hN hok) ht hs hl hne hsp, eff_2 (stb_of (mask_Mk hS) hs rfl) rfl (okD_lo hN hok)⟩) rfl h
end
end Go.Proofs.YtimdogdplphmoaaDoor
