/-
  Texts joined: see the remark at the head of each part.
-/
import Derived.Test.YtjomnccladjpgaaD07
import Derived.Test.YtjomnccladjpgaaD08
import Derived.Test.YtjomnccladjpgaaD05
import Derived.Test.YtjomnccladjpgaaD09
import Derived.Test.YtjomnccladjpgaaD11
set_option linter.unusedVariables false
set_option linter.unusedSimpArgs false
/-
 Several steps at once: moves, checks and fields of the heap's objects; what is passed by.
-/
namespace Go.Proofs.Ytjomnccladjpgaa
open Go Go.RowKit
set_option linter.unusedVariables false
abbrev A.p (c o : Nat) : A := .t (.hpt c o)
theorem pq {M : Nat → A} {s t i : Nat} {p : Option Nat} (h : M s = .t (ptT t p)) (e : p = some i) : cpO M (.tmp s) = .t (.hpt (cd t i) 0) := (zM h).trans (yA e)
theorem gt_hd (L : SL) (d : Nat) (x : A) : gt ((d, x) :: L) d = x := by simp [gt]
theorem cpO_hd {L : SL} {d c o : Nat} : cpO (gt ((d, .t (.hpt c o)) :: L)) (.tmp d) = .t (.hpt c o) := by
 unfold cpO
 simp only [gt_hd]
 rfl
section
variable {P : Program} {pins : List Nat} {N : Nat} {ops : Array Oper} {Q : SL → Prop} {r : List Oper} {op p1 p2 p3 p4 : Oper} {L : SL}
theorem o_mv {d : Nat} {x : Operand} {y : A} (h : (op.guard, op.op, op.dst, okD N pins (gt L) d) = (none, .move x, some d, true)) (hx : cpO (gt L) x = y) (k : yF P pins N ops Q r ((d, y) :: L)) : yF P pins N ops Q (op :: r) L := by
 simp only [Prod.mk.injEq] at h
 obtain ⟨h1, h2, h3, h4⟩ := h
 exact o_of (e := [(d, y)]) (g0 h1) (h_mv mR (.inl h2) hx h3 h4) rfl k
theorem o_nf {d1 d2 c off t i m : Nat} {x : Operand} (n : Nat) (h : (p1.guard, p1.op, p1.dst, p2.guard, p2.op, p2.dst) = (none, .nilCheck x, some d1, none, .fieldAddr t (.tmp d1) i, some d2)) (hx : cpO (gt L) x = .t (.hpt c off)) (h2 : (okD N pins (gt L) d1, okD N pins (gt ((d1, .t (.hpt c off)) :: L)) d2, fdH P t i, off + m) = (true, true, some m, n)) (k : yF P pins N ops Q r ((d2, .t (.hpt c n)) :: (d1, .t (.hpt c off)) :: L)) : yF P pins N ops Q (p1 :: p2 :: r) L := by
 simp only [Prod.mk.injEq] at h h2
 obtain ⟨a1, a2, a3, a4, a5, a6⟩ := h
 obtain ⟨b1, b2, b3, rfl⟩ := h2
 refine o_of (e := [(d1, .t (.hpt c off))]) (g0 a1) (h_nc mR a2 hx rfl a3 b1) rfl ?_
 exact o_of (e := [(d2, .t (.hpt c (off + m)))]) (g0 a4) (h_fd mR a5 cpO_hd b3 rfl a6 b2) rfl k
theorem o_f3 {d1 d2 d3 c off t i m : Nat} {x : Operand} (n : Nat) (h : (p1.guard, p1.op, p1.dst, p2.guard, p2.op, p2.dst, p3.guard, p3.op, p3.dst) = (none, .move x, some d1, none, .nilCheck (.tmp d1), some d2, none, .fieldAddr t (.tmp d2) i, some d3)) (hx : cpO (gt L) x = .t (.hpt c off)) (h2 : (okD N pins (gt L) d1, okD N pins (gt ((d1, .t (.hpt c off)) :: L)) d2, okD N pins (gt ((d2, .t (.hpt c off)) :: (d1, .t (.hpt c off)) :: L)) d3, fdH P t i, off + m) = (true, true, true, some m, n)) (k : yF P pins N ops Q r ((d3, .t (.hpt c n)) :: (d2, .t (.hpt c off)) :: (d1, .t (.hpt c off)) :: L)) : yF P pins N ops Q (p1 :: p2 :: p3 :: r) L := by
 simp only [Prod.mk.injEq] at h h2
 obtain ⟨a1, a2, a3, a4, a5, a6, a7, a8, a9⟩ := h
 obtain ⟨b1, b2, b3, b4, rfl⟩ := h2
 refine o_mv (by rw [a1, a2, a3, b1]) hx ?_
 exact o_nf (off + m) (by rw [a4, a5, a6, a7, a8, a9]) cpO_hd (by rw [b2, b3, b4]) k
theorem o_ld {d c off t n : Nat} {x : Operand} {f : Nat → A} {l : List T} {z : T} (y : A) (h : (op.guard, op.op, op.dst) = (none, .load t x, some d)) (hf : f c = .box l) (h2 : (gt L HK, cpO (gt L) x, tyA P t, l[off]?, norH z, okD N pins (gt L) d) = (.hp f, .t (.hpt c off), some (false, n), some z, some y, true)) (k : yF P pins N ops Q r ((d, y) :: L)) : yF P pins N ops Q (op :: r) L := by
 simp only [Prod.mk.injEq] at h h2
 obtain ⟨a1, a2, a3⟩ := h
 obtain ⟨b1, b2, b3, b4, b5, b6⟩ := h2
 exact o_of (e := [(d, y)]) (g0 a1) (h_ld mR b1 a2 b3 b2 hf b4 b5 a3 b6) rfl k
theorem o_k1 {j t d : Nat} {c want : Bool} (h : (op.guard, (ops[j]?).bind (·.dst), gt L t, op.dst, okD N pins (gt L) d) = (some (j, want), some t, .t (.d (.lit (.bool c))), some d, true)) (hw : c = !want) (k : yF P pins N ops Q r ((d, .tup []) :: L)) : yF P pins N ops Q (op :: r) L := by
 simp only [Prod.mk.injEq] at h
 obtain ⟨a1, a2, a3, a4, a5⟩ := h
 exact zC a1 a2 a3 hw a4 a5 k
end
section
variable {P : Program} {pins : List Nat} {N : Nat} {l0 : List Oper} {Q : SL → Prop} {r : List Oper} {op p1 p2 p3 : Oper} {L : SL} {acc : List (List Nat × List Nat)} {T T1 T2 T3 : List Nat}
theorem d_1 {d : Nat} (x : A) (hT : zCM (zCi l0.toArray (gt L) op) some = some T) (h : (op.guard, op.dst, T.contains d, okD N pins (gt L) d, opF P pins false (mask T (gt L)) d op.op) = (none, some d, true, true, some (True, [(d, x)]))) (k : DOK P pins N l0 Q r ((T, [d]) :: acc) ((d, x) :: L)) : DOK P pins N l0 Q (op :: r) acc L := by
 simp only [Prod.mk.injEq] at h
 obtain ⟨a1, a2, a3, a4, a5⟩ := h
 exact d_s x hT (dg0 a1) a2 a3 a4 a5 k
theorem d_mv {d : Nat} {x : Operand} {y : A} (hT : zCM (zCi l0.toArray (gt L) op) some = some T) (h : (op.guard, op.op, op.dst, T.contains d, okD N pins (gt L) d) = (none, .move x, some d, true, true)) (hx : cpO (mask T (gt L)) x = y) (k : DOK P pins N l0 Q r ((T, [d]) :: acc) ((d, y) :: L)) : DOK P pins N l0 Q (op :: r) acc L := by
 simp only [Prod.mk.injEq] at h
 obtain ⟨a1, a2, a3, a4, a5⟩ := h
 exact d_h0 [] (e := [(d, y)]) (ks := [d]) hT (dg0 a1) rfl (by simp only [List.all_cons, List.all_nil, a4]; rfl) (fun S' hM hok => h_mv hM (.inl a2) hx a3 (hok _ a4 a5)) rfl k
theorem d_nc {d c off : Nat} {x : Operand} (hT : zCM (zCi l0.toArray (gt L) op) some = some T) (h : (op.guard, op.op, op.dst, T.contains d, okD N pins (gt L) d) = (none, .nilCheck x, some d, true, true)) (hx : cpO (mask T (gt L)) x = .t (.hpt c off)) (k : DOK P pins N l0 Q r ((T, [d]) :: acc) ((d, .t (.hpt c off)) :: L)) : DOK P pins N l0 Q (op :: r) acc L := by
 simp only [Prod.mk.injEq] at h
 obtain ⟨a1, a2, a3, a4, a5⟩ := h
 exact d_h0 [] (e := [(d, .t (.hpt c off))]) (ks := [d]) hT (dg0 a1) rfl (by simp only [List.all_cons, List.all_nil, a4]; rfl) (fun S' hM hok => h_nc hM a2 hx rfl a3 (hok _ a4 a5)) rfl k
theorem d_fd {d c off t i m : Nat} {x : Operand} (n : Nat) (hT : zCM (zCi l0.toArray (gt L) op) some = some T) (h : (op.guard, op.op, op.dst, T.contains d, okD N pins (gt L) d) = (none, .fieldAddr t x i, some d, true, true)) (h2 : (cpO (mask T (gt L)) x, fdH P t i, off + m) = (.t (.hpt c off), some m, n)) (k : DOK P pins N l0 Q r ((T, [d]) :: acc) ((d, .t (.hpt c n)) :: L)) : DOK P pins N l0 Q (op :: r) acc L := by
 simp only [Prod.mk.injEq] at h h2
 obtain ⟨a1, a2, a3, a4, a5⟩ := h
 obtain ⟨b1, b2, rfl⟩ := h2
 exact d_h0 [] (e := [(d, .t (.hpt c (off + m)))]) (ks := [d]) hT (dg0 a1) rfl (by simp only [List.all_cons, List.all_nil, a4]; rfl) (fun S' hM hok => h_fd hM a2 b1 b2 rfl a3 (hok _ a4 a5)) rfl k
theorem d_ld {d c off t n : Nat} {x : Operand} {f : Nat → A} {l : List _root_.Go.Proofs.Ytjomnccladjpgaa.T} {z : _root_.Go.Proofs.Ytjomnccladjpgaa.T} (y : A) (hT : zCM (HK :: zCi l0.toArray (gt L) op) some = some T) (h : (op.guard, op.op, op.dst, T.contains d, okD N pins (gt L) d) = (none, .load t x, some d, true, true)) (hf : f c = .box l) (h2 : (gt L HK, cpO (mask T (gt L)) x, tyA P t, l[off]?, norH z) = (.hp f, .t (.hpt c off), some (false, n), some z, some y)) (k : DOK P pins N l0 Q r ((T, [d]) :: acc) ((d, y) :: L)) : DOK P pins N l0 Q (op :: r) acc L := by
 simp only [Prod.mk.injEq] at h h2
 obtain ⟨a1, a2, a3, a4, a5⟩ := h
 obtain ⟨b1, b2, b3, b4, b5⟩ := h2
 exact d_h (e := [(d, y)]) (ks := [d]) hT (dg0 a1) rfl (by simp only [List.all_cons, List.all_nil, a4]; rfl) (fun S' hM hk hok => h_ld hM (hk.trans b1) a2 b3 b2 hf b4 b5 a3 (hok _ a4 a5)) rfl k
theorem d_k1 {j t d : Nat} {c want : Bool} (hT : zCM (zCi l0.toArray (gt L) op) some = some T) (h : (op.guard, (l0.toArray[j]?).bind (·.dst), T.contains t, gt L t, op.dst, T.contains d, okD N pins (gt L) d) = (some (j, want), some t, true, .t (.d (.lit (.bool c))), some d, true, true)) (hw : c = !want) (k : DOK P pins N l0 Q r ((T, [d]) :: acc) ((d, .tup []) :: L)) : DOK P pins N l0 Q (op :: r) acc L := by
 simp only [Prod.mk.injEq] at h
 obtain ⟨a1, a2, a3, a4, a5, a6, a7⟩ := h
 exact qO a1 a2 hT a3 a4 hw a5 a6 a7 k
end
end Go.Proofs.Ytjomnccladjpgaa

/-
 Calls, stores, picks and runs of steps told in few words.
-/
namespace Go.Proofs.Ytjomnccladjpgaa
open Go Go.RowKit
set_option linter.unusedVariables false
class PuH (f : Nat → A) : Prop where
 h : zDa f
theorem aR {σ : List Nat} {x : A} (h : x.plain = true) : ArgH σ x x := .plain .r h
abbrev aH {σ : List Nat} {c o : Nat} : ArgH σ (.t (.hpt c o)) (.t (.hpt c o)) := .hpt c o
theorem a1 {σ : List Nat} {x y : A} (h : ArgH σ x y) : zFM σ [x] [y] := .cons h .nil
theorem a2 {σ : List Nat} {x y x' y' : A} (h : ArgH σ x y) (h' : ArgH σ x' y') : zFM σ [x, x'] [y, y'] := .cons h (a1 h')
theorem a3 {σ : List Nat} {x y x' y' x2 y2 : A} (h : ArgH σ x y) (h' : ArgH σ x' y') (h2 : ArgH σ x2 y2) : zFM σ [x, x', x2] [y, y', y2] := .cons h (a2 h' h2)
theorem r1 {τ : List Nat} {x : T} (h : x.isPt = false) : ResH τ (.t x) (.t x) := .t (.flat h)
theorem r2 {τ : List Nat} {x y : T} (h : (x.isPt, y.isPt) = (false, false)) : ResH τ (.tup [x, y]) (.tup [x, y]) := .tup (.cons (.flat (Prod.mk.inj h).1) (.cons (.flat (Prod.mk.inj h).2) .nil))
theorem r3 {τ : List Nat} {x y z : T} (h : (x.isPt, y.isPt, z.isPt) = (false, false, false)) : ResH τ (.tup [x, y, z]) (.tup [x, y, z]) := .tup (.cons (.flat (Prod.mk.inj h).1) (.cons (.flat (Prod.mk.inj (Prod.mk.inj h).2).1) (.cons (.flat (Prod.mk.inj (Prod.mk.inj h).2).2) .nil)))
theorem zJF {M : Nat → A} : zKJ M [] [] [] = true := rfl
section
variable {P : Program} {pins : List Nat} {N : Nat} {ops : Array Oper} {Q : SL → Prop} {r : List Oper} {op : Oper} {L : SL} {f f' : Nat → A} {fn d : Nat} {args : List A} {y y' : A} {xs : List Operand} {ts : Array TypeId} {fx : Operand} {F : Func}
theorem o_cH (hf : FCH P fn args [] [] f f' y) (hy : yes ops op L true) (h : (gt L HK, op.op, vO (gt L) fx, op.dst, okD N pins (gt L) d, P.funcs[fn]?, F.body.isNone, (F.name == "runtime.NumGoroutine"), Nat.ble args.length OB) = (.hp f, .call { callee := .value fx, args := xs.toArray, argTypes := ts }, some (.func (.func fn) #[] #[]), some d, true, some F, false, false, true)) (ha : zFM [] (xs.map (cpO (gt L))) args) (hr : ResH [] y y') [p : PuH f] [p' : PuH f'] (k : yF P pins N ops Q r ((d, y') :: (HK, .hp f') :: L)) : yF P pins N ops Q (op :: r) L := by
 simp only [Prod.mk.injEq] at h
 obtain ⟨e1, e2, e3, e4, e5, e6, e7, e8, e9⟩ := h
 exact o_of (e := [(HK, .hp f'), (d, y')]) hy (zBS mR e1 (σ := []) (fr := []) e2 e3 e4 e5 e6 e7 e8 hf p.h p'.h zJF rfl rfl rfl ha e9 hr) rfl k
theorem o_cR (hf : FCH P fn args [] [] f f y) (hy : yes ops op L true) (h : (gt L HK, op.op, vO (gt L) fx, op.dst, okD N pins (gt L) d, P.funcs[fn]?, F.body.isNone, (F.name == "runtime.NumGoroutine"), Nat.ble args.length OB) = (.hp f, .call { callee := .value fx, args := xs.toArray, argTypes := ts }, some (.func (.func fn) #[] #[]), some d, true, some F, false, false, true)) (ha : zFM [] (xs.map (cpO (gt L))) args) (hr : ResH [] y y') [p : PuH f] (k : yF P pins N ops Q r ((d, y') :: L)) : yF P pins N ops Q (op :: r) L := by
 simp only [Prod.mk.injEq] at h
 obtain ⟨e1, e2, e3, e4, e5, e6, e7, e8, e9⟩ := h
 exact o_of (e := [(d, y')]) hy (qL mR e1 (σ := []) (fr := []) e2 e3 e4 e5 e6 e7 e8 hf p.h zJF rfl rfl rfl ha e9 hr) rfl k
theorem o_sH {t c off : Nat} {x z : Operand} {i : TypeInfo} {l l' : List T} {q : List T} (h : (op.guard, gt L HK, op.op, op.dst, P.info? t, cpO (gt L) x, zCY (cpO (gt L) z)) = (none, .hp f, .store t x z, none, some i, .t (.hpt c off), some q)) (hf : f c = .box l) (hf' : f' = updF f c (.box l')) (h2 : (Nat.beq q.length i.size, Nat.ble (off + i.size) l.length) = (true, true)) (h3 : qT l off q = l') (k : yF P pins N ops Q r ((HK, .hp f') :: L)) : yF P pins N ops Q (op :: r) L := by
 simp only [Prod.mk.injEq] at h h2
 obtain ⟨e0, e1, e2, e3, e4, e5, e6⟩ := h
 exact o_of (e := [(HK, .hp f')]) (g0 e0) (h_st mR e1 e2 e3 e4 e5 hf e6 (Nat.eq_of_beq_eq_true h2.1) (Nat.le_of_ble_eq_true h2.2) h3 hf') rfl k
theorem o_pF {d : Nat} {c : Bool} {cx x z : Operand} (u : A) (hw : c = false) (h : (op.guard, op.op, op.dst, okD N pins (gt L) d, vO (gt L) cx, cpO (gt L) z) = (none, .pick cx x z, some d, true, some (.bool c), u)) (k : yF P pins N ops Q r ((d, u) :: L)) : yF P pins N ops Q (op :: r) L := by
 simp only [Prod.mk.injEq] at h
 obtain ⟨e1, e2, e3, e4, e5, e6⟩ := h
 exact o_pk u hw (g0 e1) e2 e3 e4 e5 e6 k
theorem o_pT {d : Nat} {c : Bool} {cx x z : Operand} (u : A) (hw : c = true) (h : (op.guard, op.op, op.dst, okD N pins (gt L) d, vO (gt L) cx, cpO (gt L) x) = (none, .pick cx x z, some d, true, some (.bool c), u)) (k : yF P pins N ops Q r ((d, u) :: L)) : yF P pins N ops Q (op :: r) L := by
 simp only [Prod.mk.injEq] at h
 obtain ⟨e1, e2, e3, e4, e5, e6⟩ := h
 exact o_pk u hw (g0 e1) e2 e3 e4 e5 e6 k
abbrev kT (ops : Array Oper) (pins : List Nat) (N : Nat) (L : SL) (op : Oper) (j t d : Nat) := (op.guard, (ops[j]?).bind (·.dst), gt L t, op.dst, okD N pins (gt L) d)
abbrev kE (j : Nat) (want : Bool) (t : Nat) (c : Bool) (d : Nat) : Option (Nat × Bool) × Option Nat × A × Option Nat × Bool := (some (j, want), some t, .t (.d (.lit (.bool c))), some d, true)
abbrev tu (d : Nat) : Nat × A := (d, .tup [])
theorem o_k2 {p1 p2 : Oper} {j1 j2 t1 t2 d1 d2 : Nat} {c want : Bool} (h : (kT ops pins N L p1 j1 t1 d1, kT ops pins N (tu d1 :: L) p2 j2 t2 d2) = (kE j1 want t1 c d1, kE j2 want t2 c d2)) (hw : c = !want) (k : yF P pins N ops Q r (tu d2 :: tu d1 :: L)) : yF P pins N ops Q (p1 :: p2 :: r) L :=
 o_k1 (Prod.mk.inj h).1 hw (o_k1 (Prod.mk.inj h).2 hw k)
theorem o_k3 {p1 p2 p3 : Oper} {j1 j2 j3 t1 t2 t3 d1 d2 d3 : Nat} {c want : Bool} (h : (kT ops pins N L p1 j1 t1 d1, kT ops pins N (tu d1 :: L) p2 j2 t2 d2, kT ops pins N (tu d2 :: tu d1 :: L) p3 j3 t3 d3) = (kE j1 want t1 c d1, kE j2 want t2 c d2, kE j3 want t3 c d3)) (hw : c = !want) (k : yF P pins N ops Q r (tu d3 :: tu d2 :: tu d1 :: L)) : yF P pins N ops Q (p1 :: p2 :: p3 :: r) L :=
 o_k1 (Prod.mk.inj h).1 hw (o_k2 (Prod.mk.inj h).2 hw k)
theorem o_k4 {p1 p2 p3 p4 : Oper} {j1 j2 j3 j4 t1 t2 t3 t4 d1 d2 d3 d4 : Nat} {c want : Bool} (h : (kT ops pins N L p1 j1 t1 d1, kT ops pins N (tu d1 :: L) p2 j2 t2 d2, kT ops pins N (tu d2 :: tu d1 :: L) p3 j3 t3 d3, kT ops pins N (tu d3 :: tu d2 :: tu d1 :: L) p4 j4 t4 d4) = (kE j1 want t1 c d1, kE j2 want t2 c d2, kE j3 want t3 c d3, kE j4 want t4 c d4)) (hw : c = !want) (k : yF P pins N ops Q r (tu d4 :: tu d3 :: tu d2 :: tu d1 :: L)) : yF P pins N ops Q (p1 :: p2 :: p3 :: p4 :: r) L :=
 o_k1 (Prod.mk.inj h).1 hw (o_k3 (Prod.mk.inj h).2 hw k)
theorem o_cA (hf : FC P fn args [] y) (hy : yes ops op L true) (h : (op.op, vO (gt L) fx, op.dst, okD N pins (gt L) d, P.funcs[fn]?, F.body.isNone, (F.name == "runtime.NumGoroutine")) = (.call { callee := .value fx, args := xs.toArray, argTypes := ts }, some (.func (.func fn) #[] #[]), some d, true, some F, false, false)) (ha : zCw (xs.map (cpO (gt L))) args) (h2 : (args.all A.plain, y.noRef) = (true, true)) (k : yF P pins N ops Q r ((d, y) :: L)) : yF P pins N ops Q (op :: r) L := by
 simp only [Prod.mk.injEq] at h h2
 obtain ⟨e2, e3, e4, e5, e6, e7, e8⟩ := h
 exact o_ca hf hy e2 e3 e4 e5 e6 e7 e8 ha h2.1 h2.2 k
end
section
variable {P : Program} {pins : List Nat} {N : Nat} {l0 : List Oper} {Q : SL → Prop} {r : List Oper} {op : Oper} {L : SL} {acc : List (List Nat × List Nat)} {T : List Nat} {f f' : Nat → A} {fn d : Nat} {args : List A} {y y' : A} {xs : List Operand} {ts : Array TypeId} {fx : Operand} {F : Func}
theorem d_cH (hf : FCH P fn args [] [] f f' y) (hT : zCM (HK :: zCi l0.toArray (gt L) op) some = some T) (hy : dyes l0 op L T) (h : (gt L HK, op.op, vO (mask T (gt L)) fx, op.dst, okD N pins (gt L) d, P.funcs[fn]?, F.body.isNone, (F.name == "runtime.NumGoroutine"), Nat.ble args.length OB, T.contains d) = (.hp f, .call { callee := .value fx, args := xs.toArray, argTypes := ts }, some (.func (.func fn) #[] #[]), some d, true, some F, false, false, true, true)) (ha : zFM [] (xs.map (cpO (mask T (gt L)))) args) (hr : ResH [] y y') [p : PuH f] [p' : PuH f'] (k : DOK P pins N l0 Q r ((T, [HK, d]) :: acc) ((d, y') :: (HK, .hp f') :: L)) : DOK P pins N l0 Q (op :: r) acc L := by
 simp only [Prod.mk.injEq] at h
 obtain ⟨e1, e2, e3, e4, e5, e6, e7, e8, e9, e10⟩ := h
 have hk : T.contains HK = true := by
  rw [zHN] at hT
  injection hT with hT
  rw [← hT]
  simp
 exact d_h (e := [(HK, .hp f'), (d, y')]) (ks := [HK, d]) hT hy rfl (by simp only [List.all_cons, List.all_nil, e10, hk]; rfl) (fun S' hM hk hok => zBS hM (hk.trans e1) (σ := []) (fr := []) e2 e3 e4 (hok _ e10 e5) e6 e7 e8 hf p.h p'.h zJF rfl rfl rfl ha e9 hr) rfl k
theorem d_cR (hf : FCH P fn args [] [] f f y) (hT : zCM (HK :: zCi l0.toArray (gt L) op) some = some T) (hy : dyes l0 op L T) (h : (gt L HK, op.op, vO (mask T (gt L)) fx, op.dst, okD N pins (gt L) d, P.funcs[fn]?, F.body.isNone, (F.name == "runtime.NumGoroutine"), Nat.ble args.length OB, T.contains d) = (.hp f, .call { callee := .value fx, args := xs.toArray, argTypes := ts }, some (.func (.func fn) #[] #[]), some d, true, some F, false, false, true, true)) (ha : zFM [] (xs.map (cpO (mask T (gt L)))) args) (hr : ResH [] y y') [p : PuH f] (k : DOK P pins N l0 Q r ((T, [d]) :: acc) ((d, y') :: L)) : DOK P pins N l0 Q (op :: r) acc L := by
 simp only [Prod.mk.injEq] at h
 obtain ⟨e1, e2, e3, e4, e5, e6, e7, e8, e9, e10⟩ := h
 exact d_h (e := [(d, y')]) (ks := [d]) hT hy rfl (by simp only [List.all_cons, List.all_nil, e10]; rfl) (fun S' hM hk hok => qL hM (hk.trans e1) (σ := []) (fr := []) e2 e3 e4 (hok _ e10 e5) e6 e7 e8 hf p.h zJF rfl rfl rfl ha e9 hr) rfl k
theorem d_pF {c : Bool} {cx x z : Operand} (u : A) (hw : c = false) (hT : zCM (zCi l0.toArray (gt L) op) some = some T) (h : (op.guard, op.op, op.dst, T.contains d, okD N pins (gt L) d, vO (mask T (gt L)) cx, cpO (mask T (gt L)) z) = (none, .pick cx x z, some d, true, true, some (.bool c), u)) (k : DOK P pins N l0 Q r ((T, [d]) :: acc) ((d, u) :: L)) : DOK P pins N l0 Q (op :: r) acc L := by
 simp only [Prod.mk.injEq] at h
 obtain ⟨e1, e2, e3, e4, e5, e6, e7⟩ := h
 exact d_pk u hw hT (dg0 e1) e2 e3 e4 e5 e6 e7 k
theorem d_pT {c : Bool} {cx x z : Operand} (u : A) (hw : c = true) (hT : zCM (zCi l0.toArray (gt L) op) some = some T) (h : (op.guard, op.op, op.dst, T.contains d, okD N pins (gt L) d, vO (mask T (gt L)) cx, cpO (mask T (gt L)) x) = (none, .pick cx x z, some d, true, true, some (.bool c), u)) (k : DOK P pins N l0 Q r ((T, [d]) :: acc) ((d, u) :: L)) : DOK P pins N l0 Q (op :: r) acc L := by
 simp only [Prod.mk.injEq] at h
 obtain ⟨e1, e2, e3, e4, e5, e6, e7⟩ := h
 exact d_pk u hw hT (dg0 e1) e2 e3 e4 e5 e6 e7 k
end
def hpJ (js : List Nat) (L : SL) : Prop := match js with | [] => True | _ => zF3 L
theorem St.fgJ {pins : List Nat} {N : Nat} {w0 : World} {m0 : Mem} {o0 : OwnM} {G : GD} {a : Act} {w : World} {js : List Nat} {L : SL} (h : St w0 m0 o0 G pins N L a w) (hb : fgtB pins js L = true) (hh : hpJ js L) : St w0 m0 o0 G pins N (fgtL js L) a w := by
 cases js with
 | nil => exact h
 | cons j r => exact h.fgt _ _ hb hh
def LpE {X R : Type} (F : X → SL) (M : X → Option R) (r : R) (pins : List Nat) (L : SL) : Prop := ∃ x js, M x = some r ∧ fgtB pins js L = true ∧ hpJ js L ∧ WkS (fgtL js L) (F x) ∧ zEq (F x) = true
theorem wkEq {L : SL} : ∀ {F : SL}, F.map (fun p => gt L p.1) = F.map (·.2) → WkS L F
 | [], _ => trivial
 | (s, y) :: r, h => by
  simp only [List.map_cons, List.cons.injEq] at h
  exact ⟨by rw [h.1]; exact .r, wkEq h.2⟩
theorem lE {X R : Type} {F : X → SL} {M : X → Option R} {r : R} {pins : List Nat} {L : SL} (x : X) (h : M x = some r) (hw : (F x).map (fun p => gt L p.1) = (F x).map (·.2)) (hr : zEq (F x) = true) : LpE F M r pins L := ⟨x, [], h, rfl, trivial, wkEq hw, hr⟩
theorem bi {α β : Type} {G : Prop} {a : Option α} {f : α → Option β} {r : β} (h : Option.bind a f = some r) (k : ∀ y, a = some y → f y = some r → G) : G := by
 obtain ⟨y, h1, h2⟩ := bind_some h
 exact k y h1 h2
theorem eR {P : Program} {rs : List ResultVar} {f' : Nat → A} {y : A} {L : SL} (h : resA P (gt L) rs = some y) (h2 : gt L HK = .hp f') : endH P rs [] f' y .ret L := ⟨⟨_, h, .r⟩, trivial, h2⟩
section
variable {P : Program} {pins : List Nat} {N : Nat} {Q : Exit → SL → Prop} {L : SL}
theorem c_if {R : Type} {b : Bool} {x' y' : Option R} {r : R} {c : Nat} {x y : Code} (h : (bif b then x' else y') = some r) (hc : gt L c = .t (.d (.lit (.bool b)))) (hx : b = true → x' = some r → qI P pins N x Q L) (hy : b = false → y' = some r → qI P pins N y Q L) : qI P pins N (.cond (.tmp c) x y) Q L := by
 rcases zF h with ⟨e, h⟩ | ⟨e, h⟩
 · exact c_t e hc (hx e h)
 · exact c_f e hc (hy e h)
theorem zIu {X R : Type} {c : Code} (F : X → SL) (M : Nat → X → Option R) (n0 : Nat) (x0 : X) (js : List Nat) {r : R} (h0 : M n0 x0 = some r) (hz : ∀ x, M 0 x = none) (hb : fgtB pins js L = true) (hh : hpJ js L) (hw : WkS (fgtL js L) (F x0)) (hr : zEq (F x0) = true)
  (round : ∀ n x, M (n + 1) x = some r → qI P pins N c (zEg (LpE F (M n) r pins) Q) (F x)) : qI P pins N (.loop c) Q L := by
 intro Fe ne hF w0 m0 o0 G a w hS
 refine zIh (L := F x0) (fun n L => ∃ x, M n x = some r ∧ L = F x) n0 ⟨x0, h0, rfl⟩ ?_ Fe ne hF w0 m0 o0 G a w (St.weaken (hS.fgJ hb hh) hw hr)
 rintro n L ⟨x, hI, rfl⟩
 cases n with
 | zero => rw [hz] at hI; cases hI
 | succ n =>
  intro Fe ne hF w0 m0 o0 G a w hS
  refine wpIn_mono (round n x hI Fe ne hF w0 m0 o0 G a w hS) ?_
  rintro e a' w' ⟨L', hq, hS'⟩
  refine ⟨L', ?_, hS'⟩
  cases e with
  | normal =>
   obtain ⟨x', js, hI', q1, q2, hw', hr'⟩ := hq
   exact ⟨n, F x', Nat.lt_succ_self n, ⟨x', hI', rfl⟩, fun _ _ _ _ _ _ h => St.weaken (h.fgJ q1 q2) hw' hr'⟩
  | _ => exact hq
theorem c_lp {X R : Type} {c : Code} (F : X → SL) (M : Nat → X → Option R) (n0 : Nat) (x0 : X) {r : R} (h0 : M n0 x0 = some r) (hz : ∀ x, M 0 x = none) (hw : (F x0).map (fun p => gt L p.1) = (F x0).map (·.2)) (hr : zEq (F x0) = true)
  (round : ∀ n x, M (n + 1) x = some r → qI P pins N c (zEg (LpE F (M n) r pins) Q) (F x)) : qI P pins N (.loop c) Q L := zIu F M n0 x0 [] h0 hz rfl trivial (wkEq hw) hr round
theorem zEM {X R : Type} {x y : Code} (r : R) (F : X → SL) (M : X → Option R) (h : qI P pins N x (zEg (LpE F M r pins) Q) L) (h2 : ∀ x', M x' = some r → qI P pins N y Q (F x')) : qI P pins N (.seq x y) Q L := by
 refine zL fun Fe ne hF w0 m0 o0 G a w hS => wpIn_mono (h Fe ne hF w0 m0 o0 G a w hS) ?_
 rintro e a' w' ⟨L', hq, hS'⟩
 cases e with
 | normal =>
  obtain ⟨x', js, hI, q1, q2, hw, hr⟩ := hq
  exact ⟨F x', h2 x' hI, St.weaken (hS'.fgJ q1 q2) hw hr⟩
 | _ => exact ⟨L', hq, hS'⟩
end
end Go.Proofs.Ytjomnccladjpgaa

/-
 The contract of slices.Clone over sectors.
-/
namespace Go.Proofs.Ytjomnccladjpgaa
open Go Go.RowKit
set_option linter.unusedVariables false
set_option maxHeartbeats 4000000
set_option maxRecDepth 20000
instance {H : Hp} : PuH (hpA H) := ⟨zD H⟩
end Go.Proofs.Ytjomnccladjpgaa
