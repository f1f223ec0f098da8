/-
  Texts joined: see the remark at the head of each part.
-/
import Derived.Test.YtjomnccladjpgaaGreatQ09
import Derived.Test.YtjomnccladjpgaaGreatQ12
import Derived.Test.YtjomnccladjpgaaGreatQ07
import Derived.Test.YtjomnccladjpgaaGreatQ10
set_option linter.unusedVariables false
set_option linter.unusedSimpArgs false
/-
 The document's disk.New as it is called by itself: a variable of its own with a slice that still may grow.
-/
namespace Go.Proofs.YtjomnccladjpgaaGreat
open Go Go.RowKit
set_option linter.unusedVariables false
set_option maxHeartbeats 4000000
set_option maxRecDepth 20000
section
variable {w0 : World} {m0 : Mem} {o0 : OwnM} {G : GD} {pins : List Nat} {S M : Nat → A} {a : Act} {w : World} {m : Mem} {o : OwnM} {P : Program} {N : Nat} {op : Oper} {d : Nat}
theorem Inv.ptr {j off : Nat} (I : Inv w0 m0 o0 G pins (upd S d (.ref (OB + j) off)) a w m o) : Inv w0 m0 o0 G pins (upd S d (.t (.ptr j off))) a w m o := by
 refine ⟨I.same, I.sat, I.mono, I.old, I.own, I.lt, I.inj, I.pinned, fun s => ?_, I.defers, I.tbl, I.wide, I.shps⟩
 have hs := I.slots s
 by_cases e : s = d
 ·
  subst e
  rw [zY] at hs ⊢
  obtain ⟨g, h1, h2, _⟩ := hs
  exact ⟨g, h1, h2⟩
 ·
  rw [zK e] at hs ⊢
  refine hs.turn fun b2 l2 hb => ?_
  by_cases e2 : b2 = d
  · subst e2; rw [zY] at hb; cases hb
  · rw [zK e2] at hb; exact ⟨l2, by rw [zK e2, hb]⟩
theorem h_mvp (hM : Mk M S) {x : Operand} {j off : Nat} (hop : op.op = .move x ∨ op.op = .assign x) (hx : cpO M x = .ref (OB + j) off) (hd : op.dst = some d) (hok : okD N pins S d = true) : OpH P pins N op S (app S [(d, .t (.ptr j off))]) := by
 refine .of (e := [(d, _)]) fun hN => ⟨(zFw hM.hx hd (yM hN hok) (y := .ref (OB + j) off) ?_).post fun _ _ _ _ _ _ _ _ I => I.ptr, zB3 (qX hN hok)⟩
 rcases hop with e | e <;> (rw [e]; show some (cpO M x) = _; rw [hx])
end
section
variable {P : Program} {pins : List Nat}
theorem fc_outsF {f : FuncId} {fn : Func} {c : Code} {args : List A} {rs : List ResultVar} {outs : List (Nat × List T)} {y : A} {n : Nat} {L : SL} (fr : List Nat) (hf : P.funcs[f]? = some fn) (hb : fn.body = some c) (hn : fn.ntmps = n) (hle : args.length ≤ n) (hres : fn.results = rs.toArray) (hpins : (zER 0 args, Nat.ble n OB) = (pins, true)) (hfr : fr.all (fun j => Nat.blt j OB) = true) (hL : zFy fr args = L) (hout : (match rs with | [.tmp t] => outs.all fun x => x.1 != t | _ => true) = true) (hc : zAN P pins n c (endQ P rs outs y) L) : FC P f args outs y := by
 injection hpins with hpins hw
 subst hn hpins hL
 exact fc_of hf hb hle hres hout (Nat.le_of_ble_eq_true hw) fr hfr hc
end
theorem zJe (p0 : Int) (r : (List (List UInt8))) (h : zGN p0 = some r) : FC Tryz.prog 6 [.t (.d (.lit (.int .i64 p0)))] [(OB + 0, [.own 40 1 (List.map (cSl 1 cU8) r), .d (.lit (.slice none 0 0)), .d (.lit (.int .i64 (-1))), .d (.lit (.bool false)), .d (.lit (.int .i64 0))])] (.ref (OB + 0) 0) := by
 refine fc_outsF (rs := [.tmp 2]) (n := 23) [0] Tryz.func6 rfl rfl (Nat.le_of_ble_eq_true rfl) rfl (pins := []) rfl rfl (L := [(OB + 0, .free), (0, .t (.d (.lit (.int .i64 p0))))]) rfl rfl (zJ (zL (o_s (.t (.d (.lit (.pointer none)))) (g0 rfl) rfl rfl rfl (zA ?_))))
 repeat (first | refine yL ?_ | refine zCr ?_ | refine zCw ?_ | refine zA7 ?_ | refine zCq ?_ | refine zBy ?_ | refine zCF rfl ?_)
 refine zJ (zL (o_s (.t (.agg [.lit (.slice none 0 0), .lit (.slice none 0 0), .lit (.int .i64 (-1)), .lit (.bool false), .lit (.int .i64 0)])) (g0 rfl) rfl rfl rfl (o_of (e := [((OB + 0), .box [.d (.lit (.slice none 0 0)), .d (.lit (.slice none 0 0)), .d (.lit (.int .i64 (-1))), .d (.lit (.bool false)), .d (.lit (.int .i64 0))]), (6, .t (.ptr 0 0))]) (g0 rfl) (h_lbox mR rfl rfl rfl rfl rfl rfl rfl) rfl (o_of (e := [(3, .t (.ptr 0 0))]) (g0 rfl) (h_mvp mR (.inr rfl) rfl rfl rfl) rfl (zA ?_)))))
 repeat (first | refine yL ?_ | refine zCr ?_ | refine zCw ?_ | refine zA7 ?_ | refine zCq ?_ | refine zBy ?_ | refine zCF rfl ?_)
 refine zJ (zJ (zL (o_s (.t (.d (.lit (.int .i64 0)))) (g0 rfl) rfl rfl rfl (zA ?_))))
 repeat (first | refine yL ?_ | refine zCr ?_ | refine zCw ?_ | refine zA7 ?_ | refine zCq ?_ | refine zBy ?_ | refine zCF rfl ?_)
 refine zS (zDM (fun (q : Int × (List (List UInt8))) => [(0, .t (.d (.lit (.int .i64 p0)))), (3, .t (.ptr 0 0)), (4, .t (.d (.lit (.int .i64 q.1)))), ((OB + 0), .box [.own 40 1 (List.map (cSl 1 cU8) q.2), .d (.lit (.slice none 0 0)), .d (.lit (.int .i64 (-1))), .d (.lit (.bool false)), .d (.lit (.int .i64 0))])]) (fun nl1 q => zCk p0 nl1 q.1 q.2) (Int.toNat p0 + 1) (0, []) [] h (fun _ => rfl) rfl trivial ⟨(.refl _), ⟨(.refl _), ⟨(.refl _), ⟨(.box (.cons (.nilOwn _ _) (.cons (.refl _) (.cons (.refl _) (.cons (.refl _) (.cons (.refl _) .nil))))) rfl), trivial⟩⟩⟩⟩ rfl ?_)
 rintro nl1 ⟨z1, z2⟩ h
 refine zJ (zJ (zL (o_s (.t (.d (.lit (.int .i64 z1)))) (g0 rfl) rfl rfl rfl (o_s (.t (.d (.lit (.int .i64 p0)))) (g0 rfl) rfl rfl rfl (o_s (.t (.d (.lit (.bool (decide (z1 < p0)))))) (g0 rfl) rfl rfl rfl (zA ?_))))))
 repeat (first | refine yL ?_ | refine zCr ?_ | refine zCw ?_ | refine zA7 ?_ | refine zCq ?_ | refine zBy ?_ | refine zCF rfl ?_)
 rcases zP h with ⟨h3, h⟩ | ⟨h3, h⟩
 ·
  refine c_t h3 rfl ?_
  refine zG ?_
  repeat (first | refine yL ?_ | refine zCr ?_ | refine zCw ?_ | refine zA7 ?_ | refine zCq ?_ | refine zBy ?_ | refine zCF rfl ?_)
  refine zJ (zS (qQ mixed (by kernel_rfl) (d_h0 [] (e := [(12, .t (.ptr 0 0))]) (ks := [12]) rfl (dg0 rfl) rfl rfl (fun S' hM hok => h_mvp hM (.inl rfl) rfl rfl (hok _ rfl rfl)) rfl (d_1 (.ref (OB + 0) 0) rfl rfl (d_1 (.ref (OB + 0) 0) rfl rfl (d_1 (.ref (OB + 0) 0) rfl rfl (d_2 (.box [.d (.seq 1 (List.map (cSl 1 cU8) z2)), .d (.lit (.slice none 0 0)), .d (.lit (.int .i64 (-1))), .d (.lit (.bool false)), .d (.lit (.int .i64 0))]) (.t (.own 40 1 (List.map (cSl 1 cU8) z2))) rfl (dg0 rfl) rfl rfl rfl rfl rfl (bi h fun x4 h5 h => d_h0 [] (e := [(17, .t (.own 5 1 (zN (List.replicate x4 (0 : UInt8)))))]) (ks := [17]) rfl (dg0 rfl) rfl rfl (fun S' hM hok => zJt (c := cU8) hM rfl rfl rfl rfl rfl rfl rfl rfl rfl h5 (by first | (unfold zN; rw [List.map_replicate]; rfl) | (rw [List.map_replicate]; rfl)) rfl (hok _ rfl rfl)) rfl (d_1 (.t (.own 40 1 (List.map (cSl 1 cU8) [(List.replicate x4 (0 : UInt8))]))) rfl rfl ?_)))))))))
  refine bi h fun x6 h7 h => d_2c rfl (dg0 rfl) rfl rfl rfl rfl rfl (appE (c := (cSl 1 cU8)) h7) (appC (c := (cSl 1 cU8)) h7) (d_1 (.ref (OB + 0) 0) rfl rfl (d_1 (.ref (OB + 0) 0) rfl rfl (d_st2 (.t (.d (.seq 1 (List.map (cSl 1 cU8) x6)))) (.box [.own 40 1 (List.map (cSl 1 cU8) x6), .d (.lit (.slice none 0 0)), .d (.lit (.int .i64 (-1))), .d (.lit (.bool false)), .d (.lit (.int .i64 0))]) rfl (dg0 rfl) rfl rfl rfl rfl rfl (yD (by kernel_rfl) ?_))))
  repeat (first | refine yL ?_ | refine zCr ?_ | refine zCw ?_ | refine zA7 ?_ | refine zCq ?_ | refine zBy ?_ | refine zCF rfl ?_)
  refine zL (o_s (.t (.d (.lit (.int .i64 z1)))) (g0 rfl) rfl rfl rfl (o_s (.t (.d (.lit (.int .i64 (wi (z1 + 1)))))) (g0 rfl) rfl rfl rfl (o_s (.t (.d (.lit (.int .i64 (wi (z1 + 1)))))) (g0 rfl) rfl rfl rfl (zA ?_))))
  repeat (first | refine yL ?_ | refine zCr ?_ | refine zCw ?_ | refine zA7 ?_ | refine zCq ?_ | refine zBy ?_ | refine zCF rfl ?_)
  exact ⟨((wi (z1 + 1)), x6), [], h, rfl, trivial, ⟨(.refl _), ⟨(.refl _), ⟨(.refl _), ⟨(.refl _), trivial⟩⟩⟩⟩, rfl⟩
 ·
  refine c_f h3 rfl ?_
  refine zAQ ?_
  repeat (first | refine yL ?_ | refine zCr ?_ | refine zCw ?_ | refine zA7 ?_ | refine zCq ?_ | refine zBy ?_ | refine zCF rfl ?_)
  refine zJ (zL (o_s (.ref (OB + 0) 0) (g0 rfl) rfl rfl rfl (o_s (.ref (OB + 0) 0) (g0 rfl) rfl rfl rfl (zA ?_))))
  repeat (first | refine yL ?_ | refine zCr ?_ | refine zCw ?_ | refine zA7 ?_ | refine zCq ?_ | refine zBy ?_ | refine zCF rfl ?_)
  refine zF ?_
  repeat (first | refine yL ?_ | refine zCr ?_ | refine zCw ?_ | refine zA7 ?_ | refine zCq ?_ | refine zBy ?_ | refine zCF rfl ?_)
  cases h
  exact ⟨⟨_, rfl, .refl _⟩, fun x hx => by simp at hx; subst hx; rfl⟩
end Go.Proofs.YtjomnccladjpgaaGreat

/-
 The document's disk.New, told by the heap: the variable and the slice that it hands back become objects of the heap.
-/
namespace Go.Proofs.YtjomnccladjpgaaGreat
open Go Go.RowKit
set_option linter.unusedVariables false
theorem row_rep {m' m2 : Mem} {g gd : Nat} {row : List UInt8} (hne : row ≠ []) (hmd : ∀ p, m' gd p = none) (hmg : ∀ p v, m' g p = some v → ∃ A n c, v = .slice A n c) (h2 : ∀ b, b ≠ g → b ≠ gd → m2 b = m' b) {u : Value} (h : RepD m' (.seq 1 (zN row)) u) : RepD m2 (.seq 1 (zN row)) u := by
 have hlit : ∀ (i : Nat) (r : List D) (j : Nat) (d : D), (zN row)[i]? = some r → r[j]? = some d → ∃ z : Int, d = .lit (.int .u8 z) := by
  intro i r j d hi hj
  unfold zN at hi
  rw [List.getElem?_map] at hi
  cases hb : row[i]? with
  | none => rw [hb] at hi; cases hi
  | some b =>
   rw [hb] at hi
   injection hi with hi
   subst hi
   cases j with
   | zero => injection hj with hj; exact ⟨_, hj.symm⟩
   | succ j => simp at hj
 generalize hL : zN row = L at h hlit ⊢
 cases h with
 | seq k l A cap g' o f hcap hmax hA hw hm hr =>
  have h0 : ∃ r d, L[0]? = some r ∧ r[0]? = some d := by
   subst hL
   obtain ⟨b, t, rfl⟩ := List.exists_cons_of_ne_nil hne
   exact ⟨_, _, rfl, rfl⟩
  obtain ⟨r0, d0, e0, e1⟩ := h0
  obtain ⟨z, hz⟩ := hlit 0 r0 0 d0 e0 e1
  have hm0 := hm 0 r0 0 d0 e0 e1
  have hr0 := hr 0 r0 0 d0 e0 e1
  have hv : f 0 0 = .int .u8 z := by
   rw [hz] at hr0
   generalize f 0 0 = v at hr0
   cases hr0
   rfl
  have hg : g' ≠ g := fun e => by
   subst e
   obtain ⟨A', n, c, hh⟩ := hmg _ _ hm0
   rw [hv] at hh
   cases hh
  have hgd : g' ≠ gd := fun e => by
   subst e
   rw [hmd] at hm0
   cases hm0
  refine .seq 1 L A cap g' o f hcap hmax hA hw (fun i r j d a b => by rw [h2 g' hg hgd]; exact hm i r j d a b) (fun i r j d a b => ?_)
  have h3 := hr i r j d a b
  obtain ⟨z', hz'⟩ := hlit i r j d a b
  rw [hz'] at h3 ⊢
  generalize f i j = v at h3 ⊢
  cases h3
  exact .lit _ rfl
theorem flSl : ∀ rows : List (List UInt8), fl (dT (cSl 1 cU8)) rows = rows.map fun r => T.d (.seq 1 (zN r))
 | [] => rfl
 | a :: r => by
  show T.d (.seq 1 (a.map cU8)) :: fl (dT (cSl 1 cU8)) r = _
  rw [flSl r]
  rfl
theorem zKn {P : Program} {fn : FuncId} {args : List A} {E c0 c1 : Nat} {rows : List (List UInt8)} {rest rest' : List T} {f f2 : Nat → A}
 (hf : FC P fn args [(OB + 0, .own E 1 (rows.map (cSl 1 cU8)) :: rest)] (.ref (OB + 0) 0)) (hp : args.all A.plain = true) (hle : args.length ≤ OB)
 (hne : rows ≠ []) (hrw : ∀ r ∈ rows, r ≠ []) (hl : ∀ x ∈ rest, ∃ v, x = .d (.lit v)) (hw : WkTs rest rest') (ha : ∀ x ∈ rest', x.isAgg = false)
 (h0 : f c0 = .free) (h1 : f c1 = .free) (hc : c0 ≠ c1) (hs : ∀ c, san (f c) = f c)
 (hf2 : f2 = updF (updF f c0 (.box (fl (dT (cSl 1 cU8)) rows))) c1 (.box (.hvw c0 0 E 1 rows.length :: rest'))) :
 FCH P fn args [] [] f f2 (.t (.hpt c1 0)) := by
 intro w m o vals hsat htbl hlt hinj hsz hrep
 have hob : OB2 = OB + OB := rfl
 have harg : ∀ s, RepA m w (fun _ => none) (argS args) s (argS args s) (vals.getD s undef) := fun s => by
  have h := hrep s
  unfold argS
  unfold argH at h
  rw [List.getD_eq_getElem?_getD]
  cases hx : args[s]? with
  | none => trivial
  | some x =>
   have hlt2 : s < args.length := (List.getElem?_eq_some_iff.1 hx).1
   simp only [if_pos (Nat.lt_of_lt_of_le hlt2 hle)] at h
   rw [List.getD_eq_getElem?_getD, hx] at h
   exact zFM (List.all_eq_true.1 hp x (List.mem_of_getElem? hx)) h
 have hheap : ∀ c, RepA m w o (argH args [] f) (OB + (OB + c)) (f c) undef := fun c => by
  have h := hrep (OB + (OB + c))
  have e : argH args [] f (OB + (OB + c)) = f c := by
   unfold argH
   rw [if_neg (by omega), if_pos (by omega), show OB + (OB + c) - OB2 = c by omega, hs]
  rw [e] at h
  have e2 : vals.getD (OB + (OB + c)) undef = undef := by
   rw [Array.getD_eq_getD_getElem?, Array.getElem?_eq_none (by omega)]
   rfl
  rw [e2] at h
  exact h
 have hfree : ∀ c, f c = .free → ∀ g k, o g ≠ some (OB + (OB + c), k) := fun c hc0 => by
  have h := hheap c
  rw [hc0] at h
  exact h
 have hloc : ∀ j, OB + j < OB2 → ∀ g k, o g ≠ some (OB + j, k) := fun j hj => by
  have h := hrep (OB + j)
  have e : argH args [] f (OB + j) = .free := by
   unfold argH
   rw [if_neg (by omega), if_neg (by omega)]
   rfl
  rw [e] at h
  exact h
 refine (hf w m (fun _ => none) vals hsat htbl (fun g l h => by cases h) (fun g g' l h => by cases h) hsz harg).mono ?_
 rintro e w' ⟨u, m', o', S', a', ρ, rfl, J, hr, hout⟩
 have hS : Same (fun _ => False) w w' := J.same.weaken fun g h => h rfl
 have hlow : ∀ b p v, m b p = some v → b < w.heap.size := fun b p v h => by
  have := World.block_lt_of_cell? w _ (hsat b p v h)
  simpa using this
 have hnew : ∀ g l, o' g = some l → w.heap.size ≤ g := fun g l h => (J.own g l h).resolve_left fun h => h rfl
 obtain ⟨gd, q1, rfl, -⟩ := hr
 have hbox := (hout (OB + 0) _ (List.mem_singleton.2 rfl)).1
 have hb := J.slots (OB + 0)
 rw [hbox] at hb
 obtain ⟨gd', -, b1, b2, cs, Ed, b3, b4, b5⟩ := hb
 obtain rfl := J.inj _ _ _ q1 b1
 obtain ⟨-, u0, k1, k2⟩ := b5 0 _ rfl
 obtain ⟨A', cap, xs, rfl, hown, hblk, hwid, hel⟩ := k2
 have hlen : (rows.map (cSl 1 cU8)).length = rows.length := List.length_map ..
 have hlen0 : rows.length ≠ 0 := fun e => hne (List.eq_nil_of_length_eq_zero e)
 obtain ⟨g, cap', cur, e1, -, hg, hcap, hmax, hsz2, htk⟩ := hown.2.resolve_left fun h => hlen0 (hlen ▸ h.2)
 injection e1 with e1 _ e2
 subst e1 e2
 obtain ⟨ho', hmg⟩ := hblk g rfl
 rw [hlen] at hcap htk
 have hgn := hnew g _ ho'
 have hgdn := hnew gd _ q1
 have hgg : g ≠ gd := fun e => by
  subst e
  rw [ho'] at q1
  injection q1 with q1
  injection q1 with _ q1
  cases q1
 have hglt := J.lt g _ ho'
 have hgdlt := J.lt gd _ q1
 let m2 : Mem := fun b => if b = g ∨ b = gd then fun _ => none else m' b
 let o2 : OwnM := fun b => if b = g then some (OB + (OB + c0), 0) else if b = gd then some (OB + (OB + c1), 0) else o b
 let S2 : Nat → A := fun s => if OB2 ≤ s then f2 (s - OB2) else .any
 have m2ne : ∀ b, b ≠ g → b ≠ gd → m2 b = m' b := fun b h h' => if_neg fun e => e.elim h h'
 have m2g : ∀ p, m2 g p = none := fun p => by show (if g = g ∨ g = gd then fun _ => none else m' g) p = none; rw [if_pos (.inl rfl)]
 have m2gd : ∀ p, m2 gd p = none := fun p => by show (if gd = g ∨ gd = gd then fun _ => none else m' gd) p = none; rw [if_pos (.inr rfl)]
 have o2g : o2 g = some (OB + (OB + c0), 0) := if_pos rfl
 have o2gd : o2 gd = some (OB + (OB + c1), 0) := by show (if gd = g then _ else _) = _; rw [if_neg (Ne.symm hgg), if_pos rfl]
 have o2ne : ∀ b, b ≠ g → b ≠ gd → o2 b = o b := fun b h h' => by show (if b = g then _ else _) = _; rw [if_neg h, if_neg h']
 have ohi : ∀ b l, o b = some l → b ≠ g ∧ b ≠ gd := fun b l h => ⟨fun e => by have := hlt b l h; omega, fun e => by have := hlt b l h; omega⟩
 have o2cs : ∀ b l, o2 b = some l → (b = g ∧ l = (OB + (OB + c0), 0)) ∨ (b = gd ∧ l = (OB + (OB + c1), 0)) ∨ (b ≠ g ∧ b ≠ gd ∧ o b = some l) := fun b l h => by
  by_cases e : b = g
  ·
   subst e; rw [o2g] at h; injection h with h; exact .inl ⟨rfl, h.symm⟩
  by_cases e' : b = gd
  ·
   subst e'; rw [o2gd] at h; injection h with h; exact .inr (.inl ⟨rfl, h.symm⟩)
  rw [o2ne b e e'] at h; exact .inr (.inr ⟨e, e', h⟩)
 have sat2 : ∀ b p v, m2 b p = some v → w'.cell? ⟨b, p, none⟩ = some v := fun b p v h => by
  by_cases e : b = g
  ·
   subst e; rw [m2g] at h; cases h
  by_cases e' : b = gd
  ·
   subst e'; rw [m2gd] at h; cases h
  rw [m2ne b e e'] at h; exact J.sat b p v h
 have mle : Mle m m2 := fun b p v h => by
  have hb := hlow b p v h
  rw [m2ne b (by omega) (by omega)]
  exact J.mono b p v h
 have hmv : ∀ p v, m' g p = some v → ∃ A n c, v = .slice A n c := fun p v h => by
  rw [hmg p] at h
  have hlt2 : p < xs.length := (List.getElem?_eq_some_iff.1 h).1
  have hxl : xs.length = rows.length := by rw [hown.1, hlen, Nat.mul_one]
  obtain ⟨row, hrow⟩ : ∃ row, rows[p]? = some row := ⟨_, List.getElem?_eq_getElem (by omega)⟩
  obtain ⟨v', z1, z2⟩ := hel p _ 0 _ (by rw [List.getElem?_map, hrow]; rfl) rfl
  rw [Nat.mul_one, Nat.add_zero, h] at z1
  injection z1 with z1
  subst z1
  cases z2
  exact ⟨_, _, _, rfl⟩
 have K : Keep (fun l => l.1 = OB + (OB + c0) ∨ l.1 = OB + (OB + c1)) m w o m2 w' o2 :=
  ⟨mle, fun b l h _ => by
   obtain ⟨a1, a2⟩ := ohi b l h
   rw [m2ne b a1 a2]
   exact J.old b (hlt b l h) fun h => h rfl, fun b l h _ => hS.block b (hlt b l h) id, fun b l h _ => by
   obtain ⟨a1, a2⟩ := ohi b l h
   rw [o2ne b a1 a2]
   exact h, fun b j h => by
   obtain ⟨a1, a2⟩ := ohi b _ h
   rw [o2ne b a1 a2]
   exact h, fun b s k hn h => by
   rcases o2cs b _ h with ⟨_, e⟩ | ⟨_, e⟩ | ⟨_, _, e⟩
   ·
    exact absurd (.inl (by rw [e])) hn
   ·
    exact absurd (.inr (by rw [e])) hn
   exact ⟨b, k, e⟩, fun b j h => .of_eq (hS.block b (hlt b _ h) id)⟩
 have hf2c : ∀ c, san (f2 c) = f2 c := fun c => by
  rw [hf2]
  unfold updF
  split
  ·
   rfl
  split
  ·
   rfl
  exact hs c
 refine ⟨_, m2, o2, S2, ⟨#[], []⟩, 0, rfl, ⟨hS.weaken fun _ h => h.elim, sat2, mle, fun b hb hn => ?_, fun b l h => ?_, fun b l h => ?_, fun b b' l h h' => ?_, fun s _ b h => ?_, fun s => ?_, rfl, htbl, Nat.zero_le _, fun b j h => ?_⟩, ⟨gd, o2gd, rfl⟩, fun i x h => by simp at h, fun c => ?_, by decide⟩
 ·
  rw [m2ne b (by omega) (by omega)]
  exact J.old b hb fun h => h rfl
 ·
  rcases o2cs b l h with ⟨e, _⟩ | ⟨e, _⟩ | ⟨_, _, e⟩
  ·
   subst e; exact .inr hgn
  ·
   subst e; exact .inr hgdn
  exact .inl (by show o b ≠ none; rw [e]; simp)
 ·
  rcases o2cs b l h with ⟨e, _⟩ | ⟨e, _⟩ | ⟨_, _, e⟩
  ·
   subst e; exact hglt
  ·
   subst e; exact hgdlt
  exact Nat.lt_of_lt_of_le (hlt b l e) hS.size
 ·
  rcases o2cs b l h with ⟨e, q⟩ | ⟨e, q⟩ | ⟨_, _, q⟩ <;> rcases o2cs b' l h' with ⟨e', q'⟩ | ⟨e', q'⟩ | ⟨_, _, q'⟩
  ·
   rw [e, e']
  ·
   rw [q] at q'; injection q' with q' _; omega
  ·
   subst q; exact absurd q' (hfree c0 h0 _ _)
  ·
   rw [q] at q'; injection q' with q' _; omega
  ·
   rw [e, e']
  ·
   subst q; exact absurd q' (hfree c1 h1 _ _)
  ·
   subst q'; exact absurd q (hfree c0 h0 _ _)
  ·
   subst q'; exact absurd q (hfree c1 h1 _ _)
  exact hinj _ _ _ q q'
 ·
  obtain ⟨a1, a2⟩ := ohi b _ h
  rw [o2ne b a1 a2]
  exact h
 ·
  show RepA m2 w' o2 S2 s (if OB2 ≤ s then f2 (s - OB2) else .any) ((#[] : Array Value).getD s undef)
  by_cases hs2 : OB2 ≤ s
  case neg => rw [if_neg hs2]; trivial
  rw [if_pos hs2]
  obtain ⟨c, rfl⟩ : ∃ c, s = OB + (OB + c) := ⟨s - OB2, by omega⟩
  rw [show OB + (OB + c) - OB2 = c by omega, hf2]
  unfold updF
  have hv : (#[] : Array Value).getD (OB + (OB + c)) undef = undef := by simp
  rw [hv]
  by_cases e1 : c = c1
  ·
   rw [if_pos e1]
   subst e1
   refine ⟨gd, fun h => absurd h (by omega), o2gd, m2gd, cs, Ed, b3, ?_, fun j x hj => ?_⟩
   ·
    have : rest'.length = rest.length := hw.get.1
    simpa [this] using b4
   cases j with
   | zero =>
    injection hj with hj
    subst hj
    exact ⟨rfl, _, k1, _, cap, hcap, hmax, by rw [hlen], .inr ⟨g, cur, E, o2g, rfl, hg, by omega, .inr rfl⟩⟩
   | succ j =>
    have hj : rest'[j]? = some x := by simpa using hj
    obtain ⟨y, y1, y2⟩ := hw.get.2 j x hj
    obtain ⟨v, rfl⟩ := hl y (List.mem_of_getElem? y1)
    obtain ⟨_, u1, z1, z2⟩ := b5 (j + 1) _ (by simpa using y1)
    refine ⟨ha x (List.mem_of_getElem? hj), u1, z1, y2.rep sat2 ?_⟩
    cases z2
    exact .lit _ (by assumption)
  rw [if_neg e1]
  by_cases e0 : c = c0
  ·
   rw [if_pos e0]
   subst e0
   refine ⟨g, fun h => absurd h (by omega), o2g, m2g, cur, E, hg, ?_, fun j x hj => ?_⟩
   ·
    rw [flSl, List.length_map]
    omega
   rw [flSl, List.getElem?_map] at hj
   cases hrow : rows[j]? with
   | none => rw [hrow] at hj; cases hj
   | some row =>
    rw [hrow] at hj
    injection hj with hj
    subst hj
    obtain ⟨v, z1, z2⟩ := hel j _ 0 _ (by rw [List.getElem?_map, hrow]; rfl) rfl
    have hjl : j < rows.length := (List.getElem?_eq_some_iff.1 hrow).1
    rw [Nat.mul_one, Nat.add_zero, ← htk, List.getElem?_take, if_pos (by omega)] at z1
    exact ⟨rfl, v, by simpa using z1, row_rep (hrw row (List.mem_of_getElem? hrow)) b2 hmv m2ne z2⟩
  rw [if_neg e0]
  refine (RepA.keep K (S' := S2) (fun j => by rintro (h | h) <;> omega) (fun b off e _ => by have h := hs c; rw [e] at h; cases h) (hheap c))
 ·
  exact ⟨.inr (by
   rcases Nat.lt_or_ge (OB + j) OB2 with h2 | h2
   ·
    exact absurd h (hloc j h2 _ _)
   exact h2), .of_eq (hS.block b (hlt b _ h) id)⟩
 show (if OB2 ≤ OB + (OB + c) then f2 (OB + (OB + c) - OB2) else .any) = san (f2 c)
 rw [if_pos (by omega), show OB + (OB + c) - OB2 = c by omega, hf2c]
theorem zJz (p0 : Int) (w0 : Hp) (r : (Option Nat) × Hp) (h : zFF p0 w0 = some r) : FCH Tryz.prog 6 [.t (.d (.lit (.int .i64 p0)))] [] [] (hpA w0) (hpA r.2) (.t (ptT 8 r.1)) := by
 obtain ⟨z, hz, h⟩ := bind_some h
 rcases zP h with ⟨h3, h⟩ | ⟨h3, h⟩
 ·
  exact qF h
 cases h
 rw [Bool.or_eq_false_iff] at h3
 refine zKn (c0 := cd 11 w0.ln_rs) (c1 := cd 8 w0.ln_rd) (rest' := [.own 97 2 [], .i (-1), .b false, .i 0]) (zJe p0 z hz) rfl (Nat.le_of_ble_eq_true rfl) (isE_ne h3.1) (fun r hr e => ?_) (fun x hx => ?_) (.cons (.nilOwn _ _) (.cons .r (.cons .r (.cons .r .nil)))) (fun x hx => ?_) (fr_rs _) ?_ ?_ (zJp _) ?_
 ·
  subst e
  have : z.any (fun r => r.isEmpty) = true := List.any_eq_true.2 ⟨[], hr, rfl⟩
  rw [this] at h3
  cases h3.2
 ·
  simp only [List.mem_cons, List.not_mem_nil, or_false] at hx
  rcases hx with rfl | rfl | rfl | rfl <;> exact ⟨_, rfl⟩
 ·
  simp only [List.mem_cons, List.not_mem_nil, or_false] at hx
  rcases hx with rfl | rfl | rfl | rfl <;> rfl
 ·
  exact fr_rd w0
 ·
  intro e
  have := congrArg (· % 64) e
  simp only [zKV (show 11 < 64 by omega), zKV (show 8 < 64 by omega)] at this
  omega
 rw [nw_rd, nw_rs]
 rfl
end Go.Proofs.YtjomnccladjpgaaGreat
