/-
  Texts joined: see the remark at the head of each part.
-/
import Derived.Test.YtjomnccladjpgaaD07
import Derived.Laws.CopyRow
set_option linter.unusedVariables false
set_option linter.unusedSimpArgs false
/-
 The heap as models tell it; rules for walks that a program writes, of functions that read and write the heap.
-/
namespace Go.Proofs.Ytjomnccladjpgaa
open Go Go.RowKit
set_option linter.unusedVariables false
def ptM {α : Type} (p : Option Nat) (a : Option α) (b : Nat → Option α) : Option α := match p with
 | none => a
 | some i => b i
theorem qQ {α : Type} {p : Option Nat} {a : Option α} {b : Nat → Option α} {r : α} (h : ptM p a b = some r) : (p = none ∧ a = some r) ∨ ∃ i, p = some i ∧ b i = some r := by
 cases p with
 | none => exact .inl ⟨rfl, h⟩
 | some i => exact .inr ⟨i, rfl, h⟩
def lenI (n m : Nat) : Option Unit := if n = m then some () else none
theorem zAu {n m : Nat} {u : Unit} (h : lenI n m = some u) : n = m := by
 unfold lenI at h
 by_cases e : n = m
 · exact e
 · rw [if_neg e] at h; cases h
theorem zIZ {n m : Nat} (h : n = m) : lenI n m = some () := if_pos h
def cd (t i : Nat) : Nat := i * 64 + t
theorem zGw {t i : Nat} (h : t < 64) : cd t i % 64 = t := by unfold cd; omega
theorem cd_div {t i : Nat} (h : t < 64) : cd t i / 64 = i := by unfold cd; omega
def ptT (t : Nat) : Option Nat → T
 | none => .d (.lit (.pointer none))
 | some i => .hpt (cd t i) 0
theorem zFb {t i : Nat} {p : Option Nat} (h : p = some i) : ptT t p = .hpt (cd t i) 0 := by rw [h]; rfl
theorem zHW (t : Nat) (p : Option Nat) : (ptT t p).isLoc = false := by cases p <;> rfl
theorem zFt {τ : List Nat} (t : Nat) (p : Option Nat) : PtR τ (ptT t p) (ptT t p) := by
 cases p with
 | none => exact .flat rfl
 | some i => exact .hpt _ _
theorem ptT_arg {σ : List Nat} (t : Nat) (p : Option Nat) : ArgH σ (.t (ptT t p)) (.t (ptT t p)) := by
 cases p with
 | none => exact .plain (.refl _) rfl
 | some i => exact .hpt _ _
theorem zG9 (t : Nat) (p : Option Nat) : cpT (ptT t p) = ptT t p := by cases p <;> rfl
theorem cp_nil : List.map cpT [] = [] := rfl
theorem zFg {a a' : T} {l l' : List T} (h : cpT a = a') (hl : List.map cpT l = l') : List.map cpT (a :: l) = a' :: l' := by rw [List.map_cons, h, hl]
theorem zM {M : Nat → A} {s t : Nat} {p : Option Nat} (h : M s = .t (ptT t p)) : cpO M (.tmp s) = .t (ptT t p) := by
 unfold cpO
 simp only [h]
 cases p <;> rfl
theorem yJ {M : Nat → A} {σ : List Nat} {s t : Nat} {p : Option Nat} (h : M s = .t (ptT t p)) : ArgH σ (cpO M (.tmp s)) (.t (ptT t p)) := by rw [zM h]; exact ptT_arg t p
theorem argVw {M : Nat → A} {σ : List Nat} {s i j off E k n n' : Nat} (h : M s = .t (.view j off E k n)) (hi : σ[i]? = some j) (hn : n = n') : ArgH σ (cpO M (.tmp s)) (.t (.view i off E k n')) := by
 subst hn
 have : cpO M (.tmp s) = .t (.view j off E k n) := by unfold cpO; simp only [h]; rfl
 rw [this]
 exact .view hi
theorem zA0 (t : Nat) (p : Option Nat) : norH (ptT t p) = some (.t (ptT t p)) := by cases p <;> rfl
theorem zDp {M : Nat → A} {s t : Nat} {p : Option Nat} (h : M s = .t (ptT t p)) (hp : p = none) : ptrN (cpO M (.tmp s)) = some true := by rw [zM h, hp]; rfl
theorem zDm {M : Nat → A} {s t i : Nat} {p : Option Nat} (h : M s = .t (ptT t p)) (hp : p = some i) : ptrN (cpO M (.tmp s)) = some false := by rw [zM h, hp]; rfl
theorem yA {t i : Nat} {p : Option Nat} (h : p = some i) : A.t (ptT t p) = .t (.hpt (cd t i) 0) := by rw [h]; rfl
theorem zAE {t : Nat} {p : Option Nat} (h : p = none) : A.t (ptT t p) = .t (.d (.lit (.pointer none))) := by rw [h]; rfl
def hpF (g : Nat → Nat → A) : Nat → A := fun c => g (c % 64) (c / 64)
theorem zEH {g : Nat → Nat → A} {t i : Nat} (h : t < 64) : hpF g (cd t i) = g t i := by unfold hpF; rw [zGw h, cd_div h]
theorem zDj {g g' : Nat → Nat → A} {t i : Nat} {x : A} (ht : t < 64) (h1 : g' t i = x) (h2 : ∀ t' j, ¬ (t' = t ∧ j = i) → g' t' j = g t' j) : hpF g' = updF (hpF g) (cd t i) x := by
 funext c
 unfold hpF updF
 by_cases e : c = cd t i
 ·
  subst e
  rw [if_pos rfl, zGw ht, cd_div ht, h1]
 ·
  rw [if_neg e]
  refine h2 _ _ fun ⟨e1, e2⟩ => e ?_
  unfold cd
  omega
theorem hpF_pure {g : Nat → Nat → A} (h : ∀ t i l, g t i = .box l → ∀ x ∈ l, x.isLoc = false) : zDa (hpF g) := fun c l hl => h _ _ l hl
theorem rn_pure {x : A} (h : ∀ l, x = .box l → ∀ y ∈ l, y.isLoc = false) (hx : san x = x) (j c : Nat) : rnA j c x = x := by
 cases x with
 | box l =>
  show A.box (l.map (rnT j c)) = _
  congr 1
  conv => rhs; rw [← List.map_id l]
  refine List.map_congr_left fun y hy => ?_
  have := h l rfl y hy
  cases y <;> first | rfl | (cases this; done) | (rename_i i; have this : Nat.blt i OB = false := this; show (bif Nat.blt i OB && Nat.beq i j then T.mpt (OB + c) else .mpt i) = _; rw [this]; rfl)
 | free => rfl
 | mp l => rfl
 | any => rfl
 | rcd b u mE oE => rfl
 | _ => cases hx
def arA {α : Type} (l : List α) (f : Nat → α → List T) (i : Nat) : A := match l[i]? with
 | some x => .box (f i x)
 | none => .free
section
variable {α : Type} {l : List α} {f : Nat → α → List T} {i : Nat} {x x' : α}
theorem zFq (h : l[i]? = some x) : arA l f i = .box (f i x) := by unfold arA; rw [h]
theorem arA_ne {j : Nat} (h : j ≠ i) : arA (l.set i x') f j = arA l f j := by unfold arA; rw [List.getElem?_set_ne (Ne.symm h)]
theorem zAG (h : l[i]? = some x) : (l.set i x')[i]? = some x' := by
 rw [List.getElem?_set_self (List.getElem?_eq_some_iff.1 h).1]
theorem arA_eq (h : l[i]? = some x) : arA (l.set i x') f i = .box (f i x') := zFq (zAG h)
theorem zFI : arA l f l.length = .free := by unfold arA; rw [List.getElem?_eq_none (Nat.le_refl _)]
theorem zGU : arA (l ++ [x]) f l.length = .box (f l.length x) := by
 unfold arA
 rw [List.getElem?_append_right (Nat.le_refl _)]
 simp
theorem zGW {j : Nat} (h : j ≠ l.length) : arA (l ++ [x]) f j = arA l f j := by
 unfold arA
 rcases Nat.lt_or_ge j l.length with h1 | h1
 · rw [List.getElem?_append_left h1]
 · rw [List.getElem?_eq_none (by simp; omega), List.getElem?_eq_none h1]
theorem zFY (h : ∀ i x, ∀ y ∈ f i x, y.isLoc = false) (q : List T) (e : arA l f i = .box q) : ∀ y ∈ q, y.isLoc = false := by
 unfold arA at e
 split at e
 · injection e with e; subst e; exact h _ _
 · cases e
end
theorem zGj {α : Type} (l : List α) (f : Nat → α → List T) (i : Nat) : san (arA l f i) = arA l f i := by unfold arA; split <;> rfl
def dT {α : Type} (c : α → List D) (a : α) : List T := (c a).map T.d
theorem zEG {α : Type} {c : α → List D} {k : Nat} (h : ∀ a, (c a).length = k) (a : α) : (dT c a).length = k := by unfold dT; rw [List.length_map, h]
theorem zCm {α : Type} (c : α → List D) (l : List α) : fl (dT c) l = ((l.map c).flatMap id).map T.d := by
 unfold fl dT
 induction l with
 | nil => rfl
 | cons a r ih => simp only [List.flatMap_cons, List.map_cons, List.map_append, id_eq, ih]
theorem fl_loc {α : Type} (c : α → List D) (l : List α) : ∀ y ∈ fl (dT c) l, y.isLoc = false := by
 intro y hy
 obtain ⟨a, _, h⟩ := List.mem_flatMap.1 hy
 obtain ⟨d, _, rfl⟩ := List.mem_map.1 h
 rfl
theorem zP {α : Type} (c : α → List D) (l : List α) : noPt (fl (dT c) l) = true := by
 refine List.all_eq_true.2 fun y hy => ?_
 obtain ⟨a, _, h⟩ := List.mem_flatMap.1 hy
 obtain ⟨d, _, rfl⟩ := List.mem_map.1 h
 rfl
theorem zIV {α : Type} {c : α → List D} {c0 : List T} {z : α} (h : dT c z = c0) (q : Nat) : fl (fun _ => c0) (List.replicate q ()) = fl (dT c) (List.replicate q z) := by
 unfold fl
 induction q with
 | zero => rfl
 | succ q ih => rw [List.replicate_succ, List.replicate_succ, List.flatMap_cons, List.flatMap_cons, ih, h]
theorem zEW {α : Type} {c : α → List D} {k : Nat} (h : ∀ a, (c a).length = k) (l : List α) : ∀ r ∈ l.map c, r.length = k := by
 intro r hr
 obtain ⟨a, _, rfl⟩ := List.mem_map.1 hr
 exact h a
theorem fl_put {α : Type} {c : α → List D} {l : List α} {z : Int} {y : α} (h : idx l z = some y) (v : α) (hc : ∀ a, (c a).length = 1) {q : List T} (hq : dT c v = q) : qT (fl (dT c) l) (0 + z.toNat * 1) q = fl (dT c) (l.set z.toNat v) := by
 have hl : q.length = 1 := by rw [← hq]; exact zEG hc v
 have := zIK (c := dT c) (k := 1) (zEG hc) (zDu h).2.2 (q := 0) (b := v) (d := q) (by
  unfold qT
  rw [hq, hl, List.take_zero, List.nil_append, List.drop_of_length_le (by rw [zEG hc]; omega), List.append_nil]) (by omega)
 rw [Nat.zero_add]
 rw [Nat.add_zero] at this
 exact this
theorem fl_room {α : Type} {c : α → List D} {l : List α} {z : Int} {y : α} (h : idx l z = some y) (hc : ∀ a, (c a).length = 1) : 0 + z.toNat * 1 + 1 ≤ (fl (dT c) l).length := by
 have h1 := zDu h
 rw [zFL (zEG hc)]
 omega
theorem idxV {α : Type} {l : List α} {z : Int} {y : α} {n : Nat} (hn : l.length = n) (h : idx l z = some y) : 0 ≤ z ∧ z < (n : Int) := by
 subst hn
 exact ⟨(zDu h).1, (zDu h).2.1⟩
section
variable {P : Program} {pins : List Nat} {N : Nat} {S M : Nat → A} {op : Oper} {d c : Nat}
theorem ok_hnc (hM : Mk M S) {off : Nat} {x : Operand} {z : T} (hop : op.op = .nilCheck x) (hx : cpO M x = .t z) (hz : z = .hpt c off) (hd : op.dst = some d) (hok : okD N pins S d = true) : OpOK P pins N op S (upd S d (.t (.hpt c off))) := by
 subst hz
 refine zFE hM hd hok ?_
 rw [hop]
 show (match cpO M x with | .imm l => some (A.imm l) | .ref b off => some (.ref b off) | .t (.hpt c off) => some (.t (.hpt c off)) | _ => none) = _
 rw [hx]
theorem h_nc (hM : Mk M S) {off : Nat} {x : Operand} {z : T} (hop : op.op = .nilCheck x) (hx : cpO M x = .t z) (hz : z = .hpt c off) (hd : op.dst = some d) (hok : okD N pins S d = true) : OpH P pins N op S (app S [(d, .t (.hpt c off))]) :=
 .of (e := [(d, _)]) fun hN => ⟨ok_hnc hM.hx hop hx hz hd (qX hN hok), zBU (qN hN hok)⟩
theorem h_mv (hM : Mk M S) {x : Operand} {y : A} (hop : op.op = .move x ∨ op.op = .assign x) (hx : cpO M x = y) (hd : op.dst = some d) (hok : okD N pins S d = true) : OpH P pins N op S (app S [(d, y)]) := by
 refine .of (e := [(d, _)]) fun hN => ⟨zFE hM.hx hd (qX hN hok) ?_, zBU (qN hN hok)⟩
 rcases hop with e | e <;> (rw [e]; show some (cpO M x) = _; rw [hx])
end
def fgtL : List Nat → SL → SL
 | [], L => L
 | j :: r, L => fgtL r ((OB + j, .free) :: zDk j HK L)
def fgtB (pins : List Nat) : List Nat → SL → Bool
 | [], _ => true
 | j :: r, L => Nat.blt (j + 1) OB && !pins.contains (OB + j) && zHE j HK L && fgtB pins r ((OB + j, .free) :: zDk j HK L)
section
variable {P : Program} {pins : List Nat} {N : Nat} {Q : Exit → SL → Prop} {L L' : SL}
theorem St.fgt1 {w0 : World} {m0 : Mem} {o0 : OwnM} {G : GD} {a : Act} {w : World} (hS : St w0 m0 o0 G pins N L a w) {j : Nat} (hc : (Nat.blt (j + 1) OB && !pins.contains (OB + j) && zHE j HK L) = true) (hh : zF3 L) : St w0 m0 o0 G pins N ((OB + j, .free) :: zDk j HK L) a w := by
  simp only [Bool.and_eq_true, Bool.not_eq_true', List.contains_eq_mem, decide_eq_false_iff_not] at hc
  obtain ⟨⟨c2, c3⟩, c6⟩ := hc
  have c2 : j + 1 < OB := by simpa using c2
  obtain ⟨hN, hlo, m, o, I⟩ := hS
  have hL2 : ∀ s, gt (zDk j HK L) s = gt L s ∨ (gt (zDk j HK L) s = .any ∧ (gt L s).isBox = false) := fun s => by
    rw [zD7]
    cases hm : (Nat.blt s OB && (zDH j (gt L s) && !Nat.beq s HK)) with
    | true => exact .inr ⟨rfl, zGs c6 s hm⟩
    | false => exact .inl rfl
  have hk2 : gt (zDk j HK L) HK = gt L HK := zCp L (by unfold HK OB; omega)
  obtain ⟨hlo2, hx2⟩ := hx_less hlo hk2 hL2
  have I2 := I.less hx2
  have hm : ∀ s, zDH j (hx (gt (zDk j HK L)) s) = false := fun s => by
    rcases Nat.lt_or_ge s OB2 with h3 | h3
    · rw [zDZ h3]
      rcases Nat.lt_or_ge s OB with h4 | h4
      · rw [zD7]
        have hsd : Nat.beq s HK = false := by
          cases hb : Nat.beq s HK with
          | false => rfl
          | true => have := Nat.eq_of_beq_eq_true hb
                    unfold HK at this; unfold OB at h4
                    omega
        have hso : Nat.blt s OB = true := by simpa using h4
        rw [hsd, hso]
        cases hm : zDH j (gt L s) with
        | true => rfl
        | false => exact hm
      · rw [zCp L h4]; exact hh.2 s h4 j
    · obtain ⟨k, rfl⟩ : ∃ k, s = OB2 + k := ⟨s - OB2, by omega⟩
      exact zHv hlo2 (by rw [hk2]; exact hh.1) k
  have e1 : OB + j < OB2 := by unfold OB OB2 at *; omega
  have e2 : OB + j ≠ HK := by unfold HK; unfold OB at *; omega
  refine ⟨hN, ?_, m, zGu o j, ?_⟩
  · rw [qH]
    exact hlo2.upd e1
  · rw [qH, zBt e1 e2]
    exact I2.forget (by omega) c3 hm
theorem heapP_fgt {j : Nat} (hj : Nat.blt (j + 1) OB = true) (hh : zF3 L) : zF3 ((OB + j, .free) :: zDk j HK L) := by
 have h2 := (zKI hj).2.1
 have e : gt ((OB + j, .free) :: zDk j HK L) HK = gt L HK := by
  rw [qH, zH (Ne.symm h2), zCp L (by unfold HK OB; omega)]
 unfold zF3
 rw [e]
 exact ⟨hh.1, hh.2.fgt⟩
theorem St.fgt {w0 : World} {m0 : Mem} {o0 : OwnM} {G : GD} {a : Act} {w : World} (js : List Nat) : ∀ (L : SL), St w0 m0 o0 G pins N L a w → fgtB pins js L = true → zF3 L → St w0 m0 o0 G pins N (fgtL js L) a w := by
 induction js with
 | nil => exact fun L h _ _ => h
 | cons j r ih =>
  intro L h hb hh
  unfold fgtB at hb
  rw [Bool.and_eq_true] at hb
  have hj : Nat.blt (j + 1) OB = true := by have := hb.1; simp only [Bool.and_eq_true] at this; exact this.1.1
  exact ih _ (h.fgt1 hb.1 hh) hb.2 (heapP_fgt hj hh)
theorem zC4 {X : Type} {c : Code} (F : X → SL) (M : Nat → X → Prop) (n0 : Nat) (x0 : X) (js0 : List Nat) (h0 : M n0 x0) (hb : fgtB pins js0 L = true) (hh : zF3 L) (hw : WkS (fgtL js0 L) (F x0)) (hr : zEq (F x0) = true)
  (round : ∀ n x, M n x → qI P pins N c (zEg (fun L' => ∃ n' x' js, n' < n ∧ M n' x' ∧ fgtB pins js L' = true ∧ zF3 L' ∧ WkS (fgtL js L') (F x') ∧ zEq (F x') = true) Q) (F x)) : qI P pins N (.loop c) Q L := by
 intro Fe ne hF w0 m0 o0 G a w hS
 refine zIh (L := F x0) (fun n L => ∃ x, M n x ∧ L = F x) n0 ⟨x0, h0, rfl⟩ ?_ Fe ne hF w0 m0 o0 G a w (St.weaken (hS.fgt _ _ hb hh) hw hr)
 rintro n L ⟨x, hI, rfl⟩
 intro Fe ne hF w0 m0 o0 G a w hS
 refine wpIn_mono (round n x hI Fe ne hF w0 m0 o0 G a w hS) ?_
 rintro e a' w' ⟨L', hq, hS'⟩
 refine ⟨L', ?_, hS'⟩
 cases e with
 | normal =>
  obtain ⟨n', x', js, hlt, hI', q1, q2, hw', hr'⟩ := hq
  exact ⟨n', F x', hlt, ⟨x', hI', rfl⟩, fun _ _ _ _ _ _ h => St.weaken (h.fgt _ _ q1 q2) hw' hr'⟩
 | _ => exact hq
theorem zEZ {X : Type} {x y : Code} (F : X → SL) (I : X → Prop) (h : qI P pins N x (zEg (fun L' => ∃ x' js, I x' ∧ fgtB pins js L' = true ∧ zF3 L' ∧ WkS (fgtL js L') (F x') ∧ zEq (F x') = true) Q) L) (h2 : ∀ x', I x' → qI P pins N y Q (F x')) : qI P pins N (.seq x y) Q L := by
 refine zL fun Fe ne hF w0 m0 o0 G a w hS => wpIn_mono (h Fe ne hF w0 m0 o0 G a w hS) ?_
 rintro e a' w' ⟨L', hq, hS'⟩
 cases e with
 | normal =>
  obtain ⟨x', js, hI, q1, q2, hw, hr⟩ := hq
  exact ⟨F x', h2 x' hI, St.weaken (hS'.fgt _ _ q1 q2) hw hr⟩
 | _ => exact ⟨L', hq, hS'⟩
theorem WkA.vwn {j off E k n n' : Nat} (h : n = n') : WkA (.t (.view j off E k n)) (.t (.view j off E k n')) := by rw [h]; exact .refl _
theorem WkA.of_eq {x y : A} (h : x = y) : WkA x y := by rw [h]; exact .refl _
end
theorem fc_of_h {P : Program} {fn : FuncId} {args : List A} {f f' : Nat → A} {r : A} (hf : FCH P fn args [] [] f f' r) (h0 : ∀ c, san (f c) = .free) (hp : args.all A.plain = true) (hle : args.length ≤ OB) : FC P fn args [] r := by
 intro w m o vals hsat htbl hlt hinj hsz hrep
 refine (hf w m o vals hsat htbl (fun g l h => (hlt g l h).1) hinj hsz fun s => ?_).mono ?_
 ·
  unfold argH
  split
  ·
   rename_i h
   have h1 := hrep s
   unfold argS at h1
   rw [List.getD_eq_getElem?_getD] at h1 ⊢
   cases hx : args[s]? with
   | none => trivial
   | some x =>
    rw [hx] at h1
    exact zEs (List.all_eq_true.1 hp x (List.mem_of_getElem? hx)) h1
  ·
   rename_i h
   have key : RepA m w o (fun s => if s < OB then args.getD s .any else if OB2 ≤ s then san (f (s - OB2)) else match ([] : List A)[s - OB]? with | some x => x | none => .free) s .free (vals.getD s undef) := fun g k e => h (hlt g _ e).2
   split
   · rw [h0]; exact key
   · exact key
 ·
  rintro e w' ⟨u, m', o', S', a', ρ, h1, h2, h3, _⟩
  rw [zFn hp]
  exact ⟨u, m', o', S', a', ρ, h1, h2, h3, fun i l h => by cases h⟩
theorem isE_ne {α : Type} {l : List α} (h : l.isEmpty = false) : l ≠ [] := fun e => by rw [e] at h; cases h
end Go.Proofs.Ytjomnccladjpgaa

/-
 The model of slices.Clone over sectors.
-/
namespace Go.Proofs.Ytjomnccladjpgaa
open Go Go.RowKit
set_option linter.unusedVariables false
end Go.Proofs.Ytjomnccladjpgaa

/-
 append onto a slice of an object: the object grows, or its cells move to a new block.
-/
namespace Go.Proofs.Ytjomnccladjpgaa
open Go Go.RowKit
set_option linter.unusedVariables false
section
variable {w0 : World} {m0 : Mem} {o0 : OwnM} {G : GD} {pins : List Nat} {S M : Nat → A} {a : Act} {w : World} {m : Mem} {o : OwnM} {P : Program} {N : Nat}
theorem Inv.adopt (I : Inv w0 m0 o0 G pins S a w m o) {j g : Nat} {l : List T} {cs cs' : Array Value} {E : Nat} (hfree : S (OB + j) = .free) (hg : w.heap[g]? = some (.cells cs E (0, 0))) (hsz : cs'.size = cs.size) (ho : o g = none) (hG : G g ∨ w0.heap.size ≤ g) (hm : ∀ p, m g p = none) (hlen : l.length ≤ cs'.size)
  (hc : ∀ (i : Nat) (x : T), l[i]? = some x → ∃ d, x = .d d ∧ ∃ u, cs'[i]? = some u ∧ RepD m d u) :
  Inv w0 m0 o0 G pins (upd S (OB + j) (.box l)) a (w.setRow g cs') m (newO o (OB + j) g) := by
 have hf : ∀ g k, o g ≠ some (OB + j, k) := by have := I.slots (OB + j); rw [hfree] at this; exact this
 have hother : ∀ k, k ≠ g → (w.setRow g cs').heap[k]? = w.heap[k]? := fun k hk => setRow_other w g k cs' hk
 have hS : Same (fun x => G x ∨ w0.heap.size ≤ x) w (w.setRow g cs') := ⟨rfl, rfl, rfl, by simp, fun k _ hk => hother k fun e => hk (by rw [e]; exact hG), fun q => (zAb hg hsz q).w⟩
 have hglt : g < w.heap.size := (Array.getElem?_eq_some_iff.1 hg).1
 have hne : ∀ b l, o b = some l → b ≠ g := fun b l h e => by rw [e, ho] at h; cases h
 have hk : ∀ b l, o b = some l → newO o (OB + j) g b = some l := by
  intro b l h
  unfold newO
  rw [if_neg (hne b l h), h, if_neg]
  intro e
  obtain ⟨s, k⟩ := l
  injection e with e
  subst e
  exact hf b k h
 have hk' : ∀ b l, newO o (OB + j) g b = some l → (b = g ∧ l = (OB + j, 0)) ∨ (b ≠ g ∧ o b = some l) := by
  intro b l h
  unfold newO at h
  split at h
  · rename_i e; injection h with h; exact .inl ⟨e, h.symm⟩
  ·
   split at h
   · cases h
   · rename_i e _; exact .inr ⟨e, h⟩
 have hsh : ∀ g', zBA w (w.setRow g cs') g' := zAb hg hsz
 have K : Keep (fun l => l.1 = OB + j) m w o m (w.setRow g cs') (newO o (OB + j) g) :=
  ⟨Mle.refl _, fun _ _ _ _ => rfl, fun b l h _ => hother b (hne b l h), fun b l h _ => hk b l h, fun b j' h => hk b _ h, fun b s k hs h => by
   rcases hk' b _ h with ⟨_, e⟩ | ⟨_, e⟩
   · injection e with e _; exact absurd e hs
   · exact ⟨b, k, e⟩, fun g _ _ => hsh g⟩
 refine ⟨I.same.trans hS, fun b p u h => ?_, I.mono, I.old, fun g' l h => ?_, fun g' l h => ?_, fun g1 g2 l h h' => ?_, fun s hs g hg => hk g _ (I.pinned s hs g hg), fun s => ?_, I.defers, I.tbl, I.wide, I.shps.keep I.pinned K.sh⟩
 ·
  have h1 := I.sat b p u h
  have hb : b ≠ g := fun e => by rw [e, hm] at h; cases h
  rw [World.cell?_of_block (w := w) (hother b hb)]
  exact h1
 ·
  rcases hk' g' l h with ⟨e, _⟩ | ⟨_, e⟩
  · subst e; exact hG
  · exact I.own g' l e
 ·
  rcases hk' g' l h with ⟨e, _⟩ | ⟨_, e⟩
  · subst e; exact Nat.lt_of_lt_of_le hglt hS.size
  · exact Nat.lt_of_lt_of_le (I.lt g' l e) hS.size
 ·
  rcases hk' g1 l h with ⟨e, q⟩ | ⟨_, e⟩ <;> rcases hk' g2 l h' with ⟨e', q'⟩ | ⟨_, e'⟩
  · rw [e, e']
  · subst q; exact absurd e' (hf _ _)
  · subst q'; exact absurd e (hf _ _)
  · exact I.inj _ _ _ e e'
 ·
  by_cases e : s = OB + j
  ·
   subst e
   rw [zZ]
   refine ⟨g, fun h => absurd h (by omega), zAD _ _ _, hm, cs', E, setRow_heap w g cs cs' E _ hg, hlen, fun i x hi => ?_⟩
   obtain ⟨d, rfl, u, h2, h3⟩ := hc i x hi
   exact ⟨rfl, u, h2, h3⟩
  ·
   rw [zH e]
   exact RepA.keep K (fun _ => e) (fun b off _ hb => ⟨fun e' => by have : b = OB + j := e'; omega, fun ⟨l', hl'⟩ => ⟨l', by rw [zH (by omega), hl']⟩⟩) (I.slots s)
theorem upd_twice (S : Nat → A) (b : Nat) (x y : A) : upd (upd S b x) b y = upd S b y := by
 funext t
 unfold upd
 split <;> rfl
end
end Go.Proofs.Ytjomnccladjpgaa

/-
 Slices that grow and are written: an object that need not be there while the slice is empty.
-/
namespace Go.Proofs.Ytjomnccladjpgaa
open Go Go.RowKit
set_option linter.unusedVariables false
def gbA {α : Type} (c : α → List D) : List α → A
 | [] => .free
 | a :: l => .box (fl (dT c) (a :: l))
theorem gb_ne {α : Type} {c : α → List D} {y : List α} (h : y ≠ []) : gbA c y = .box (fl (dT c) y) := by
 cases y with
 | nil => exact absurd rfl h
 | cons a l => rfl
theorem zAJ {α : Type} (c : α → List D) (y : List α) (j : Nat) : zDH j (gbA c y) = false := by
 cases y with
 | nil => rfl
 | cons a l => exact qW (zP c _) j
theorem zHS {α : Type} {c : α → List D} {l : List α} {z : Int} {y : α} {k q : Nat} (h : idx l z = some y) (v : α) (hc : ∀ a, (c a).length = k) {x : List T} (hx : qT (dT c y) q x = dT c v) (hq : Nat.ble (q + x.length) k = true) : qT (fl (dT c) l) (0 + z.toNat * k + q) x = fl (dT c) (l.set z.toNat v) := by
 have := zIK (c := dT c) (k := k) (zEG hc) (zDu h).2.2 (q := q) (b := v) (d := x) hx (by simpa using hq)
 rw [Nat.zero_add]
 exact this
theorem zF9 {α : Type} {c : α → List D} {l : List α} {z : Int} {y : α} {k q n : Nat} (h : idx l z = some y) (hc : ∀ a, (c a).length = k) (hq : Nat.ble (q + n) k = true) : 0 + z.toNat * k + q + n ≤ (fl (dT c) l).length := by
 have h1 := zDu h
 rw [zFL (zEG hc)]
 have h2 : z.toNat + 1 ≤ l.length := by omega
 have h3 := Nat.mul_le_mul_right k h2
 rw [Nat.succ_mul] at h3
 have h4 : q + n ≤ k := by simpa using hq
 omega
theorem nr_nil {L0 : SL} : zDE L0 [] = true := rfl
theorem zHk {L0 : SL} {s : Nat} {x : A} {r : SL} (h : (match x with | .ref b _ => (gt L0 b).isBox | _ => true) = true) (hr : zDE L0 r = true) : zDE L0 ((s, x) :: r) = true := by
 unfold zDE
 rw [Bool.and_eq_true]
 exact ⟨h, hr⟩
theorem nr_gb {α : Type} (L0 : SL) (c : α → List D) (y : List α) : (match gbA c y with | .ref b _ => (gt L0 b).isBox | _ => true) = true := by cases y <;> rfl
theorem nr_of {L : SL} (h : zDE L L = true) : zEq L = true := h
def NoM (j : Nat) (ex : List Nat) (L : SL) : Prop := ∀ s, ex.contains s = false → zDH j (gt L s) = false
theorem NoM.nil {j : Nat} {ex : List Nat} : NoM j ex [] := fun _ _ => rfl
theorem NoM.cons {j : Nat} {ex : List Nat} {s : Nat} {x : A} {L : SL} (h : zDH j x = false) (hr : NoM j (s :: ex) L) : NoM j ex ((s, x) :: L) := fun t ht => by
 rw [qH]
 unfold upd
 by_cases e : t = s
 · rw [if_pos e]; exact h
 ·
  rw [if_neg e]
  exact hr t (by rw [List.contains_cons, ht, Bool.or_false]; exact beq_eq_false_iff_ne.2 e)
theorem NoM.skip {j : Nat} {ex : List Nat} {s : Nat} {x : A} {L : SL} (h : ex.contains s = true) (hr : NoM j ex L) : NoM j ex ((s, x) :: L) := fun t ht => by
 rw [qH]
 unfold upd
 by_cases e : t = s
 · rw [e, h] at ht; cases ht
 · rw [if_neg e]; exact hr t ht
section
variable {w0 : World} {m0 : Mem} {o0 : OwnM} {G : GD} {pins : List Nat} {S M : Nat → A} {P : Program} {N : Nat} {Q : Exit → SL → Prop} {L : SL} {op : Oper} {d : Nat}
theorem fl_rows {α : Type} (c : α → List D) (l : List α) : fl (dT c) l = ((l.map c).flatMap id).map T.d := zCm c l
theorem NoM.get {j : Nat} {ex : List Nat} (h : NoM j ex L) : ∀ s, ex.contains s = false → zDH j (gt L s) = false := h
end
end Go.Proofs.Ytjomnccladjpgaa

/-
 A call's own slice, told as a slice of a local object; the greater of two numbers.
-/
namespace Go.Proofs.Ytjomnccladjpgaa
open Go Go.RowKit
set_option linter.unusedVariables false
def D.isLit : D → Bool | .lit _ => true | _ => false
section
variable {w0 : World} {m0 : Mem} {o0 : OwnM} {G : GD} {pins : List Nat} {S M : Nat → A} {a : Act} {w : World} {m : Mem} {o : OwnM} {P : Program} {N : Nat} {op : Oper} {d : Nat}
theorem call_obj (I : Inv w0 m0 o0 G pins S a w m o) {f : FuncId} {args : List A} {E k j : Nat} {rs : List (List D)} (hf : FC P f args [] (.t (.own E k rs))) (hp : args.all A.plain = true) {vals : Array Value} (hv : vals.size = args.length) (hr : ∀ i x, args[i]? = some x → ∃ s, RepA m w o S s x (vals.getD i undef))
  {d : Nat} (hd : d < a.tmps.size) (hdO : d < OB) (hbox : (S d).isBox = false) (hfree : S (OB + j) = .free) (hne : rs ≠ []) (hk : 0 < k) (hlit : ∀ r ∈ rs, ∀ x ∈ r, x.isLit = true) (hEO : Nat.blt E OFB = true) :
  Calls P f vals w fun e w' => ∃ u o', e = .returned u ∧ Inv w0 m0 o0 G pins (upd (upd S (OB + j) (.box ((rs.flatMap id).map .d))) d (.t (.view j 0 E k rs.length))) (a.put (some d) u) w' m o' := by
 have hrep : ∀ s, RepA m w (fun _ => none) (argS args) s (argS args s) (vals.getD s undef) := by
  intro s
  unfold argS
  rw [List.getD_eq_getElem?_getD]
  cases hx : args[s]? with
  | none => trivial
  | some x =>
   obtain ⟨s', h⟩ := hr s x hx
   exact zEs (List.all_eq_true.1 hp x (List.mem_of_getElem? hx)) h
 refine (hf w m (fun _ => none) vals I.sat (I.tbl.trans I.mono) (fun _ _ h => by cases h) (fun _ _ _ h => by cases h) hv hrep).mono ?_
 rintro e w' ⟨u, m', o', S', a', ρ, rfl, J, hr, _⟩
 rw [zFn hp] at J
 have hS : Same (fun _ => False) w w' := J.same.weaken fun g h => h rfl
 have hnew : ∀ g l, o' g = some l → w.heap.size ≤ g := fun g l h => (J.own g l h).resolve_left fun h => h rfl
 have hlow : ∀ b p u, m b p = some u → b < w.heap.size := fun b p u h => by
  have := World.block_lt_of_cell? w _ (I.sat b p u h)
  simpa using this
 obtain ⟨A', cap, xs, rfl, hown, hblk, hwid, hel⟩ := hr
 have hlen0 : rs.length ≠ 0 := fun e => hne (List.eq_nil_of_length_eq_zero e)
 obtain ⟨g, q, cap', cur, e1, ⟨E2, hg, hE2⟩, hcap, hmax, _, htk⟩ := hown.2.resolve_left fun h => hlen0 h.2
 obtain ⟨hEE, rfl, hsz⟩ := hE2.resolve_left fun h => by rw [h] at hEO; simp at hEO
 rw [hEE] at hg
 rw [List.drop_zero] at htk
 injection e1 with e1 _ e2
 subst e1 e2
 obtain ⟨ho', hmg⟩ := hblk g rfl
 have hmg : ∀ p, p < cap * k → m' g p = xs[p]? := fun p hp => by
  have := hmg p hp
  rwa [show offA (some ⟨g, 0, none⟩) + p = p from Nat.zero_add p] at this
 have hgn := hnew g _ ho'
 have J1 := I.put (w' := w') (m' := m) d .any (.slice (some ⟨g, 0, none⟩) rs.length cap) hd hbox trivial (I.same.trans (hS.weaken fun _ h => h.elim)) (fun b p v h => by
  have hb := hlow b p v h
  rw [World.cell?_of_block (w := w) (hS.block b hb id)]
  exact I.sat b p v h) (Mle.refl _) (fun _ _ => rfl) (fun g hg => hS.block g hg id) hS.size
 have hrl : ∀ r ∈ rs, r.length = k := fun r hr => by
  obtain ⟨i, hi⟩ := List.getElem?_of_mem hr
  exact hwid i r hi
 have hlen : ((rs.flatMap id).map T.d).length = rs.length * k := by rw [List.length_map, zDR hrl]
 have J2 := J1.adopt (j := j) (g := g) (l := (rs.flatMap id).map T.d) (cs := cur) (cs' := cur) (E := E) (by rw [zH (by omega)]; exact hfree) hg rfl (by
  cases h : o g with
  | none => rfl
  | some l => exact absurd (I.lt g l h) (by omega)) (.inr (Nat.le_trans I.same.size hgn)) (fun p => by
  cases h : m g p with
  | none => rfl
  | some u => exact absurd (hlow g p u h) (by omega)) (by rw [hlen, hsz]; exact Nat.mul_le_mul_right _ hcap) (fun i x hi => by
  have hlt : i < rs.length * k := by rw [← hlen]; exact (List.getElem?_eq_some_iff.1 hi).1
  have hi1 : i / k < rs.length := Nat.div_lt_of_lt_mul (by rw [Nat.mul_comm]; exact hlt)
  have hi2 : i % k < k := Nat.mod_lt _ hk
  have he : i / k * k + i % k = i := by rw [Nat.mul_comm]; exact Nat.div_add_mod i k
  obtain ⟨r, hr⟩ : ∃ r, rs[i / k]? = some r := ⟨_, List.getElem?_eq_getElem hi1⟩
  have hrm := List.mem_of_getElem? hr
  obtain ⟨dd, hdd⟩ : ∃ dd, r[i % k]? = some dd := ⟨_, List.getElem?_eq_getElem (by rw [hrl r hrm]; exact hi2)⟩
  have h2 := zCP hrl hr hi2
  rw [he, hdd] at h2
  rw [List.getElem?_map, h2] at hi
  injection hi with hi
  subst hi
  obtain ⟨u, k1, k2⟩ := hel _ r _ dd hr hdd
  rw [he, ← htk, List.getElem?_take, if_pos hlt] at k1
  refine ⟨dd, rfl, u, by simpa using k1, ?_⟩
  have hl := hlit r hrm dd (List.mem_of_getElem? hdd)
  cases k2 with
  | lit u hu => exact .lit u hu
  | seq => cases hl
  | clo => cases hl)
 rw [setRow_self w' g cur E _ hg] at J2
 have J3 := J2.set d (.t (.view j 0 E k rs.length)) (.slice (some ⟨g, 0, none⟩) rs.length cap) (by rw [zA6]; exact hd) (by rw [zH (by omega), zZ]; rfl) ⟨_, cap, hcap, hmax, rfl, .inr ⟨g, cur, E, zAD _ _ _, rfl, hg, by rw [hsz]; omega, .inr rfl⟩⟩
 refine ⟨_, newO o (OB + j) g, rfl, ?_⟩
 have ea : ((a.put (some d) (.slice (some ⟨g, 0, none⟩) rs.length cap)).put (some d) (.slice (some ⟨g, 0, none⟩) rs.length cap)) = a.put (some d) (.slice (some ⟨g, 0, none⟩) rs.length cap) := by
  simp [Act.put]
 rw [ea] at J3
 have eS : upd (upd (upd S d .any) (OB + j) (.box ((rs.flatMap id).map .d))) d (.t (.view j 0 E k rs.length)) = upd (upd S (OB + j) (.box ((rs.flatMap id).map .d))) d (.t (.view j 0 E k rs.length)) := by
  rw [zDi (s := d) (t := OB + j) (by omega), upd_twice]
 rw [eS] at J3
 exact J3
theorem zJu (hM : Mk M S) {f j E k : Nat} {xs : List Operand} {ts : Array TypeId} {fx : Operand} (hop : op.op = .call { callee := .value fx, args := xs.toArray, argTypes := ts }) (hfx : vO M fx = some (.func (.func f) #[] #[])) (hd : op.dst = some d) (hok : okD N pins S d = true) (hdO : d < OB) {fn : Func} (hfn : P.funcs[f]? = some fn) (hbody : fn.body.isNone = false) (hname : (fn.name == "runtime.NumGoroutine") = false)
  {args : List A} {rs : List (List D)} (hargs : zCw (xs.map (cpO M)) args) (hp : args.all A.plain = true) (hf : FC P f args [] (.t (.own E k rs))) (hfree : S (OB + j) = .free) (hne : rs ≠ []) (hk : 0 < k) (hlit : ∀ r ∈ rs, ∀ x ∈ r, x.isLit = true) (hEO : Nat.blt E OFB = true) : OpOK P pins N op S (upd (upd S (OB + j) (.box ((rs.flatMap id).map .d))) d (.t (.view j 0 E k rs.length))) := by
 intro w0 m0 o0 G a w m o hN I K Q hK
 obtain ⟨h1, h2, h3⟩ := qA hok
 obtain ⟨k1, k2⟩ := zJ7 hM I xs args hargs
 have hc := call_obj I hf hp (vals := (xs.map a.eval).toArray) (by simpa using k1) (fun i x hi => by simpa using k2 i x hi) (d := d) (by omega) hdO h2 hfree hne hk hlit hEO
 unfold Oper.wp
 have hrun : (execOp a.eval op).run P w = .ok (.enter f (xs.map a.eval).toArray) w := by
  unfold execOp
  rw [hop]
  simp only [resolve, zB1 hM I hfx, Deferred.ofValue, List.map_toArray]
  have hb : fn.body ≠ none := fun e => by rw [e] at hbody; cases hbody
  have hn : fn.name ≠ "runtime.NumGoroutine" := fun e => by rw [e] at hname; simp at hname
  simp [invoke, callFunc, hfn, hn, hb]
 rw [hrun]
 refine Calls.mono hc ?_
 rintro e w' ⟨u, o', rfl, J⟩
 rw [← hd] at J
 exact hK _ _ _ _ (by rw [zA6, hN]) J
theorem h_callobj {α : Type} {c : α → List D} {l : List α} (hM : Mk M S) {f j E k : Nat} {xs : List Operand} {ts : Array TypeId} {fx : Operand} (hop : op.op = .call { callee := .value fx, args := xs.toArray, argTypes := ts }) (hfx : vO M fx = some (.func (.func f) #[] #[])) (hd : op.dst = some d) (hok : okD N pins S d = true) {fn : Func} (hfn : P.funcs[f]? = some fn) (hbody : fn.body.isNone = false) (hname : (fn.name == "runtime.NumGoroutine") = false)
  {args : List A} (hf : FC P f args [] (.t (.own E k (l.map c)))) (hargs : zCw (xs.map (cpO M)) args) (hp : args.all A.plain = true) (hj : Nat.blt (j + 1) OB = true) (hfree : M (OB + j) = .free) (hne : (!l.isEmpty) = true) (hk : Nat.blt 0 k = true) (hlit : ∀ a, (c a).all D.isLit = true) (hEO : Nat.blt E OFB = true := by rfl) :
  OpH P pins N op S (app S [(OB + j, gbA c l), (d, .t (.view j 0 E k l.length))]) := by
 intro hN hlo
 obtain ⟨e1, e2, e3⟩ := zKI hj
 have hdO := qN hN hok
 have hl : l ≠ [] := fun e => by rw [e] at hne; cases hne
 have hfr : hx S (OB + j) = .free := by
  rcases hM (OB + j) with e | e
  · rw [e] at hfree; cases hfree
  · rw [e] at hfree; exact zBq hfree (by simp)
 refine ⟨?_, (hlo.upd e1).upd (lt2 hdO)⟩
 show OpOK P pins N op (hx S) (hx (upd (upd S (OB + j) _) d _))
 rw [zBt (lt2 hdO) (by unfold HK; unfold OB at hdO; omega), zBt e1 e2, gb_ne hl, fl_rows]
 have := zJu (j := j) hM.hx hop hfx hd (qX hN hok) (by simpa using hdO) hfn hbody hname hargs hp hf hfr (by simpa using hl) (by simpa using hk) (fun r hr x hx => by
  obtain ⟨a, _, rfl⟩ := List.mem_map.1 hr
  exact List.all_eq_true.1 (hlit a) x hx) hEO
 rw [List.length_map] at this
 exact this
end
end Go.Proofs.Ytjomnccladjpgaa

/-
 Arrays as values; variables and made slices as objects, of the frame or of the heap; slices of arrays; copy.
-/
namespace Go.Proofs.Ytjomnccladjpgaa
open Go Go.RowKit
set_option linter.unusedVariables false
section
variable {α : Type} {c : α → List D} {z : α} {k : Nat}
def ar (c : α → List D) (z : α) (l : List α) : Nat → Nat → List D
 | _, 0 => []
 | i, n + 1 => c (l.getD i z) ++ ar c z l (i + 1) n
def padA (z : α) (l : List α) : Nat → Nat → List α
 | _, 0 => []
 | i, n + 1 => l.getD i z :: padA z l (i + 1) n
theorem zGG (l : List α) : ∀ (n i : Nat), (padA z l i n).length = n
 | 0, _ => rfl
 | n + 1, i => congrArg (· + 1) (zGG l n (i + 1))
theorem ar_pad (l : List α) : ∀ (n i : Nat), ar c z l i n = fl c (padA z l i n)
 | 0, _ => rfl
 | n + 1, i => congrArg (c (l.getD i z) ++ ·) (ar_pad l n (i + 1))
theorem ar_len (hc : ∀ a, (c a).length = k) (l : List α) (i n : Nat) : (ar c z l i n).length = n * k := by
 rw [ar_pad, zFL hc, zGG]
theorem zII (l : List α) : ∀ (n i : Nat), i + n = l.length → padA z l i n = l.drop i
 | 0, i, h => by rw [List.drop_of_length_le (by omega)]; rfl
 | n + 1, i, h => by
  have hi : i < l.length := by omega
  show l.getD i z :: padA z l (i + 1) n = _
  rw [zII l n (i + 1) (by omega), List.drop_eq_getElem_cons hi, List.getD_eq_getElem?_getD, List.getElem?_eq_getElem hi]
  rfl
theorem padA_id {l : List α} {n : Nat} (h : l.length = n) : padA z l 0 n = l := by rw [zII l n 0 (by omega)]; rfl
theorem ar_id {l : List α} {n : Nat} (h : l.length = n) : ar c z l 0 n = fl c l := by rw [ar_pad, padA_id h]
theorem zHj {β : Type} {f : α → List β} (hf : ∀ a, (f a).length = 1) : ∀ (x : List α) (i : Nat), (fl f x).take i = fl f (x.take i)
 | [], i => by simp [fl]
 | a :: t, 0 => by simp [fl]
 | a :: t, i + 1 => by
  have h := hf a
  show (f a ++ fl f t).take (i + 1) = f a ++ fl f (t.take i)
  rw [← zHj hf t i]
  match hfa : f a, h with
  | [b], _ => rfl
theorem zHn {β : Type} {f : α → List β} (hf : ∀ a, (f a).length = 1) : ∀ (x : List α) (i : Nat), (fl f x).drop i = fl f (x.drop i)
 | [], i => by simp [fl]
 | a :: t, 0 => by simp
 | a :: t, i + 1 => by
  have h := hf a
  show (f a ++ fl f t).drop (i + 1) = fl f (t.drop i)
  rw [← zHn hf t i]
  match hfa : f a, h with
  | [b], _ => rfl
theorem zIB {β : Type} (f : α → List β) (x y : List α) : fl f (x ++ y) = fl f x ++ fl f y := List.flatMap_append
theorem zHD {l : List α} {z : Int} {y : α} {k : Nat} (h : idx l z = some y) (hc : ∀ a, (c a).length = k) : ((fl (dT c) l).drop (0 + z.toNat * k)).take k = dT c y := by
 rw [Nat.zero_add]
 exact fl_row (zEG hc) (zDu h).2.2
def s2aI (n : Nat) (l : List α) : Option (List α) := if n ≤ l.length then some (l.take n) else none
theorem zJC {n : Nat} {l x : List α} (h : s2aI n l = some x) : n ≤ l.length ∧ x = l.take n := by
 unfold s2aI at h
 split at h
 · injection h with h; exact ⟨by assumption, h.symm⟩
 · cases h
theorem s2a_row {n : Nat} {l x : List α} (h : s2aI n l = some x) : ((l.map c).take n).flatMap id = ar c z x 0 n := by
 obtain ⟨h1, rfl⟩ := zJC h
 rw [ar_id (by rw [List.length_take]; omega), ← List.map_take]
 unfold fl
 rw [List.flatMap_map]
 rfl
def cpyL (x : List α) (off n : Nat) (y : List α) : List α := x.take off ++ (y.take n ++ x.drop (off + min y.length n))
def cpyI (x : List α) (off n : Nat) (y : List α) : Option (List α) := if off + n ≤ x.length then some (cpyL x off n y) else none
theorem zI5 {x y v : List α} {off n : Nat} (h : cpyI x off n y = some v) : off + n ≤ x.length ∧ v = cpyL x off n y := by
 unfold cpyI at h
 split at h
 · injection h with h; exact ⟨by assumption, h.symm⟩
 · cases h
theorem cpy_row (hc : ∀ a, (c a).length = 1) (x y : List α) (off n : Nat) : qT (fl (dT c) x) off ((((y.map c).take n).flatMap id).map T.d) = fl (dT c) (cpyL x off n y) := by
 have h1 : ((((y.map c).take n).flatMap id).map T.d) = fl (dT c) (y.take n) := by
  rw [← List.map_take, ← zCm]
 have hd := zEG hc
 have h2 : (fl (dT c) (y.take n)).length = min y.length n := by rw [zFL hd, List.length_take]; omega
 unfold qT cpyL
 rw [h1, h2, zHj hd, zHn hd, zIB, zIB, List.append_assoc]
def zEK (x : List α) (off n : Nat) : Option (List α) := if off + n ≤ x.length then some ((x.drop off).take n) else none
theorem zG1 {x y : List α} {off n : Nat} (h : zEK x off n = some y) : off + n ≤ x.length ∧ y = (x.drop off).take n := by
 unfold zEK at h
 split at h
 · injection h with h; exact ⟨by assumption, h.symm⟩
 · cases h
def vcut (n : Nat) (lo hi : Int) : Option Unit := if 0 ≤ lo ∧ lo ≤ hi ∧ hi ≤ n then some () else none
theorem zBc {n : Nat} {lo hi : Int} {u : Unit} (h : vcut n lo hi = some u) : 0 ≤ lo ∧ lo ≤ hi ∧ hi ≤ n := by
 unfold vcut at h
 split at h
 · assumption
 · cases h
end
section
variable {w0 : World} {m0 : Mem} {o0 : OwnM} {G : GD} {pins : List Nat} {S M : Nat → A} {a : Act} {w : World} {m : Mem} {o : OwnM} {P : Program} {N : Nat} {op : Oper} {d c : Nat} {f f' : Nat → A}
theorem Inv.tell (I : Inv w0 m0 o0 G pins S a w m o) (d : Nat) (x : A) (hbox : (S d).isBox = false) (hx : RepA m w o (upd S d x) d x (a.tmps.getD d undef)) : Inv w0 m0 o0 G pins (upd S d x) a w m o := by
 refine ⟨I.same, I.sat, I.mono, I.old, I.own, I.lt, I.inj, I.pinned, fun s => ?_, I.defers, I.tbl, I.wide, I.shps⟩
 by_cases e : s = d
 ·
  subst e
  rw [zZ]
  exact hx
 ·
  rw [zH e]
  refine (I.slots s).turn fun b l hb => ⟨l, ?_⟩
  rw [zH (fun e => by rw [e] at hb; rw [hb] at hbox; cases hbox), hb]
theorem OpOK.post {S1 S2 : Nat → A} (h : OpOK P pins N op S S1) (k : ∀ w0 m0 o0 G a w m o, Inv w0 m0 o0 G pins S1 a w m o → Inv w0 m0 o0 G pins S2 a w m o) : OpOK P pins N op S S2 :=
 fun w0 m0 o0 G a w m o hN I K Q hK => h w0 m0 o0 G a w m o hN I K Q fun a' w' m' o' hN' I' => hK a' w' m' o' hN' (k _ _ _ _ _ _ _ _ I')
theorem OpH.lo2 {j : Nat} {x1 x2 : A} (hj : Nat.blt (j + 1) OB = true) (hok : okD N pins S d = true) (h : N ≤ OB → Low S → OpOK P pins N op (hx S) (app (hx S) [(OB + j, x1), (d, x2)])) : OpH P pins N op S (app S [(OB + j, x1), (d, x2)]) := by
 intro hN hlo
 obtain ⟨e1, e2, e3⟩ := zKI hj
 have hdO := qN hN hok
 refine ⟨?_, (hlo.upd e1).upd (lt2 hdO)⟩
 show OpOK P pins N op (hx S) (hx (upd (upd S (OB + j) _) d _))
 rw [zBt (lt2 hdO) (by unfold HK; unfold OB at hdO; omega), zBt e1 e2]
 exact h hN hlo
theorem zJI (hM : Mk M S) {j : Nat} (h : M (OB + j) = .free) : hx S (OB + j) = .free := by
 rcases hM (OB + j) with e | e
 · rw [e] at h; cases h
 · rw [e] at h; exact zBq h (by simp)
theorem zHp (hM : Mk M S) {j : Nat} {l : List T} (h : M (OB + j) = .box l) : hx S (OB + j) = .box l := by
 rcases hM (OB + j) with e | e
 · rw [e] at h; cases h
 · rw [e] at h; exact zBq h (by simp)
theorem ok_s2a (hM : Mk M S) {t n e k : Nat} {x : Operand} {l : List (List D)} (hop : op.op = .sliceToArrayPointer t x) (hu : P.underlying t = some (.array n e)) (hx : dO M x = some (.seq k l)) (hk : 0 < k) (hpos : 0 < n) (hn : n ≤ l.length) (hd : op.dst = some d) (hok : okD N pins S d = true) :
  OpOK P pins N op S (upd S d (.imm ((l.take n).flatMap id))) := by
 refine zV fun w0 m0 o0 G a w m o hN I => ?_
 obtain ⟨h1, h2, h3⟩ := qA hok
 have hr := zD1 hM I hx
 generalize hv : a.eval x = v at hr
 cases hr with
 | seq _ _ A' cap g p fv hcap hmax hA hw hm hr =>
  have hne : l ≠ [] := fun e => by rw [e] at hn; simp at hn; omega
  have hA := hA hne
  subst hA
  refine ⟨.pointer (some ⟨g, p, none⟩), w, m, o, ?_, by
   rw [hd]
   refine I.set d _ _ (by omega) h2 ⟨g, p, rfl, fun j dd hj => ?_⟩
   have hwt : ∀ r ∈ l.take n, r.length = k := fun r hr => by
    obtain ⟨i, hi⟩ := List.getElem?_of_mem (List.mem_of_mem_take hr)
    exact hw i r hi
   have hlt : j < n * k := by
    have := (List.getElem?_eq_some_iff.1 hj).1
    rw [zDR hwt, List.length_take] at this
    rw [Nat.min_eq_left hn] at this
    exact this
   have hi1 : j / k < n := Nat.div_lt_of_lt_mul (by rw [Nat.mul_comm]; exact hlt)
   have hi2 : j % k < k := Nat.mod_lt _ hk
   have he : j / k * k + j % k = j := by rw [Nat.mul_comm]; exact Nat.div_add_mod j k
   have hil : j / k < l.length := by omega
   obtain ⟨r, hr'⟩ : ∃ r, l[j / k]? = some r := ⟨_, List.getElem?_eq_getElem hil⟩
   have hrt : (l.take n)[j / k]? = some r := by rw [List.getElem?_take, if_pos hi1]; exact hr'
   have h5 := zCP hwt hrt hi2
   rw [he, hj] at h5
   refine ⟨fv (j / k) (j % k), ?_, hr _ r _ dd hr' h5.symm⟩
   have := hm _ r _ dd hr' h5.symm
   rw [Nat.add_assoc, he] at this
   exact this⟩
  unfold execOp
  rw [hop]
  simp only [Sem.run_bind]
  rw [hv]
  simp [Instr.arrayAt, run_underlying hu]
  intro h
  omega
theorem h_s2a {α : Type} {cc : α → List D} {l y : List α} {z : α} (hM : Mk M S) {t n e k : Nat} {x : Operand} (hop : op.op = .sliceToArrayPointer t x) (hu : P.underlying t = some (.array n e)) (hx : dO M x = some (.seq k (l.map cc))) (hk : (Nat.blt 0 k && Nat.blt 0 n) = true) (hn : s2aI n l = some y) (hd : op.dst = some d) (hok : okD N pins S d = true) :
  OpH P pins N op S (app S [(d, .imm (ar cc z y 0 n))]) := by
 simp only [Bool.and_eq_true] at hk
 rw [← s2a_row (z := z) hn]
 exact .of (e := [(d, _)]) fun hN => ⟨ok_s2a hM.hx hop hu hx (by simpa using hk.1) (by simpa using hk.2) (by rw [List.length_map]; exact (zJC hn).1) hd (qX hN hok), zBU (qN hN hok)⟩
theorem h_ldim (hM : Mk M S) {t n : Nat} {x : Operand} {l : List D} (hop : op.op = .load t x) (ht : tyA P t = some (true, n)) (hx : cpO M x = .imm l) (hl : l.length = n) (hd : op.dst = some d) (hok : okD N pins S d = true) : OpH P pins N op S (app S [(d, .t (.agg l))]) := by
 refine .of (e := [(d, _)]) fun hN => ⟨?_, zBU (qN hN hok)⟩
 refine zFE hM.hx hd (qX hN hok) ?_
 rw [hop]
 show ldF P M t x = _
 unfold ldF
 simp only [hx, ht]
 rw [if_pos hl.symm]
theorem h_mko {α : Type} {c : α → List D} (hM : Mk M S) {t e nb q : Nat} {xn xc : Operand} {kl kc : IntKind} {n : Int} {ie : TypeInfo} {z : Value} {rs : List (List D)} (hop : op.op = .makeSlice t xn xc) (hn : vO M xn = some (.int kl n)) (hc : vO M xc = some (.int kc n)) (hE : elF P t = some (e, 1, nb)) (hie : P.info? e = some ie) (hz : ie.zero = some z) (hz1 : z.cells = #[z]) (hz2 : z.oneCell' = true) (hnb : nb = nb)
  (hq : mkI nb n = some q) (hr : List.replicate q [.lit z] = rs) (hd : op.dst = some d) (hok : okD N pins S d = true) : OpH P pins N op S (app S [(d, .t (.own e 1 rs))]) := by
 subst hr
 exact .of (e := [(d, _)]) fun hN => ⟨ok_mko (sz := 0) hM.hx hop hn hc hE hie hz hz1 hz2 hq hd (qX hN hok), zBU (qN hN hok)⟩
theorem ok_lmk {j : Nat} {l : List T} (hd : op.dst = some d) (hok : okD N pins S d = true) (hdO : d < OB) (hfree : S (OB + j) = .free)
  (h : ∀ (w0 : World) (m0 : Mem) (o0 : OwnM) (G : GD) (a : Act) (w : World) (m : Mem) (o : OwnM), Inv w0 m0 o0 G pins S a w m o → ∃ v cs E, (execOp a.eval op).run P w = .ok (.value v) (w.alloc (.cells cs E)) ∧ l.length ≤ cs.size ∧
   (∀ (i : Nat) (x : T), l[i]? = some x → x.noOwn = true ∧ ∃ u, cs[i]? = some u ∧ RepT m w o (0, 0) x u) ∧ v = .pointer (some ⟨w.heap.size, 0, none⟩)) :
  OpOK P pins N op S (app S [(OB + j, .box l), (d, .t (.ptr j 0))]) := by
 refine zV fun w0 m0 o0 G a w m o hN I => ?_
 obtain ⟨h1, h2, h3⟩ := qA hok
 obtain ⟨v, cs, E, hrun, hlen, hc, rfl⟩ := h w0 m0 o0 G a w m o I
 refine ⟨_, w.alloc (.cells cs E), m, newO o (OB + j) w.heap.size, hrun, ?_⟩
 rw [hd]
 have J := I.obj_new (E := E) hfree hlen hc
 exact J.set d _ _ (by omega) (by rw [zH (by omega)]; exact h2) ⟨_, zAD _ _ _, rfl⟩
theorem h_lnew (hM : Mk M S) {j E : Nat} {i : TypeInfo} {z : Value} {l0 l : List T} (hop : op.op = .alloc E) (hi : P.info? E = some i) (hz : i.zero = some z) (hl : zEL (litA z) = some l0) (hl' : l0 = l) (hd : op.dst = some d) (hok : okD N pins S d = true) (hj : Nat.blt (j + 1) OB = true) (hfree : M (OB + j) = .free) :
  OpH P pins N op S (app S [(OB + j, .box l), (d, .t (.ptr j 0))]) := by
 subst hl'
 refine .lo2 hj hok fun hN hlo => ?_
 refine ok_lmk hd (qX hN hok) (qN hN hok) (zJI hM hfree) fun w0 m0 o0 G a w m o I => ?_
 have hcp : zCY (litA z) = some l0 := by
  revert hl
  generalize litA z = y
  intro hl
  cases y with
  | t y => cases y <;> first | exact hl | cases hl
  | _ => cases hl
 obtain ⟨k1, k2, k3⟩ := zCS hcp (zCs (m := m) (w := w) (o := o) (S := S) 0 z)
 refine ⟨_, z.cells, E, ?_, by simpa using Nat.le_of_eq k1.symm, fun i x hx => ?_, rfl⟩
 ·
  unfold execOp
  rw [hop]
  simp [Instr.alloc, zeroValue, typeInfo, hi, hz, newVar, newRow]
 ·
  obtain ⟨q1, u, q2, q3⟩ := k3 i x hx
  exact ⟨zCu hcp x (List.mem_of_getElem? hx), u, by simpa using q2, q3 _ _ (zBA.refl w)⟩
theorem h_lbox (hM : Mk M S) {j E : Nat} {x : Operand} {l0 l : List T} (hop : op.op = .box E x) (hl : zCY (cpO M x) = some l0) (hl' : l0 = l) (hd : op.dst = some d) (hok : okD N pins S d = true) (hj : Nat.blt (j + 1) OB = true) (hfree : M (OB + j) = .free) :
  OpH P pins N op S (app S [(OB + j, .box l), (d, .t (.ptr j 0))]) := by
 subst hl'
 refine .lo2 hj hok fun hN hlo => ?_
 refine ok_lmk hd (qX hN hok) (qN hN hok) (zJI hM hfree) fun w0 m0 o0 G a w m o I => ?_
 obtain ⟨k1, k2, k3⟩ := zCS hl (qG hM.hx I x 0)
 refine ⟨_, (a.eval x).cells, E, ?_, by simpa using Nat.le_of_eq k1.symm, fun i x hx => ?_, rfl⟩
 ·
  unfold execOp
  rw [hop]
  simp [Instr.box, newVar, newRow]
 ·
  obtain ⟨q1, u, q2, q3⟩ := k3 i x hx
  exact ⟨zCu hl x (List.mem_of_getElem? hx), u, by simpa using q2, q3 _ _ (zBA.refl w)⟩
theorem zJ1 {n : Nat} {l0 h0 : Option Int} {kl kh : Int → IntKind} (hc : 0 ≤ l0.getD 0 ∧ l0.getD 0 ≤ h0.getD n ∧ h0.getD n ≤ n) :
    (Instr.sliceBounds false n n (l0.map fun z => .int (kl z) z) (h0.map fun z => .int (kh z) z) none).run P w = .ok ((l0.getD 0).toNat, (h0.getD n).toNat, n) w := by
  have hlo2 : (l0.map Int.toNat).getD 0 = (l0.getD 0).toNat := by cases l0 <;> rfl
  have hhi2 : (h0.map Int.toNat).getD n = (h0.getD n).toNat := by cases h0 <;> simp
  rw [← hlo2, ← hhi2]
  unfold Instr.sliceBounds
  cases l0 <;> cases h0 <;> simp only [Option.getD_none, Option.getD_some, Option.map_none, Option.map_some, Option.isSome_none, Option.isSome_some] at hc ⊢ <;>
    (simp only [Sem.run_bind, Sem.run_pure, Result.andThen_ok]
     repeat (rw [zAq (by omega) (by omega), Result.andThen_ok]))
theorem sla_run {t n e g off : Nat} {ie : TypeInfo} {l0 h0 : Option Int} {kl kh : Int → IntKind} (hu : P.underlying t = some (.array n e)) (hie : P.info? e = some ie) (hc : 0 ≤ l0.getD 0 ∧ l0.getD 0 ≤ h0.getD n ∧ h0.getD n ≤ n) :
  (Instr.sliceAt t (.pointer (some ⟨g, off, none⟩)) (l0.map fun z => .int (kl z) z) (h0.map fun z => .int (kh z) z) none).run P w = .ok (.slice (some (if n = (l0.getD 0).toNat then ⟨g, off, none⟩ else ⟨g, off + (l0.getD 0).toNat * ie.size, none⟩)) ((h0.getD n).toNat - (l0.getD 0).toNat) (n - (l0.getD 0).toNat)) w := by
 unfold Instr.sliceAt
 simp only [Sem.run_bind, run_underlying hu, Result.andThen_ok]
 rw [show (Instr.sureAddr (.pointer (some ⟨g, off, none⟩))).run P w = .ok ⟨g, off, none⟩ w from rfl, Result.andThen_ok, zJ1 hc]
 simp [sizeOf, typeInfo, hie, Addr.add_mid]
theorem ok_sla {j off n t e : Nat} {x : Operand} {lo hi : Option Operand} {l0 h0 : Option Int} {ie : TypeInfo} {l : List T} (hM : Mk M S) (hop : op.op = .slice t x lo hi none) (hx : ∀ {w0 m0 o0 G a w m o}, Inv w0 m0 o0 G pins S a w m o → ∃ g, o g = some (OB + j, 0) ∧ a.eval x = .pointer (some ⟨g, off, none⟩)) (hb : S (OB + j) = .box l) (hlo : bndO M lo = some l0) (hhi : bndO M hi = some h0) (hu : P.underlying t = some (.array n e)) (hie : P.info? e = some ie)
  (hle : off + n * ie.size ≤ l.length) (hn : n ≤ 65536) (hc : 0 ≤ l0.getD 0 ∧ l0.getD 0 ≤ h0.getD n ∧ h0.getD n ≤ n) (hd : op.dst = some d) (hok : okD N pins S d = true) :
  OpOK P pins N op S (upd S d (.t (.view j (off + (l0.getD 0).toNat * ie.size) 0 ie.size ((h0.getD n).toNat - (l0.getD 0).toNat)))) := by
 refine zV fun w0 m0 o0 G a w m o hN I => ?_
 obtain ⟨h1, h2, h3⟩ := qA hok
 obtain ⟨g, k1, k2⟩ := hx I
 have hs := I.slots (OB + j)
 rw [hb] at hs
 obtain ⟨g', _, q1, q2, cs, E, q3, q4, q5⟩ := hs
 have := I.inj _ _ _ k1 q1
 subst this
 obtain ⟨kl, e1⟩ := zDQ hM I hlo
 obtain ⟨kh, e2⟩ := zDQ hM I hhi
 refine ⟨.slice (some (if n = (l0.getD 0).toNat then ⟨g, off, none⟩ else ⟨g, off + (l0.getD 0).toNat * ie.size, none⟩)) ((h0.getD n).toNat - (l0.getD 0).toNat) (n - (l0.getD 0).toNat), w, m, o, ?_, ?_⟩
 ·
  unfold execOp
  rw [hop]
  simp only [Sem.run_bind]
  rw [e1, e2, k2]
  show Result.andThen (Sem.run P (Instr.sliceAt t _ _ _ none) w) _ = _
  rw [sla_run hu hie hc]
  rfl
 ·
  rw [hd]
  refine I.set d _ _ (by omega) h2 ?_
  refine ⟨_, n - (l0.getD 0).toNat, by omega, by unfold maxLen; omega, rfl, ?_⟩
  by_cases hz : n = (l0.getD 0).toNat
  · exact .inl (by omega)
  ·
   refine .inr ⟨g, cs, E, k1, by rw [if_neg hz], q3, ?_, .inl rfl⟩
   have : (l0.getD 0).toNat * ie.size + (n - (l0.getD 0).toNat) * ie.size = n * ie.size := by rw [← Nat.add_mul]; congr 1; omega
   omega
theorem h_sla (hM : Mk M S) {j off n t e : Nat} {x : Operand} {lo hi : Option Operand} {l0 h0 : Option Int} {ie : TypeInfo} {l : List T} {y : T} (hop : op.op = .slice t x lo hi none) (hx : cpO M x = .ref (OB + j) off) (hb : M (OB + j) = .box l) (hlo : bndO M lo = some l0) (hhi : bndO M hi = some h0) (hu : P.underlying t = some (.array n e)) (hie : P.info? e = some ie)
  (hle : Nat.ble (off + n * ie.size) l.length = true) (hn : Nat.ble n 65536 = true) (hc : 0 ≤ l0.getD 0 ∧ l0.getD 0 ≤ h0.getD n ∧ h0.getD n ≤ n) (hy : T.view j (off + (l0.getD 0).toNat * ie.size) 0 ie.size ((h0.getD n).toNat - (l0.getD 0).toNat) = y) (hd : op.dst = some d) (hok : okD N pins S d = true) : OpH P pins N op S (app S [(d, .t y)]) := by
 subst hy
 refine .of (e := [(d, _)]) fun hN => ⟨ok_sla hM.hx hop (fun {w0 m0 o0 G a w m o} I => ?_) (zHp hM hb) hlo hhi hu hie (by simpa using hle) (by simpa using hn) hc hd (qX hN hok), zBU (qN hN hok)⟩
 have h := qG hM.hx I x 0
 rw [hx] at h
 obtain ⟨g, h1, h2, _⟩ := h
 exact ⟨g, h1, h2⟩
theorem Inv.box_spl (I : Inv w0 m0 o0 G pins S a w m o) {b g off E : Nat} {l : List T} {cs : Array Value} {q : List D} {vs : List Value} (hb : S b = .box l) (h1 : o g = some (b, 0)) (h4 : w.heap[g]? = some (.cells cs E (0, 0))) (hlc : l.length ≤ cs.size) (h6 : ∀ (j : Nat) (x : T), l[j]? = some x → x.isAgg = false ∧ ∃ u, cs[j]? = some u ∧ RepT m w o (b, j + 1) x u)
  (hv : RepL m q vs) (hle : off + q.length ≤ l.length) : Inv w0 m0 o0 G pins (upd S b (.box (qT l off (q.map .d)))) a (w.setRow g (qT cs.toList off vs).toArray) m o := by
 have hvl := hv.1
 have hsp : (qT cs.toList off vs).length = cs.toList.length := zAV cs.toList off vs (by simp only [Array.length_toList]; omega)
 have hss : (qT cs.toList off vs).toArray.size = cs.size := by simpa using hsp
 refine I.box_put hb h1 h4 (cs' := (qT cs.toList off vs).toArray) hss o (fun _ => False) (fun s h => h.elim) (fun g l h _ _ => h) h1 (fun g l h => ⟨l, h⟩) I.inj (fun g l l' h h' k => by rw [h] at h'; injection h' with h'; rw [h']; exact k) ?_ (fun j z hj => ?_)
 · exact zAV l off _ (by rw [List.length_map]; omega)
 ·
  have hcs2 : (qT cs.toList off vs).toArray[j]? = (qT cs.toList off vs)[j]? := by simp
  rw [hcs2, zBi cs.toList off vs (by simp only [Array.length_toList]; omega)]
  rw [zBi l off _ (by rw [List.length_map]; omega), List.length_map] at hj
  rw [hvl]
  split at hj
  ·
   rename_i hjo
   rw [if_pos hjo]
   rw [List.getElem?_map] at hj
   cases hq : q[j - off]? with
   | none => rw [hq] at hj; cases hj
   | some dd =>
    rw [hq] at hj
    injection hj with hj
    subst hj
    obtain ⟨u, k1, k2⟩ := hv.2 _ dd hq
    exact ⟨rfl, u, k1, k2⟩
  ·
   rename_i hjo
   rw [if_neg hjo]
   obtain ⟨k0, u, k1, k2⟩ := h6 j z hj
   exact ⟨k0, u, by simpa using k1, zG0 h1 h4 hss (by intro e; injection e with _ e; omega) k0 k2⟩
theorem run_copy0 {t t' e ty : Nat} {ie : TypeInfo} {A1 A2 : Option Addr} {n1 c1 n2 c2 : Nat} (hu : P.underlying t = some (.slice e)) (hie : P.info? e = some ie) (h0 : min n2 n1 = 0) :
  (Builtin.copy_ #[t, t'] ty #[.slice A1 n1 c1, .slice A2 n2 c2]).run P w = .ok (goInt 0) w := by
 have h0' : Nat.min n2 n1 = 0 := h0
 cases A1 with
 | none => cases A2 with
  | none => simp [Builtin.copy_, run_underlying hu, Builtin.lenOf, Builtin.firstCells, sizeOf, typeInfo, hie, h0', storeCells]
  | some a2 =>
   have := run_loadCells_list (P := P) w a2 [] (fun j v h => by simp at h)
   simp only [List.length_nil] at this
   simp [Builtin.copy_, run_underlying hu, Builtin.lenOf, Builtin.firstCells, sizeOf, typeInfo, hie, h0', storeCells, this]
 | some a1 => cases A2 with
  | none => simp [Builtin.copy_, run_underlying hu, Builtin.lenOf, Builtin.firstCells, sizeOf, typeInfo, hie, h0', storeCells]
  | some a2 =>
   have := run_loadCells_list (P := P) w a2 [] (fun j v h => by simp at h)
   simp only [List.length_nil] at this
   simp [Builtin.copy_, run_underlying hu, Builtin.lenOf, Builtin.firstCells, sizeOf, typeInfo, hie, h0', storeCells, this]
theorem flat1 : ∀ {rs : List (List D)}, (∀ r ∈ rs, r.length = 1) → (rs.flatMap id).length = rs.length
 | rs, h => by rw [zDR h, Nat.mul_one]
theorem zG5 {α : Type} (l : List α) (off : Nat) : qT l off [] = l := by
 unfold qT
 simp
theorem ok_cpy (hM : Mk M S) {j off E n t t' e : Nat} {x y : Operand} {ie : TypeInfo} {l : List T} {l' : List (List D)} (hop : op.op = .call { callee := .builtin .copy, args := #[x, y], argTypes := #[t, t'] }) (hu : P.underlying t = some (.slice e)) (hie : P.info? e = some ie) (hs1 : ie.size = 1) (hx : ∀ {w0 m0 o0 G a w m o}, Inv w0 m0 o0 G pins S a w m o → RepT m w o (0, 0) (.view j off E 1 n) (a.eval x)) (hb : S (OB + j) = .box l) (hy : slD 1 (dO M y) = some l') (hr1 : ∀ r ∈ l', r.length = 1) (hle : off + n ≤ l.length) (hd : op.dst = some d) (hok : okD N pins S d = true) (hdO : d < OB) :
  OpOK P pins N op S (app S [(OB + j, .box (qT l off (((l'.take n).flatMap id).map .d))), (d, .t (.d (.lit (.int .i64 ((min l'.length n : Nat) : Int)))))]) := by
 refine zV fun w0 m0 o0 G a w m o hN I => ?_
 obtain ⟨h1, h2, h3⟩ := qA hok
 have hv' : RepD m (.seq 1 l') (a.eval y) := zFD hy fun d hd => zD1 hM I hd
 obtain ⟨A2, c2, xs, hyv, _, _, hrows, hone, hmx⟩ := hv'.rows
 obtain ⟨A1, c1, k1, k2, hxv, k4⟩ := hx I
 have hxl : xs.length = l'.length := by have := hrows.1; omega
 have hbox2 : ∀ x, (upd S (OB + j) x d).isBox = false := fun x => by rw [zH (by omega)]; exact h2
 by_cases h0 : min l'.length n = 0
 ·
  have he : (l'.take n).flatMap id = [] := by
   have : (l'.take n).length = 0 := by rw [List.length_take]; omega
   rw [List.eq_nil_of_length_eq_zero this]
   rfl
  refine ⟨goInt 0, w, m, o, ?_, ?_⟩
  ·
   unfold execOp
   rw [hop]
   simp only [resolve, invoke, builtin, Sem.run_bind, Sem.run_pure, Result.andThen_ok, List.map_toArray, List.map_cons, List.map_nil]
   rw [hxv, hyv, run_copy0 hu hie h0]
   rfl
  ·
   rw [hd, he, h0]
   show Inv w0 m0 o0 G pins (upd (upd S (OB + j) (.box (qT l off []))) d _) _ w m o
   rw [zG5]
   have e1 : upd S (OB + j) (.box l) = S := by
    funext s
    unfold upd
    split
    · rename_i e; rw [e, hb]
    · rfl
   rw [e1]
   exact I.set d _ _ (by omega) h2 (.lit _ rfl)
 ·
  obtain ⟨g, cs, E', q1, q2, q3, q4, _⟩ := k4.resolve_left fun e => by omega
  clear k4
  subst q2
  have hs := I.slots (OB + j)
  rw [hb] at hs
  obtain ⟨g', _, p1, p2, cs', E2, p3, p4, p5⟩ := hs
  have := I.inj _ _ _ q1 p1
  subst this
  rw [q3] at p3
  injection p3 with p3
  injection p3 with p3 p6
  subst p3 p6
  have hlen : (xs.take (min l'.length n)).length = Nat.min l'.length n := by
   rw [List.length_take, hxl]
   show min (min l'.length n) l'.length = min l'.length n
   omega
  have hp2 : 0 < xs.length := by rw [hxl]; exact Nat.lt_of_lt_of_le (Nat.pos_of_ne_zero h0) (Nat.min_le_left _ _)
  have hx0 : ∃ u, xs[0]? = some u := ⟨_, List.getElem?_eq_getElem hp2⟩
  obtain ⟨u0, hu0⟩ := hx0
  obtain ⟨g2, o2, rfl, _⟩ := hmx 0 u0 hu0
  have hrun := run_copy_row P w t t' op.type e g off n c1 ⟨g2, o2, none⟩ l'.length c2 cs E' (xs.take (min l'.length n)) hu (by rw [hie, ← hs1]; rfl) q3 hlen (fun q v hq => by
   rw [List.getElem?_take] at hq
   split at hq
   ·
    obtain ⟨g3, o3, e3, hm3⟩ := hmx q v hq
    injection e3 with e3
    injection e3 with e3 e4
    subst e3 e4
    rw [Addr.add_mid]
    exact I.sat _ _ _ hm3
   · cases hq) (by rw [hlen]; show off + min l'.length n ≤ cs.size; omega) (fun v hv => hone v (List.mem_of_mem_take hv))
  have hwt : ∀ r ∈ l'.take n, r.length = 1 := fun r hr => hr1 r (List.mem_of_mem_take hr)
  have hql : ((l'.take n).flatMap id).length = min l'.length n := by rw [flat1 hwt, List.length_take, Nat.min_comm]
  have hrep : RepL m ((l'.take n).flatMap id) (xs.take (min l'.length n)) := by
   refine ⟨by rw [hlen, hql], fun q dd hq => ?_⟩
   have hlt : q < min l'.length n := by rw [← hql]; exact (List.getElem?_eq_some_iff.1 hq).1
   obtain ⟨r, hr⟩ : ∃ r, l'[q]? = some r := ⟨_, List.getElem?_eq_getElem (by omega)⟩
   have hrt : (l'.take n)[q]? = some r := by rw [List.getElem?_take, if_pos (by omega)]; exact hr
   have h5 := zCP hwt hrt (q := 0) (by omega)
   rw [Nat.mul_one, Nat.add_zero, hq] at h5
   obtain ⟨u, z1, z2⟩ := hrows.2.2 q r 0 dd hr h5.symm
   rw [Nat.mul_one, Nat.add_zero] at z1
   exact ⟨u, by rw [List.getElem?_take, if_pos hlt]; exact z1, z2⟩
  have J := I.box_spl (off := off) hb q1 q3 p4 p5 hrep (by rw [hql]; omega)
  refine ⟨goInt (xs.take (min l'.length n)).length, w.setRow g (qT cs.toList off (xs.take (min l'.length n))).toArray, m, o, ?_, ?_⟩
  ·
   unfold execOp
   rw [hop]
   simp only [resolve, invoke, builtin, Sem.run_bind, Sem.run_pure, Result.andThen_ok, List.map_toArray, List.map_cons, List.map_nil]
   rw [hxv, hyv, hrun]
   rfl
  ·
   rw [hd]
   have J2 := J.set d (.t (.d (.lit (.int .i64 ((min l'.length n : Nat) : Int))))) (goInt (xs.take (min l'.length n)).length) (by omega) (hbox2 _) (by rw [hlen]; exact RepD.lit _ rfl)
   exact J2
theorem h_cpy {α : Type} {cc : α → List D} {xl yl v : List α} (hM : Mk M S) {j off E n t t' e : Nat} {x y : Operand} {ie : TypeInfo} (hop : op.op = .call { callee := .builtin .copy, args := ⟨[x, y]⟩, argTypes := ⟨[t, t']⟩ }) (hu : P.underlying t = some (.slice e)) (hie : P.info? e = some ie) (hs1 : ie.size = 1) (hx : cpO M x = .t (.view j off E 1 n)) (hb : M (OB + j) = .box (fl (dT cc) xl)) (hc : ∀ a, (cc a).length = 1) (hy : slD 1 (dO M y) = some (yl.map cc)) (hv : cpyI xl off n yl = some v) (hj : Nat.blt (j + 1) OB = true) (hd : op.dst = some d) (hok : okD N pins S d = true) :
  OpH P pins N op S (app S [(OB + j, .box (fl (dT cc) v)), (d, .t (.d (.lit (.int .i64 ((min yl.length n : Nat) : Int)))))]) := by
 obtain ⟨h1, rfl⟩ := zI5 hv
 refine .lo2 hj hok fun hN hlo => ?_
 rw [← cpy_row hc]
 have := ok_cpy (j := j) (off := off) (E := E) (n := n) (l := fl (dT cc) xl) (l' := yl.map cc) hM.hx hop hu hie hs1 (fun {w0 m0 o0 G a w m o} I => by
  have h := qG hM.hx I x 0
  rw [hx] at h
  exact h) (zHp hM hb) hy (fun r hr => by obtain ⟨a, _, rfl⟩ := List.mem_map.1 hr; exact hc a) (by rw [zFL (zEG hc)]; omega) hd (qX hN hok) (qN hN hok)
 rw [List.length_map] at this
 exact this
end
section
variable {P : Program} {pins : List Nat} {N : Nat} {l0 : List Oper} {Q : SL → Prop} {r : List Oper} {op : Oper} {L : SL} {acc : List (List Nat × List Nat)} {T : List Nat}
theorem d_h0 (X : List Nat) {e : Eff} {ks : List Nat} {L' : SL} (hT : zCM (X ++ zCi l0.toArray (gt L) op) some = some T) (hy : dyes l0 op L T) (hks : keys e = ks) (hk : ks.all T.contains = true)
  (h : ∀ S', Mk (mask T (gt L)) S' → (∀ d, T.contains d = true → okD N pins (gt L) d = true → okD N pins S' d = true) → OpH P pins N op S' (app S' e)) (hL : setL L e = L') (k : DOK P pins N l0 Q r ((T, ks) :: acc) L') : DOK P pins N l0 Q (op :: r) acc L := by
 have hT := zEx hT
 subst hL hks
 have h' : ∀ S', (∀ t ∈ T, S' t = gt L t) → OpH P pins N op S' (app S' e) := fun S' hS => h S' (zDo hS) fun d hd hok => by
  unfold okD at hok ⊢
  rw [hS d (by simpa using hd)]
  exact hok
 refine ⟨T, e, ⟨all_T hk, ?_⟩, k⟩
 rcases hy with hg | ⟨j, want, t, c, h1, h2, h3, h4, h5⟩
 · exact .inl ⟨hg, h'⟩
 · exact .inr (.inl ⟨j, want, t, h1, h2, by simpa using h3, .inl ⟨by rw [h4, h5], h'⟩⟩)
end
end Go.Proofs.Ytjomnccladjpgaa
