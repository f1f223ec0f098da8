/-
  Texts joined: see the remark at the head of each part.
-/
import Derived.Test.YtjomnccladjpgaaC09
import Derived.Test.YtjomnccladjpgaaC07
import Derived.Laws.CopyRow
set_option linter.unusedVariables false
set_option linter.unusedSimpArgs false
/-
  A function that is ranged over, as models tell it; the loop that ranges over it.
-/
namespace Go.Proofs.Ytjomnccladjpgaa
open Go Go.RowKit
set_option linter.unusedVariables false

theorem bif_t {α : Type} {c : Bool} {a b : Option α} {r : α} (hc : c = true) (h : (bif c then a else b) = some r) : a = some r := by rw [hc] at h; exact h
theorem bif_f {α : Type} {c : Bool} {a b : Option α} {r : α} (hc : c = false) (h : (bif c then a else b) = some r) : b = some r := by rw [hc] at h; exact h
/-- The heap of a function that is ranged over: the loop's part, the heap. -/
abbrev hzP {X H : Type} (hA : H → Nat → A) (zf : X → Nat → A) (q : X × H) : Nat → A := hz (hA q.2) (zf q.1)
theorem pure_hzP {X H : Type} {hA : H → Nat → A} {zf : X → Nat → A} (h : ∀ w, pureH (hA w)) (hz' : ∀ x, pureH (zf x)) (q : X × H) : pureH (hzP hA zf q) := pure_hz (h _) (hz' _)
/-- A round as a yield; nothing comes once the loop has ended. -/
def lpY {α B H : Type} (rnd : α → B → H → Option (Bool × B × H)) (a : α) (q : (Bool × B) × H) : Option (Bool × ((Bool × B) × H)) :=
  bif q.1.1 then Option.bind (rnd a q.1.2 q.2) fun y => some (y.1, ((y.1, y.2.1), y.2.2)) else none
/-- Yield, as a function tells it. -/
def YLs {X H α : Type} (P : Program) (l : Nat) (hA : H → Nat → A) (zf : X → Nat → A) (ag : α → List A) (yld : α → X × H → Option (Bool × (X × H))) : Prop :=
  ∀ a q b q', yld a q = some (b, q') → YLD P l (ag a) (hzP hA zf q) (hzP hA zf q') b
/-- What is asked of a function's model that is ranged over. -/
def ITR {H α : Type} (P : Program) (fn : Nat) (caps : List (List T)) (hA : H → Nat → A) (ag : α → List A) (M : (X : Type) → (α → X × H → Option (Bool × (X × H))) → X × H → Option (X × H)) : Prop :=
  ∀ (X : Type) (l : Nat) (zf : X → Nat → A) (hz' : ∀ x, pureH (zf x)) (yld : α → X × H → Option (Bool × (X × H))) (hy : YLs P l hA zf ag yld) (q r : X × H), M X yld q = some r → ∃ y, FCH P fn (.t (.d (.lit (yv l))) :: caps.map A.imt) [] [] (hzP hA zf q) (hzP hA zf r) y

/-- What is known of slots all through a loop. -/
def stOK (bs : List Nat) (g : Nat) : SL → Prop
  | [] => True
  | (s, x) :: r => (((Nat.blt s OB && !bs.contains s && !(s == g)) = true ∧ statB x = true) ∨ ((Nat.ble OB s && Nat.blt s HK) = true ∧ x = .free)) ∧ stOK bs g r
theorem stOK.get {bs : List Nat} {g : Nat} : ∀ {L : SL}, stOK bs g L → ∀ s, gt L s = .any ∨ (s < OB ∧ s ∉ bs ∧ s ≠ g ∧ statB (gt L s) = true) ∨ (OB ≤ s ∧ s < HK ∧ gt L s = .free)
  | [], _, s => .inl rfl
  | (t, x) :: r, h, s => by
    rw [gt_cons, upd]
    by_cases e : s = t
    · subst e
      rw [if_pos rfl]
      rcases h.1 with ⟨h1, h2⟩ | ⟨h1, h2⟩
      · simp only [Bool.and_eq_true, Bool.not_eq_true', List.contains_eq_mem, decide_eq_false_iff_not, beq_eq_false_iff_ne] at h1
        exact .inr (.inl ⟨by simpa using h1.1.1, h1.1.2, h1.2, h2⟩)
      · simp only [Bool.and_eq_true] at h1
        exact .inr (.inr ⟨Nat.le_of_ble_eq_true h1.1, by simpa using h1.2, h2⟩)
    · rw [if_neg e]
      exact stOK.get h.2 s
theorem cd_nz {t i : Nat} (h : t < 63) : cd t i % 64 ≠ 63 := by rw [cd_mod (by omega)]; omega
theorem capC_nil : capC [] := fun _ h => by cases h
theorem capC_d {x : D} {l : List T} (h : capC l) : capC (.d x :: l) := fun y hy => by
  rcases List.mem_cons.1 hy with rfl | hy
  · exact .inl ⟨_, rfl⟩
  · exact h y hy
theorem capC_hpt {t i off : Nat} {l : List T} (ht : t < 63) (h : capC l) : capC (.hpt (cd t i) off :: l) := fun y hy => by
  rcases List.mem_cons.1 hy with rfl | hy
  · exact .inr ⟨_, _, rfl, cd_nz ht⟩
  · exact h y hy
theorem all_nil {α : Type} {p : α → Prop} : ∀ x ∈ ([] : List α), p x := fun _ h => by cases h
theorem all_cons {α : Type} {p : α → Prop} {a : α} {l : List α} (h : p a) (k : ∀ x ∈ l, p x) : ∀ x ∈ a :: l, p x := fun x hx => by
  rcases List.mem_cons.1 hx with rfl | hx
  · exact h
  · exact k x hx
theorem nzC_hpc {t i off : Nat} {l : List T} (ht : t < 63) (h : nzC l) : nzC (.hpt (cd t i) off :: l) := nzC_hpt (cd_nz ht) h
/-- The variables that rounds write, one by one. -/
def BxS (L : SL) : List Nat → List (List T) → Prop
  | s :: r, c :: k => gt L s = .box c ∧ BxS L r k
  | [], [] => True
  | _, _ => False
theorem BxS.get {L : SL} : ∀ {bs : List Nat} {cs : List (List T)}, BxS L bs cs → ∀ (i s : Nat), bs[i]? = some s → ∃ c, cs[i]? = some c ∧ gt L s = .box c
  | [], [], _, i, s, h => by simp at h
  | b :: bs, c :: cs, h, 0, s, e => by injection e with e; subst e; exact ⟨c, rfl, h.1⟩
  | b :: bs, c :: cs, h, i + 1, s, e => by simpa using BxS.get h.2 i s (by simpa using e)
theorem box_get : ∀ {bs : List Nat} {cs : List (List T)} {R : SL}, bs.Nodup → cs.length = bs.length → ∀ (i s : Nat), bs[i]? = some s → ∃ c, cs[i]? = some c ∧ gt (bs.zip (cs.map A.box) ++ R) s = .box c := by
  intro bs cs R hn hl i s hi
  have hlt := (List.getElem?_eq_some_iff.1 hi).1
  refine ⟨cs[i], List.getElem?_eq_getElem (by omega), ?_⟩
  rw [gt_zip _ _ _ _ (by rw [List.length_map, hl]), posN_of hn hi]
  simp [List.getD_eq_getElem?_getD, hl, hlt]

theorem s_less {P : Program} {pins : List Nat} {N : Nat} {x y : Code} {Q : Exit → SL → Prop} {L : SL} (L' : SL) (hw : WkS L L') (hr : wkOK L L' = true) (h : SeqOK P pins N x y Q L') : SeqOK P pins N x y Q L :=
  fun Fe ne hF w0 m0 o0 G a w hS => h Fe ne hF w0 m0 o0 G a w (hS.weaken hw hr)
theorem c_itr {P : Program} {pins : List Nat} {N i g fn : Nat} {bs ps : List Nat} {caps : List (List T)} {assign body rest : Code} {Q : Exit → SL → Prop} {L : SL} {α B H : Type} {b0 : B} {w0 : H} (L0 : SL) (cf : B → List (List T)) {hA : H → Nat → A} {ag : α → List A} {rnd : α → B → H → Option (Bool × B × H)} {M : (X : Type) → (α → X × H → Option (Bool × (X × H))) → X × H → Option (X × H)} {x : (Bool × B) × H}
    (hit : ITR P fn caps hA ag M) (h : M _ (lpY rnd) ((true, b0), w0) = some x) (hNC : ∀ w, NC (hA w))
    (hc : (!pins.contains DK && Nat.ble N OB && Nat.ble ps.length OB && bs.all (fun b => Nat.blt b N && !ps.contains b && !(b == g)) && ps.all (Nat.blt · N) && Nat.blt g OB) = true) (hn : bs.Nodup) (hpn : ps.Nodup)
    (hcl : ∀ b, (cf b).length = bs.length) (hcc : ∀ b, ∀ c ∈ cf b, nzC c) (hag : ∀ a, (ag a).length = ps.length ∧ (ag a).all A.plain = true) (hcaps : ∀ l ∈ caps, capC l) (hst : stOK bs g L0)
    {F : Func} (hfn : P.funcs[fn]? = some F) (hbody : F.body.isNone = false) (hname : (F.name == "runtime.NumGoroutine") = false)
    (hw : WkS L ((HK, .hp (hA w0)) :: (g, .cl fn caps) :: (bs.zip ((cf b0).map A.box) ++ L0))) (hr : noRefs ((HK, .hp (hA w0)) :: (g, .cl fn caps) :: (bs.zip ((cf b0).map A.box) ++ L0)) = true)
    (round : ∀ a b w y, rnd a b w = some y → CodeOK P bs N assign (fun e L1 => e = .normal ∧ CodeOK P bs N body (fun e L2 => ((e = .normal ∧ y.1 = true) ∨ (e = .ret ∧ y.1 = false)) ∧ gt L2 HK = .hp (hA y.2.2) ∧ BxS L2 bs (cf y.2.1)) L1) (LR ps (ag a) (hA w) bs (cf b) L0))
    (hret : x.1.1 = false → Q .ret (LA (hA x.2) bs (cf x.1.2) L0)) (hrest : x.1.1 = true → CodeOK P pins N rest (fun e L2 => e = .ret ∧ Q .ret L2) (LA (hA x.2) bs (cf x.1.2) L0)) :
    SeqOK P (DK :: pins) N (.block i (.rangeFunc (.tmp g) ps.toArray assign body)) rest Q L := by
  simp only [Bool.and_eq_true, Bool.not_eq_true', List.contains_eq_mem, decide_eq_false_iff_not, List.all_eq_true, beq_eq_false_iff_ne] at hc
  obtain ⟨⟨⟨⟨⟨k1, k2⟩, k3⟩, k4⟩, k5⟩, k6⟩ := hc
  have k2 := Nat.le_of_ble_eq_true k2
  have k3 := Nat.le_of_ble_eq_true k3
  have k6 : g < OB := by simpa using k6
  have hgK : g ≠ HK := by unfold HK; unfold OB at k6; omega
  have hbN : ∀ b ∈ bs, b < N := fun b hb => by simpa using (k4 b hb).1.1
  have hbK : HK ∉ bs := fun hb => by have := hbN _ hb; unfold HK at this; unfold OB at k2; omega
  have hpsN : ∀ p ∈ ps, p < N := fun p hp => by simpa using k5 p hp
  refine s_less _ hw hr ?_
  have hgt : ∀ s, s ≠ HK → s ≠ g → s ∉ bs → gt ((HK, .hp (hA w0)) :: (g, .cl fn caps) :: (bs.zip ((cf b0).map A.box) ++ L0)) s = gt L0 s := fun s h1 h2 h3 => by
    rw [gt_cons, upd_other h1, gt_cons, upd_other h2, gt_zip _ _ _ _ (by rw [List.length_map, hcl])]
    cases hq : posN bs s with
    | none => rfl
    | some i => exact absurd (List.mem_of_getElem? (posN_get hq)) h3
  refine c_range (f := hA w0) (f' := hA x.2) (cs := cf b0) (cs' := cf x.1.2) (b := x.1.1) (L0 := L0) k1 k2 (by rw [gt_cons, upd_same]) (hNC _) (hNC _) (hcl _) (hcl _) (hcc _) (hcc _) hn hbN (fun i s hi => ?_) (by rw [gt_cons, upd_other hgK, gt_cons, upd_same]) hcaps (fun s => ?_) hfn hbody hname ?_ hret hrest
  · obtain ⟨c, e1, e2⟩ := box_get (R := L0) hn (hcl b0) i s hi
    have hm := List.mem_of_getElem? hi
    exact ⟨c, e1, by rw [gt_cons, upd_other (fun e => hbK (by rw [← e]; exact hm)), gt_cons, upd_other (k4 s hm).2]; exact e2⟩
  · rcases hst.get s with e | ⟨e1, e2, e3, e4⟩ | ⟨e1, e2, e3⟩
    · exact .inl e
    · rw [hgt s (by unfold HK; unfold OB at e1; omega) e3 e2]
      exact .inr (.inl ⟨e1, e2, e4, rfl⟩)
    · rw [hgt s (Nat.ne_of_lt e2) (by omega) (fun hb => by have := hbN s hb; omega)]
      exact .inr (.inr ⟨e1, e2, e3, e3⟩)
  · intro l r mE oE hH hs hp hps has hbo
    refine hit (Bool × B) l (fun z => zA l (.loop (if z.1 then r else { r with state := .done, pending := some .ret })) mE oE (cf z.2)) (fun z => pure_zA (hcc _)) (lpY rnd) ?_ ((true, b0), w0) x h
    rintro a ⟨⟨al, b⟩, w⟩ b' q' hy
    unfold lpY at hy
    cases al with
    | false => cases hy
    | true =>
      have hy : Option.bind (rnd a b w) (fun y => some (y.1, ((y.1, y.2.1), y.2.2))) = some (b', q') := hy
      cases hq : rnd a b w with
      | none => rw [hq] at hy; cases hy
      | some y =>
        rw [hq] at hy
        have hy : some (y.1, ((y.1, y.2.1), y.2.2)) = some (b', q') := hy
        injection hy with hy
        injection hy with h1 h2
        subst h1 h2
        subst has hbo
        have R := round a b w y hq
        refine yld_mk (L0 := L0) k2 hn hbN hpn hpsN (fun p hp hb => (k4 p hb).1.2 hp) k3 hH hs hp hps (hag a).1 (hag a).2 (hNC _) (hNC _) (hcl _) (hcl _) (hcc _) (hcc _) ?_
        intro Fe ne hF w1 m1 o1 G1 a1 w2 hS
        refine wpIn_mono (R Fe ne hF w1 m1 o1 G1 a1 w2 hS) ?_
        rintro e a2 w3 ⟨L1, ⟨he, hB⟩, hS1⟩
        refine ⟨L1, ⟨he, ?_⟩, hS1⟩
        intro Fe ne hF w1 m1 o1 G1 a1 w2 hS
        refine wpIn_mono (hB Fe ne hF w1 m1 o1 G1 a1 w2 hS) ?_
        rintro e a2 w3 ⟨L2, ⟨he, hk, hbx⟩, hS1⟩
        exact ⟨L2, ⟨he, hk, hbx.get⟩, hS1⟩

/-- Arguments that are told as variables that never change, more of which is asked. -/
theorem FCK.im {K : Array Value → World → (Ending → World → Prop) → Prop} {args args' ins outs : List A} {f f' : Nat → A} {r : A} (hl : args'.length = args.length) (hw : ∀ (m : Mem) (w : World) (o : OwnM) (S S' : Nat → A) (i : Nat) (v : Value), RepA m w o S i (args'.getD i .any) v → RepA m w o S' i (args.getD i .any) v) (h : FCK K args ins outs f f' r) (hno : ∀ i b off, (args'.getD i .any) ≠ .ref b off) (hin : ∀ x ∈ ins, ∀ b off, x ≠ .ref b off) (hlen : ins.length ≤ OB) : FCK K args' ins outs f f' r := by
  intro w m o vals h1 h2 h3 h4 h5 h6
  refine h w m o vals h1 h2 h3 h4 (by rw [h5, hl]) fun s => ?_
  have h7 := h6 s
  have keep : ∀ x, (∀ b off, x ≠ .ref b off) → ∀ v, RepA m w o (argH args' ins f) s x v → RepA m w o (argH args ins f) s x v := fun x hx v hr => by
    cases x with
    | ref b off => exact absurd rfl (hx b off)
    | _ => exact hr
  unfold argH at h7 ⊢
  by_cases e : s < OB
  · rw [if_pos e] at h7 ⊢
    exact hw _ _ _ _ _ _ _ h7
  · rw [if_neg e] at h7 ⊢
    by_cases e2 : OB2 ≤ s
    · rw [if_pos e2] at h7 ⊢
      exact keep _ (fun b off q => by cases hq : f (s - OB2) <;> rw [hq] at q <;> cases q) _ h7
    · rw [if_neg e2] at h7 ⊢
      cases hq : ins[s - OB]? with
      | none => rw [hq] at h7; exact h7
      | some x =>
        rw [hq] at h7
        exact keep x (hin x (List.mem_of_getElem? hq)) _ h7
/-- A variable that never changes, told as data. -/
def unT : T → Option D
  | .d x => some x
  | _ => none
def unTs : List T → Option (List D)
  | [] => some []
  | x :: r => match unT x, unTs r with | some d, some k => some (d :: k) | _, _ => none
def toIm : A → A
  | .imt l => match unTs l with | some k => .imm k | none => .imt l
  | x => x
theorem unTs_get : ∀ {l : List T} {k : List D}, unTs l = some k → l = k.map .d
  | [], k, h => by injection h with h; subst h; rfl
  | x :: r, k, h => by
    unfold unTs at h
    split at h
    · rename_i d q h1 h2
      injection h with h
      subst h
      rw [unTs_get h2]
      cases x <;> cases h1
      rfl
    · cases h
theorem toIm_rep {m : Mem} {w : World} {o : OwnM} {S S' : Nat → A} {i : Nat} {x : A} {v : Value} (hx : ∀ b off, x ≠ .ref b off) (h : RepA m w o S i x v) : RepA m w o S' i (toIm x) v := by
  cases x with
  | ref b off => exact absurd rfl (hx b off)
  | imt l =>
    show RepA m w o S' i (match unTs l with | some k => .imm k | none => .imt l) v
    cases hq : unTs l with
    | none => exact h
    | some k =>
      rw [unTs_get hq] at h
      obtain ⟨g, e, h1⟩ := h
      refine ⟨g, 0, e, fun j d hj => ?_⟩
      obtain ⟨u, a, b⟩ := h1 j (.d d) (by simp [hj])
      exact ⟨u, by rw [Nat.zero_add]; exact a, b⟩
  | _ => exact h
theorem FCH.im {P : Program} {fn : FuncId} {args args' : List A} {f f' : Nat → A} {r : A} (ha : args'.map toIm = args) (hno : args'.all (fun x => match x with | .ref _ _ => false | _ => true) = true) (h : FCH P fn args [] [] f f' r) : FCH P fn args' [] [] f f' r := by
  subst ha
  have hno' : ∀ i b off, args'.getD i .any ≠ .ref b off := fun i b off e => by
    rw [List.getD_eq_getElem?_getD] at e
    cases hq : args'[i]? with
    | none => rw [hq] at e; cases e
    | some x =>
      rw [hq] at e
      have e : x = .ref b off := e
      subst e
      have := List.all_eq_true.1 hno _ (List.mem_of_getElem? hq)
      cases this
  refine FCK.im (by simp) (fun m w o S S' i v hr => ?_) h hno' (fun _ h => by cases h) (Nat.zero_le _)
  have e : (args'.map toIm).getD i .any = toIm (args'.getD i .any) := by
    rw [List.getD_eq_getElem?_getD, List.getD_eq_getElem?_getD, List.getElem?_map]
    cases args'[i]? <;> rfl
  rw [e]
  exact toIm_rep (hno' i) hr
end Go.Proofs.Ytjomnccladjpgaa

/-
  The model of slices.Clone over sectors.
-/
namespace Go.Proofs.Ytjomnccladjpgaa
open Go Go.RowKit
set_option linter.unusedVariables false
end Go.Proofs.Ytjomnccladjpgaa

/-
  append onto a slice of an object: the object grows, or its cells move to a new block.
-/
namespace Go.Proofs.Ytjomnccladjpgaa
open Go Go.RowKit
set_option linter.unusedVariables false

end Go.Proofs.Ytjomnccladjpgaa

/-
  Slices that grow and are written: an object that need not be there while the slice is empty.
-/
namespace Go.Proofs.Ytjomnccladjpgaa
open Go Go.RowKit
set_option linter.unusedVariables false

/-- What is told of the object: nothing is there while the slice is empty. -/
def gbA {α : Type} (c : α → List D) : List α → A
  | [] => .free
  | a :: l => .box (fl (dT c) (a :: l))
theorem ob_gb {α : Type} (c : α → List D) (y : List α) (j : Nat) : mentA j (gbA c y) = false := by
  cases y with
  | nil => rfl
  | cons a l => exact ob_box (fl_noPt c _) j
/-! ### Elements of more than one cell -/
theorem fl_put2 {α : Type} {c : α → List D} {l : List α} {z : Int} {y : α} {k q : Nat} (h : idx l z = some y) (v : α) (hc : ∀ a, (c a).length = k) {x : List T} (hx : splice (dT c y) q x = dT c v) (hq : Nat.ble (q + x.length) k = true) : splice (fl (dT c) l) (0 + z.toNat * k + q) x = fl (dT c) (l.set z.toNat v) := by
  have := fl_splice (c := dT c) (k := k) (dT_len hc) (idx_lt h).2.2 (q := q) (b := v) (d := x) hx (by simpa using hq)
  rw [Nat.zero_add]
  exact this
theorem fl_room2 {α : Type} {c : α → List D} {l : List α} {z : Int} {y : α} {k q n : Nat} (h : idx l z = some y) (hc : ∀ a, (c a).length = k) (hq : Nat.ble (q + n) k = true) : 0 + z.toNat * k + q + n ≤ (fl (dT c) l).length := by
  have h1 := idx_lt h
  rw [fl_len (dT_len hc)]
  have h2 : z.toNat + 1 ≤ l.length := by omega
  have h3 := Nat.mul_le_mul_right k h2
  rw [Nat.succ_mul] at h3
  have h4 : q + n ≤ k := by simpa using hq
  omega
/-- Only these places may tell of object j. -/
def NoM (j : Nat) (ex : List Nat) (L : SL) : Prop := ∀ s, ex.contains s = false → mentA j (gt L s) = false
theorem NoM.nil {j : Nat} {ex : List Nat} : NoM j ex [] := fun _ _ => rfl
theorem NoM.cons {j : Nat} {ex : List Nat} {s : Nat} {x : A} {L : SL} (h : mentA j x = false) (hr : NoM j (s :: ex) L) : NoM j ex ((s, x) :: L) := fun t ht => by
  rw [gt_cons]
  unfold upd
  by_cases e : t = s
  · rw [if_pos e]; exact h
  · rw [if_neg e]
    exact hr t (by rw [List.contains_cons, ht, Bool.or_false]; exact beq_eq_false_iff_ne.2 e)
theorem NoM.skip {j : Nat} {ex : List Nat} {s : Nat} {x : A} {L : SL} (h : ex.contains s = true) (hr : NoM j ex L) : NoM j ex ((s, x) :: L) := fun t ht => by
  rw [gt_cons]
  unfold upd
  by_cases e : t = s
  · rw [e, h] at ht; cases ht
  · rw [if_neg e]; exact hr t ht
section
variable {w0 : World} {m0 : Mem} {o0 : OwnM} {G : GD} {pins : List Nat} {S M : Nat → A} {P : Program} {N : Nat} {Q : Exit → SL → Prop} {L : SL} {op : Oper} {d : Nat}
theorem NoM.get {j : Nat} {ex : List Nat} (h : NoM j ex L) : ∀ s, ex.contains s = false → mentA j (gt L s) = false := h
end
end Go.Proofs.Ytjomnccladjpgaa

/-
  A call's own slice, told as a slice of a local object; the greater of two numbers.
-/
namespace Go.Proofs.Ytjomnccladjpgaa
open Go Go.RowKit
set_option linter.unusedVariables false

end Go.Proofs.Ytjomnccladjpgaa

/-
  Arrays as values; variables and made slices as objects, of the frame or of the heap; slices of arrays; copy.
-/
namespace Go.Proofs.Ytjomnccladjpgaa
open Go Go.RowKit
set_option linter.unusedVariables false

section
variable {α : Type} {c : α → List D} {z : α} {k : Nat}
/-- The cells of an array: n elements from the i-th on, whatever the list. -/
def ar (c : α → List D) (z : α) (l : List α) : Nat → Nat → List D
  | _, 0 => []
  | i, n + 1 => c (l.getD i z) ++ ar c z l (i + 1) n
def padA (z : α) (l : List α) : Nat → Nat → List α
  | _, 0 => []
  | i, n + 1 => l.getD i z :: padA z l (i + 1) n
theorem padA_len (l : List α) : ∀ (n i : Nat), (padA z l i n).length = n
  | 0, _ => rfl
  | n + 1, i => congrArg (· + 1) (padA_len l n (i + 1))
theorem ar_pad (l : List α) : ∀ (n i : Nat), ar c z l i n = fl c (padA z l i n)
  | 0, _ => rfl
  | n + 1, i => congrArg (c (l.getD i z) ++ ·) (ar_pad l n (i + 1))
theorem ar_len (hc : ∀ a, (c a).length = k) (l : List α) (i n : Nat) : (ar c z l i n).length = n * k := by
  rw [ar_pad, fl_len hc, padA_len]
theorem padA_drop (l : List α) : ∀ (n i : Nat), i + n = l.length → padA z l i n = l.drop i
  | 0, i, h => by rw [List.drop_of_length_le (by omega)]; rfl
  | n + 1, i, h => by
    have hi : i < l.length := by omega
    show l.getD i z :: padA z l (i + 1) n = _
    rw [padA_drop l n (i + 1) (by omega), List.drop_eq_getElem_cons hi, List.getD_eq_getElem?_getD, List.getElem?_eq_getElem hi]
    rfl
theorem padA_id {l : List α} {n : Nat} (h : l.length = n) : padA z l 0 n = l := by rw [padA_drop l n 0 (by omega)]; rfl
theorem ar_id {l : List α} {n : Nat} (h : l.length = n) : ar c z l 0 n = fl c l := by rw [ar_pad, padA_id h]
theorem fl_take1 {β : Type} {f : α → List β} (hf : ∀ a, (f a).length = 1) : ∀ (x : List α) (i : Nat), (fl f x).take i = fl f (x.take i)
  | [], i => by simp [fl]
  | a :: t, 0 => by simp [fl]
  | a :: t, i + 1 => by
    have h := hf a
    show (f a ++ fl f t).take (i + 1) = f a ++ fl f (t.take i)
    rw [← fl_take1 hf t i]
    match hfa : f a, h with
    | [b], _ => rfl
theorem fl_drop1 {β : Type} {f : α → List β} (hf : ∀ a, (f a).length = 1) : ∀ (x : List α) (i : Nat), (fl f x).drop i = fl f (x.drop i)
  | [], i => by simp [fl]
  | a :: t, 0 => by simp
  | a :: t, i + 1 => by
    have h := hf a
    show (f a ++ fl f t).drop (i + 1) = fl f (t.drop i)
    rw [← fl_drop1 hf t i]
    match hfa : f a, h with
    | [b], _ => rfl
theorem fl_append {β : Type} (f : α → List β) (x y : List α) : fl f (x ++ y) = fl f x ++ fl f y := List.flatMap_append
theorem flr_at {l : List α} {z : Int} {y : α} {k : Nat} (h : idx l z = some y) (hc : ∀ a, (c a).length = k) : ((fl (dT c) l).drop (0 + z.toNat * k)).take k = dT c y := by
  rw [Nat.zero_add]
  exact fl_row (dT_len hc) (idx_lt h).2.2
/-- A slice as an array. -/
def s2aI (n : Nat) (l : List α) : Option (List α) := if n ≤ l.length then some (l.take n) else none
theorem s2aI_iff {n : Nat} {l x : List α} (h : s2aI n l = some x) : n ≤ l.length ∧ x = l.take n := by
  unfold s2aI at h
  split at h
  · injection h with h; exact ⟨by assumption, h.symm⟩
  · cases h
theorem s2a_row {n : Nat} {l x : List α} (h : s2aI n l = some x) : ((l.map c).take n).flatMap id = ar c z x 0 n := by
  obtain ⟨h1, rfl⟩ := s2aI_iff h
  rw [ar_id (by rw [List.length_take]; omega), ← List.map_take]
  unfold fl
  rw [List.flatMap_map]
  rfl
/-- What copy leaves: n places from off on get what stands first in y. -/
def cpyL (x : List α) (off n : Nat) (y : List α) : List α := x.take off ++ (y.take n ++ x.drop (off + min y.length n))
def cpyI (x : List α) (off n : Nat) (y : List α) : Option (List α) := if off + n ≤ x.length then some (cpyL x off n y) else none
theorem cpyI_iff {x y v : List α} {off n : Nat} (h : cpyI x off n y = some v) : off + n ≤ x.length ∧ v = cpyL x off n y := by
  unfold cpyI at h
  split at h
  · injection h with h; exact ⟨by assumption, h.symm⟩
  · cases h
theorem cpy_row (hc : ∀ a, (c a).length = 1) (x y : List α) (off n : Nat) : splice (fl (dT c) x) off ((((y.map c).take n).flatMap id).map T.d) = fl (dT c) (cpyL x off n y) := by
  have h1 : ((((y.map c).take n).flatMap id).map T.d) = fl (dT c) (y.take n) := by
    rw [← List.map_take, ← fl_flat]
  have hd := dT_len hc
  have h2 : (fl (dT c) (y.take n)).length = min y.length n := by rw [fl_len hd, List.length_take]; omega
  unfold splice cpyL
  rw [h1, h2, fl_take1 hd, fl_drop1 hd, fl_append, fl_append, List.append_assoc]
def pieceI (x : List α) (off n : Nat) : Option (List α) := if off + n ≤ x.length then some ((x.drop off).take n) else none
theorem pieceI_iff {x y : List α} {off n : Nat} (h : pieceI x off n = some y) : off + n ≤ x.length ∧ y = (x.drop off).take n := by
  unfold pieceI at h
  split at h
  · injection h with h; exact ⟨by assumption, h.symm⟩
  · cases h
/-- A cut of a slice of an object. -/
def vcut (n : Nat) (lo hi : Int) : Option Unit := if 0 ≤ lo ∧ lo ≤ hi ∧ hi ≤ n then some () else none
theorem vcut_iff {n : Nat} {lo hi : Int} {u : Unit} (h : vcut n lo hi = some u) : 0 ≤ lo ∧ lo ≤ hi ∧ hi ≤ n := by
  unfold vcut at h
  split at h
  · assumption
  · cases h
end

section
variable {w0 : World} {m0 : Mem} {o0 : OwnM} {G : GD} {pins : List Nat} {S M : Nat → A} {a : Act} {w : World} {m : Mem} {o : OwnM} {P : Program} {N : Nat} {op : Oper} {d c : Nat} {f f' : Nat → A}
/-- A slot is told otherwise. -/
theorem Inv.tell (I : Inv w0 m0 o0 G pins S a w m o) (d : Nat) (x : A) (hbox : (S d).isBox = false) (hx : RepA m w o (upd S d x) d x (a.tmps.getD d undef)) : Inv w0 m0 o0 G pins (upd S d x) a w m o := by
  refine ⟨I.same, I.sat, I.mono, I.old, I.own, I.lt, I.inj, I.pinned, fun s => ?_, I.defers, I.tbl, I.wide, I.shps⟩
  by_cases e : s = d
  · subst e
    rw [upd_same]
    exact hx
  · rw [upd_other e]
    refine (I.slots s).turn fun b l hb => ⟨l, ?_⟩
    rw [upd_other (fun e => by rw [e] at hb; rw [hb] at hbox; cases hbox), hb]
theorem OpOK.post {S1 S2 : Nat → A} (h : OpOK P pins N op S S1) (k : ∀ w0 m0 o0 G a w m o, Inv w0 m0 o0 G pins S1 a w m o → Inv w0 m0 o0 G pins S2 a w m o) : OpOK P pins N op S S2 :=
  fun w0 m0 o0 G a w m o hN I K Q hK => h w0 m0 o0 G a w m o hN I K Q fun a' w' m' o' hN' I' => hK a' w' m' o' hN' (k _ _ _ _ _ _ _ _ I')
/-- An operation that gives object j and slot d. -/
theorem OpH.lo2 {j : Nat} {x1 x2 : A} (hj : Nat.blt (j + 1) OB = true) (hok : okD N pins S d = true) (h : N ≤ OB → Low S → OpOK P pins N op (hx S) (app (hx S) [(OB + j, x1), (d, x2)])) : OpH P pins N op S (app S [(OB + j, x1), (d, x2)]) := by
  intro hN hlo
  obtain ⟨e1, e2, e3⟩ := lo_of hj
  have hdO := okD_lo hN hok
  refine ⟨?_, (hlo.upd e1).upd (lt2 hdO)⟩
  show OpOK P pins N op (hx S) (hx (upd (upd S (OB + j) _) d _))
  rw [hx_updL (lt2 hdO) (by unfold HK; unfold OB at hdO; omega), hx_updL e1 e2]
  exact h hN hlo
theorem hx_freeM (hM : Mk M S) {j : Nat} (h : M (OB + j) = .free) : hx S (OB + j) = .free := by
  rcases hM (OB + j) with e | e
  · rw [e] at h; cases h
  · rw [e] at h; exact hx_of h (by simp)
theorem hx_boxM (hM : Mk M S) {j : Nat} {l : List T} (h : M (OB + j) = .box l) : hx S (OB + j) = .box l := by
  rcases hM (OB + j) with e | e
  · rw [e] at h; cases h
  · rw [e] at h; exact hx_of h (by simp)

/-! ### A slice as an array -/
theorem ok_s2a (hM : Mk M S) {t n e k : Nat} {x : Operand} {l : List (List D)} (hop : op.op = .sliceToArrayPointer t x) (hu : P.underlying t = some (.array n e)) (hx : dO M x = some (.seq k l)) (hk : 0 < k) (hpos : 0 < n) (hn : n ≤ l.length) (hd : op.dst = some d) (hok : okD N pins S d = true) :
    OpOK P pins N op S (upd S d (.imm ((l.take n).flatMap id))) := by
  refine ok_of_run fun w0 m0 o0 G a w m o hN I => ?_
  obtain ⟨h1, h2, h3⟩ := okD_iff hok
  have hr := dO_rep hM I hx
  generalize hv : a.eval x = v at hr
  cases hr with
  | seq _ _ A' cap g p fv hcap hmax hA hw hm hr =>
    have hne : l ≠ [] := fun e => by rw [e] at hn; simp at hn; omega
    have hA := hA hne
    subst hA
    refine ⟨.pointer (some ⟨g, p, none⟩), w, m, o, ?_, by
      rw [hd]
      refine I.set d _ _ (by omega) h2 ⟨g, p, rfl, fun j dd hj => ?_⟩
      have hwt : ∀ r ∈ l.take n, r.length = k := fun r hr => by
        obtain ⟨i, hi⟩ := List.getElem?_of_mem (List.mem_of_mem_take hr)
        exact hw i r hi
      have hlt : j < n * k := by
        have := (List.getElem?_eq_some_iff.1 hj).1
        rw [fl_len_of hwt, List.length_take] at this
        rw [Nat.min_eq_left hn] at this
        exact this
      have hi1 : j / k < n := Nat.div_lt_of_lt_mul (by rw [Nat.mul_comm]; exact hlt)
      have hi2 : j % k < k := Nat.mod_lt _ hk
      have he : j / k * k + j % k = j := by rw [Nat.mul_comm]; exact Nat.div_add_mod j k
      have hil : j / k < l.length := by omega
      obtain ⟨r, hr'⟩ : ∃ r, l[j / k]? = some r := ⟨_, List.getElem?_eq_getElem hil⟩
      have hrt : (l.take n)[j / k]? = some r := by rw [List.getElem?_take, if_pos hi1]; exact hr'
      have h5 := fl_cell_of hwt hrt hi2
      rw [he, hj] at h5
      refine ⟨fv (j / k) (j % k), ?_, hr _ r _ dd hr' h5.symm⟩
      have := hm _ r _ dd hr' h5.symm
      rw [Nat.add_assoc, he] at this
      exact this⟩
    unfold execOp
    rw [hop]
    simp only [Sem.run_bind]
    rw [hv]
    simp [Instr.arrayAt, run_underlying hu]
    intro h
    omega
theorem h_s2a {α : Type} {cc : α → List D} {l y : List α} {z : α} (hM : Mk M S) {t n e k : Nat} {x : Operand} (hop : op.op = .sliceToArrayPointer t x) (hu : P.underlying t = some (.array n e)) (hx : dO M x = some (.seq k (l.map cc))) (hk : (Nat.blt 0 k && Nat.blt 0 n) = true) (hn : s2aI n l = some y) (hd : op.dst = some d) (hok : okD N pins S d = true) :
    OpH P pins N op S (app S [(d, .imm (ar cc z y 0 n))]) := by
  simp only [Bool.and_eq_true] at hk
  rw [← s2a_row (z := z) hn]
  exact .of (e := [(d, _)]) fun hN => ⟨ok_s2a hM.hx hop hu hx (by simpa using hk.1) (by simpa using hk.2) (by rw [List.length_map]; exact (s2aI_iff hn).1) hd (okD_hx hN hok), eff_1 (okD_lo hN hok)⟩
/-- An array behind an address of cells that never change. -/
theorem h_ldim (hM : Mk M S) {t n : Nat} {x : Operand} {l : List D} (hop : op.op = .load t x) (ht : tyA P t = some (true, n)) (hx : cpO M x = .imm l) (hl : l.length = n) (hd : op.dst = some d) (hok : okD N pins S d = true) : OpH P pins N op S (app S [(d, .t (.agg l))]) := by
  refine .of (e := [(d, _)]) fun hN => ⟨?_, eff_1 (okD_lo hN hok)⟩
  refine ok_val' hM.hx hd (okD_hx hN hok) ?_
  rw [hop]
  show ldF P M t x = _
  unfold ldF
  simp only [hx, ht]
  rw [if_pos hl.symm]

/-! ### Made slices in the heap -/
theorem h_mko {α : Type} {c : α → List D} (hM : Mk M S) {t e nb q : Nat} {xn xc : Operand} {kl kc : IntKind} {n : Int} {ie : TypeInfo} {z : Value} {rs : List (List D)} (hop : op.op = .makeSlice t xn xc) (hn : vO M xn = some (.int kl n)) (hc : vO M xc = some (.int kc n)) (hE : elF P t = some (e, 1, nb)) (hie : P.info? e = some ie) (hz : ie.zero = some z) (hz1 : z.cells = #[z]) (hz2 : z.oneCell' = true) (hnb : nb = nb)
    (hq : mkI nb n = some q) (hr : List.replicate q [.lit z] = rs) (hd : op.dst = some d) (hok : okD N pins S d = true) : OpH P pins N op S (app S [(d, .t (.own e 1 rs))]) := by
  subst hr
  exact .of (e := [(d, _)]) fun hN => ⟨ok_mko (sz := 0) hM.hx hop hn hc hE hie hz hz1 hz2 hq hd (okD_hx hN hok), eff_1 (okD_lo hN hok)⟩

/-! ### Variables as objects -/
theorem ok_lmk {j : Nat} {l : List T} (hd : op.dst = some d) (hok : okD N pins S d = true) (hdO : d < OB) (hfree : S (OB + j) = .free)
    (h : ∀ (w0 : World) (m0 : Mem) (o0 : OwnM) (G : GD) (a : Act) (w : World) (m : Mem) (o : OwnM), Inv w0 m0 o0 G pins S a w m o → ∃ v cs E, (execOp a.eval op).run P w = .ok (.value v) (w.alloc (.cells cs E)) ∧ l.length ≤ cs.size ∧
      (∀ (i : Nat) (x : T), l[i]? = some x → x.noOwn = true ∧ ∃ u, cs[i]? = some u ∧ RepT m w o (0, 0) x u) ∧ v = .pointer (some ⟨w.heap.size, 0, none⟩)) :
    OpOK P pins N op S (app S [(OB + j, .box l), (d, .t (.ptr j 0))]) := by
  refine ok_of_run fun w0 m0 o0 G a w m o hN I => ?_
  obtain ⟨h1, h2, h3⟩ := okD_iff hok
  obtain ⟨v, cs, E, hrun, hlen, hc, rfl⟩ := h w0 m0 o0 G a w m o I
  refine ⟨_, w.alloc (.cells cs E), m, newO o (OB + j) w.heap.size, hrun, ?_⟩
  rw [hd]
  have J := I.obj_new (E := E) hfree hlen hc
  exact J.set d _ _ (by omega) (by rw [upd_other (by omega)]; exact h2) ⟨_, newO_same _ _ _, rfl⟩
theorem h_lnew (hM : Mk M S) {j E : Nat} {i : TypeInfo} {z : Value} {l0 l : List T} (hop : op.op = .alloc E) (hi : P.info? E = some i) (hz : i.zero = some z) (hl : cellsT (litA z) = some l0) (hl' : l0 = l) (hd : op.dst = some d) (hok : okD N pins S d = true) (hj : Nat.blt (j + 1) OB = true) (hfree : M (OB + j) = .free) :
    OpH P pins N op S (app S [(OB + j, .box l), (d, .t (.ptr j 0))]) := by
  subst hl'
  refine .lo2 hj hok fun hN hlo => ?_
  refine ok_lmk hd (okD_hx hN hok) (okD_lo hN hok) (hx_freeM hM hfree) fun w0 m0 o0 G a w m o I => ?_
  have hcp : cellsP (litA z) = some l0 := by
    revert hl
    generalize litA z = y
    intro hl
    cases y with
    | t y => cases y <;> first | exact hl | cases hl
    | _ => cases hl
  obtain ⟨k1, k2, k3⟩ := cellsP_rep hcp (litA_rep (m := m) (w := w) (o := o) (S := S) 0 z)
  refine ⟨_, z.cells, E, ?_, by simpa using Nat.le_of_eq k1.symm, fun i x hx => ?_, rfl⟩
  · unfold execOp
    rw [hop]
    simp [Instr.alloc, zeroValue, typeInfo, hi, hz, newVar, newRow]
  · obtain ⟨q1, u, q2, q3⟩ := k3 i x hx
    exact ⟨cellsP_noOwn hcp x (List.mem_of_getElem? hx), u, by simpa using q2, q3 _ _ (ShpAt.refl w)⟩
theorem h_lbox (hM : Mk M S) {j E : Nat} {x : Operand} {l0 l : List T} (hop : op.op = .box E x) (hl : cellsP (cpO M x) = some l0) (hl' : l0 = l) (hd : op.dst = some d) (hok : okD N pins S d = true) (hj : Nat.blt (j + 1) OB = true) (hfree : M (OB + j) = .free) :
    OpH P pins N op S (app S [(OB + j, .box l), (d, .t (.ptr j 0))]) := by
  subst hl'
  refine .lo2 hj hok fun hN hlo => ?_
  refine ok_lmk hd (okD_hx hN hok) (okD_lo hN hok) (hx_freeM hM hfree) fun w0 m0 o0 G a w m o I => ?_
  obtain ⟨k1, k2, k3⟩ := cellsP_rep hl (cpO_rep hM.hx I x 0)
  refine ⟨_, (a.eval x).cells, E, ?_, by simpa using Nat.le_of_eq k1.symm, fun i x hx => ?_, rfl⟩
  · unfold execOp
    rw [hop]
    simp [Instr.box, newVar, newRow]
  · obtain ⟨q1, u, q2, q3⟩ := k3 i x hx
    exact ⟨cellsP_noOwn hl x (List.mem_of_getElem? hx), u, by simpa using q2, q3 _ _ (ShpAt.refl w)⟩

/-! ### Slices of arrays -/
theorem bounds_run {n : Nat} {l0 h0 : Option Int} {kl kh : Int → IntKind} (hc : 0 ≤ l0.getD 0 ∧ l0.getD 0 ≤ h0.getD n ∧ h0.getD n ≤ n) :
    (Instr.sliceBounds false n n (l0.map fun z => .int (kl z) z) (h0.map fun z => .int (kh z) z) none).run P w = .ok ((l0.getD 0).toNat, (h0.getD n).toNat, n) w := by
  have hlo2 : (l0.map Int.toNat).getD 0 = (l0.getD 0).toNat := by cases l0 <;> rfl
  have hhi2 : (h0.map Int.toNat).getD n = (h0.getD n).toNat := by cases h0 <;> simp
  rw [← hlo2, ← hhi2]
  unfold Instr.sliceBounds
  cases l0 <;> cases h0 <;> simp only [Option.getD_none, Option.getD_some, Option.map_none, Option.map_some, Option.isSome_none, Option.isSome_some] at hc ⊢ <;>
    (simp only [Sem.run_bind, Sem.run_pure, Result.andThen_ok]
     repeat (rw [run_sliceBound_ok (by omega) (by omega), Result.andThen_ok]))
theorem sla_run {t n e g off : Nat} {ie : TypeInfo} {l0 h0 : Option Int} {kl kh : Int → IntKind} (hu : P.underlying t = some (.array n e)) (hie : P.info? e = some ie) (hc : 0 ≤ l0.getD 0 ∧ l0.getD 0 ≤ h0.getD n ∧ h0.getD n ≤ n) :
    (Instr.sliceAt t (.pointer (some ⟨g, off, none⟩)) (l0.map fun z => .int (kl z) z) (h0.map fun z => .int (kh z) z) none).run P w = .ok (.slice (some (if n = (l0.getD 0).toNat then ⟨g, off, none⟩ else ⟨g, off + (l0.getD 0).toNat * ie.size, none⟩)) ((h0.getD n).toNat - (l0.getD 0).toNat) (n - (l0.getD 0).toNat)) w := by
  unfold Instr.sliceAt
  simp only [Sem.run_bind, run_underlying hu, Result.andThen_ok]
  rw [show (Instr.sureAddr (.pointer (some ⟨g, off, none⟩))).run P w = .ok ⟨g, off, none⟩ w from rfl, Result.andThen_ok, bounds_run hc]
  simp [sizeOf, typeInfo, hie, Addr.add_mid]
/-- A slice of an array that an object holds (key b; the block's type is not told). -/
theorem ok_sla {j off n t e : Nat} {x : Operand} {lo hi : Option Operand} {l0 h0 : Option Int} {ie : TypeInfo} {l : List T} (hM : Mk M S) (hop : op.op = .slice t x lo hi none) (hx : ∀ {w0 m0 o0 G a w m o}, Inv w0 m0 o0 G pins S a w m o → ∃ g, o g = some (OB + j, 0) ∧ a.eval x = .pointer (some ⟨g, off, none⟩)) (hb : S (OB + j) = .box l) (hlo : bndO M lo = some l0) (hhi : bndO M hi = some h0) (hu : P.underlying t = some (.array n e)) (hie : P.info? e = some ie)
    (hle : off + n * ie.size ≤ l.length) (hn : n ≤ 65536) (hc : 0 ≤ l0.getD 0 ∧ l0.getD 0 ≤ h0.getD n ∧ h0.getD n ≤ n) (hd : op.dst = some d) (hok : okD N pins S d = true) :
    OpOK P pins N op S (upd S d (.t (.view j (off + (l0.getD 0).toNat * ie.size) 0 ie.size ((h0.getD n).toNat - (l0.getD 0).toNat)))) := by
  refine ok_of_run fun w0 m0 o0 G a w m o hN I => ?_
  obtain ⟨h1, h2, h3⟩ := okD_iff hok
  obtain ⟨g, k1, k2⟩ := hx I
  have hs := I.slots (OB + j)
  rw [hb] at hs
  obtain ⟨g', _, q1, q2, cs, E, q3, q4, q5⟩ := hs
  have := I.inj _ _ _ k1 q1
  subst this
  obtain ⟨kl, e1⟩ := bndO_eq hM I hlo
  obtain ⟨kh, e2⟩ := bndO_eq hM I hhi
  refine ⟨.slice (some (if n = (l0.getD 0).toNat then ⟨g, off, none⟩ else ⟨g, off + (l0.getD 0).toNat * ie.size, none⟩)) ((h0.getD n).toNat - (l0.getD 0).toNat) (n - (l0.getD 0).toNat), w, m, o, ?_, ?_⟩
  · unfold execOp
    rw [hop]
    simp only [Sem.run_bind]
    rw [e1, e2, k2]
    show Result.andThen (Sem.run P (Instr.sliceAt t _ _ _ none) w) _ = _
    rw [sla_run hu hie hc]
    rfl
  · rw [hd]
    refine I.set d _ _ (by omega) h2 ?_
    refine ⟨_, n - (l0.getD 0).toNat, by omega, by unfold maxLen; omega, rfl, ?_⟩
    by_cases hz : n = (l0.getD 0).toNat
    · exact .inl (by omega)
    · refine .inr ⟨g, cs, E, k1, by rw [if_neg hz], q3, ?_, .inl rfl⟩
      have : (l0.getD 0).toNat * ie.size + (n - (l0.getD 0).toNat) * ie.size = n * ie.size := by rw [← Nat.add_mul]; congr 1; omega
      omega
theorem h_sla (hM : Mk M S) {j off n t e : Nat} {x : Operand} {lo hi : Option Operand} {l0 h0 : Option Int} {ie : TypeInfo} {l : List T} {y : T} (hop : op.op = .slice t x lo hi none) (hx : cpO M x = .ref (OB + j) off) (hb : M (OB + j) = .box l) (hlo : bndO M lo = some l0) (hhi : bndO M hi = some h0) (hu : P.underlying t = some (.array n e)) (hie : P.info? e = some ie)
    (hle : Nat.ble (off + n * ie.size) l.length = true) (hn : Nat.ble n 65536 = true) (hc : 0 ≤ l0.getD 0 ∧ l0.getD 0 ≤ h0.getD n ∧ h0.getD n ≤ n) (hy : T.view j (off + (l0.getD 0).toNat * ie.size) 0 ie.size ((h0.getD n).toNat - (l0.getD 0).toNat) = y) (hd : op.dst = some d) (hok : okD N pins S d = true) : OpH P pins N op S (app S [(d, .t y)]) := by
  subst hy
  refine .of (e := [(d, _)]) fun hN => ⟨ok_sla hM.hx hop (fun {w0 m0 o0 G a w m o} I => ?_) (hx_boxM hM hb) hlo hhi hu hie (by simpa using hle) (by simpa using hn) hc hd (okD_hx hN hok), eff_1 (okD_lo hN hok)⟩
  have h := cpO_rep hM.hx I x 0
  rw [hx] at h
  obtain ⟨g, h1, h2, _⟩ := h
  exact ⟨g, h1, h2⟩
/-! ### copy -/
theorem Inv.box_spl (I : Inv w0 m0 o0 G pins S a w m o) {b g off E : Nat} {l : List T} {cs : Array Value} {q : List D} {vs : List Value} (hb : S b = .box l) (h1 : o g = some (b, 0)) (h4 : w.heap[g]? = some (.cells cs E (0, 0))) (hlc : l.length ≤ cs.size) (h6 : ∀ (j : Nat) (x : T), l[j]? = some x → x.isAgg = false ∧ ∃ u, cs[j]? = some u ∧ RepT m w o (b, j + 1) x u)
    (hv : RepL m q vs) (hle : off + q.length ≤ l.length) : Inv w0 m0 o0 G pins (upd S b (.box (splice l off (q.map .d)))) a (w.setRow g (splice cs.toList off vs).toArray) m o := by
  have hvl := hv.1
  have hsp : (splice cs.toList off vs).length = cs.toList.length := splice_length cs.toList off vs (by simp only [Array.length_toList]; omega)
  have hss : (splice cs.toList off vs).toArray.size = cs.size := by simpa using hsp
  refine I.box_put hb h1 h4 (cs' := (splice cs.toList off vs).toArray) hss o (fun _ => False) (fun s h => h.elim) (fun g l h _ _ => h) h1 (fun g l h => ⟨l, h⟩) I.inj (fun g l l' h h' k => by rw [h] at h'; injection h' with h'; rw [h']; exact k) ?_ (fun j z hj => ?_)
  · exact splice_length l off _ (by rw [List.length_map]; omega)
  · have hcs2 : (splice cs.toList off vs).toArray[j]? = (splice cs.toList off vs)[j]? := by simp
    rw [hcs2, splice_get cs.toList off vs (by simp only [Array.length_toList]; omega)]
    rw [splice_get l off _ (by rw [List.length_map]; omega), List.length_map] at hj
    rw [hvl]
    split at hj
    · rename_i hjo
      rw [if_pos hjo]
      rw [List.getElem?_map] at hj
      cases hq : q[j - off]? with
      | none => rw [hq] at hj; cases hj
      | some dd =>
        rw [hq] at hj
        injection hj with hj
        subst hj
        obtain ⟨u, k1, k2⟩ := hv.2 _ dd hq
        exact ⟨rfl, u, k1, k2⟩
    · rename_i hjo
      rw [if_neg hjo]
      obtain ⟨k0, u, k1, k2⟩ := h6 j z hj
      exact ⟨k0, u, by simpa using k1, rep_setRow h1 h4 hss (by intro e; injection e with _ e; omega) k0 k2⟩
theorem run_copy0 {t t' e ty : Nat} {ie : TypeInfo} {A1 A2 : Option Addr} {n1 c1 n2 c2 : Nat} (hu : P.underlying t = some (.slice e)) (hie : P.info? e = some ie) (h0 : min n2 n1 = 0) :
    (Builtin.copy_ #[t, t'] ty #[.slice A1 n1 c1, .slice A2 n2 c2]).run P w = .ok (goInt 0) w := by
  have h0' : Nat.min n2 n1 = 0 := h0
  cases A1 with
  | none => cases A2 with
    | none => simp [Builtin.copy_, run_underlying hu, Builtin.lenOf, Builtin.firstCells, sizeOf, typeInfo, hie, h0', storeCells]
    | some a2 =>
      have := run_loadCells_list (P := P) w a2 [] (fun j v h => by simp at h)
      simp only [List.length_nil] at this
      simp [Builtin.copy_, run_underlying hu, Builtin.lenOf, Builtin.firstCells, sizeOf, typeInfo, hie, h0', storeCells, this]
  | some a1 => cases A2 with
    | none => simp [Builtin.copy_, run_underlying hu, Builtin.lenOf, Builtin.firstCells, sizeOf, typeInfo, hie, h0', storeCells]
    | some a2 =>
      have := run_loadCells_list (P := P) w a2 [] (fun j v h => by simp at h)
      simp only [List.length_nil] at this
      simp [Builtin.copy_, run_underlying hu, Builtin.lenOf, Builtin.firstCells, sizeOf, typeInfo, hie, h0', storeCells, this]
theorem flat1 : ∀ {rs : List (List D)}, (∀ r ∈ rs, r.length = 1) → (rs.flatMap id).length = rs.length
  | rs, h => by rw [fl_len_of h, Nat.mul_one]
theorem splice_nil {α : Type} (l : List α) (off : Nat) : splice l off [] = l := by
  unfold splice
  simp
theorem ok_cpy (hM : Mk M S) {j off E n t t' e : Nat} {x y : Operand} {ie : TypeInfo} {l : List T} {l' : List (List D)} (hop : op.op = .call { callee := .builtin .copy, args := #[x, y], argTypes := #[t, t'] }) (hu : P.underlying t = some (.slice e)) (hie : P.info? e = some ie) (hs1 : ie.size = 1) (hx : ∀ {w0 m0 o0 G a w m o}, Inv w0 m0 o0 G pins S a w m o → RepT m w o (0, 0) (.view j off E 1 n) (a.eval x)) (hb : S (OB + j) = .box l) (hy : slD 1 (dO M y) = some l') (hr1 : ∀ r ∈ l', r.length = 1) (hle : off + n ≤ l.length) (hd : op.dst = some d) (hok : okD N pins S d = true) (hdO : d < OB) :
    OpOK P pins N op S (app S [(OB + j, .box (splice l off (((l'.take n).flatMap id).map .d))), (d, .t (.d (.lit (.int .i64 ((min l'.length n : Nat) : Int)))))]) := by
  refine ok_of_run fun w0 m0 o0 G a w m o hN I => ?_
  obtain ⟨h1, h2, h3⟩ := okD_iff hok
  have hv' : RepD m (.seq 1 l') (a.eval y) := slD_rep hy fun d hd => dO_rep hM I hd
  obtain ⟨A2, c2, xs, hyv, _, _, hrows, hone, hmx⟩ := hv'.rows
  obtain ⟨A1, c1, k1, k2, hxv, k4⟩ := hx I
  have hxl : xs.length = l'.length := by have := hrows.1; omega
  have hbox2 : ∀ x, (upd S (OB + j) x d).isBox = false := fun x => by rw [upd_other (by omega)]; exact h2
  by_cases h0 : min l'.length n = 0
  · have he : (l'.take n).flatMap id = [] := by
      have : (l'.take n).length = 0 := by rw [List.length_take]; omega
      rw [List.eq_nil_of_length_eq_zero this]
      rfl
    refine ⟨goInt 0, w, m, o, ?_, ?_⟩
    · unfold execOp
      rw [hop]
      simp only [resolve, invoke, builtin, Sem.run_bind, Sem.run_pure, Result.andThen_ok, List.map_toArray, List.map_cons, List.map_nil]
      rw [hxv, hyv, run_copy0 hu hie h0]
      rfl
    · rw [hd, he, h0]
      show Inv w0 m0 o0 G pins (upd (upd S (OB + j) (.box (splice l off []))) d _) _ w m o
      rw [splice_nil]
      have e1 : upd S (OB + j) (.box l) = S := by
        funext s
        unfold upd
        split
        · rename_i e; rw [e, hb]
        · rfl
      rw [e1]
      exact I.set d _ _ (by omega) h2 (.lit _ rfl)
  · obtain ⟨g, cs, E', q1, q2, q3, q4, _⟩ := k4.resolve_left fun e => by omega
    clear k4
    subst q2
    have hs := I.slots (OB + j)
    rw [hb] at hs
    obtain ⟨g', _, p1, p2, cs', E2, p3, p4, p5⟩ := hs
    have := I.inj _ _ _ q1 p1
    subst this
    rw [q3] at p3
    injection p3 with p3
    injection p3 with p3 p6
    subst p3 p6
    have hlen : (xs.take (min l'.length n)).length = Nat.min l'.length n := by
      rw [List.length_take, hxl]
      show min (min l'.length n) l'.length = min l'.length n
      omega
    have hp2 : 0 < xs.length := by rw [hxl]; exact Nat.lt_of_lt_of_le (Nat.pos_of_ne_zero h0) (Nat.min_le_left _ _)
    have hx0 : ∃ u, xs[0]? = some u := ⟨_, List.getElem?_eq_getElem hp2⟩
    obtain ⟨u0, hu0⟩ := hx0
    obtain ⟨g2, o2, rfl, _⟩ := hmx 0 u0 hu0
    have hrun := run_copy_row P w t t' op.type e g off n c1 ⟨g2, o2, none⟩ l'.length c2 cs E' (xs.take (min l'.length n)) hu (by rw [hie, ← hs1]; rfl) q3 hlen (fun q v hq => by
      rw [List.getElem?_take] at hq
      split at hq
      · obtain ⟨g3, o3, e3, hm3⟩ := hmx q v hq
        injection e3 with e3
        injection e3 with e3 e4
        subst e3 e4
        rw [Addr.add_mid]
        exact I.sat _ _ _ hm3
      · cases hq) (by rw [hlen]; show off + min l'.length n ≤ cs.size; omega) (fun v hv => hone v (List.mem_of_mem_take hv))
    have hwt : ∀ r ∈ l'.take n, r.length = 1 := fun r hr => hr1 r (List.mem_of_mem_take hr)
    have hql : ((l'.take n).flatMap id).length = min l'.length n := by rw [flat1 hwt, List.length_take, Nat.min_comm]
    have hrep : RepL m ((l'.take n).flatMap id) (xs.take (min l'.length n)) := by
      refine ⟨by rw [hlen, hql], fun q dd hq => ?_⟩
      have hlt : q < min l'.length n := by rw [← hql]; exact (List.getElem?_eq_some_iff.1 hq).1
      obtain ⟨r, hr⟩ : ∃ r, l'[q]? = some r := ⟨_, List.getElem?_eq_getElem (by omega)⟩
      have hrt : (l'.take n)[q]? = some r := by rw [List.getElem?_take, if_pos (by omega)]; exact hr
      have h5 := fl_cell_of hwt hrt (q := 0) (by omega)
      rw [Nat.mul_one, Nat.add_zero, hq] at h5
      obtain ⟨u, z1, z2⟩ := hrows.2.2 q r 0 dd hr h5.symm
      rw [Nat.mul_one, Nat.add_zero] at z1
      exact ⟨u, by rw [List.getElem?_take, if_pos hlt]; exact z1, z2⟩
    have J := I.box_spl (off := off) hb q1 q3 p4 p5 hrep (by rw [hql]; omega)
    refine ⟨goInt (xs.take (min l'.length n)).length, w.setRow g (splice cs.toList off (xs.take (min l'.length n))).toArray, m, o, ?_, ?_⟩
    · unfold execOp
      rw [hop]
      simp only [resolve, invoke, builtin, Sem.run_bind, Sem.run_pure, Result.andThen_ok, List.map_toArray, List.map_cons, List.map_nil]
      rw [hxv, hyv, hrun]
      rfl
    · rw [hd]
      have J2 := J.set d (.t (.d (.lit (.int .i64 ((min l'.length n : Nat) : Int))))) (goInt (xs.take (min l'.length n)).length) (by omega) (hbox2 _) (by rw [hlen]; exact RepD.lit _ rfl)
      exact J2
theorem h_cpy {α : Type} {cc : α → List D} {xl yl v : List α} (hM : Mk M S) {j off E n t t' e : Nat} {x y : Operand} {ie : TypeInfo} (hop : op.op = .call { callee := .builtin .copy, args := ⟨[x, y]⟩, argTypes := ⟨[t, t']⟩ }) (hu : P.underlying t = some (.slice e)) (hie : P.info? e = some ie) (hs1 : ie.size = 1) (hx : cpO M x = .t (.view j off E 1 n)) (hb : M (OB + j) = .box (fl (dT cc) xl)) (hc : ∀ a, (cc a).length = 1) (hy : slD 1 (dO M y) = some (yl.map cc)) (hv : cpyI xl off n yl = some v) (hj : Nat.blt (j + 1) OB = true) (hd : op.dst = some d) (hok : okD N pins S d = true) :
    OpH P pins N op S (app S [(OB + j, .box (fl (dT cc) v)), (d, .t (.d (.lit (.int .i64 ((min yl.length n : Nat) : Int)))))]) := by
  obtain ⟨h1, rfl⟩ := cpyI_iff hv
  refine .lo2 hj hok fun hN hlo => ?_
  rw [← cpy_row hc]
  have := ok_cpy (j := j) (off := off) (E := E) (n := n) (l := fl (dT cc) xl) (l' := yl.map cc) hM.hx hop hu hie hs1 (fun {w0 m0 o0 G a w m o} I => by
    have h := cpO_rep hM.hx I x 0
    rw [hx] at h
    exact h) (hx_boxM hM hb) hy (fun r hr => by obtain ⟨a, _, rfl⟩ := List.mem_map.1 hr; exact hc a) (by rw [fl_len (dT_len hc)]; omega) hd (okD_hx hN hok) (okD_lo hN hok)
  rw [List.length_map] at this
  exact this
end
section
variable {P : Program} {pins : List Nat} {N : Nat} {l0 : List Oper} {Q : SL → Prop} {r : List Oper} {op : Oper} {L : SL} {acc : List (List Nat × List Nat)} {T : List Nat}
/-- (an operation that does not look at the heap) -/
theorem d_h0 (X : List Nat) {e : Eff} {ks : List Nat} {L' : SL} (hT : frcNs (X ++ touch l0.toArray (gt L) op) some = some T) (hy : dyes l0 op L T) (hks : keys e = ks) (hk : ks.all T.contains = true)
    (h : ∀ S', Mk (mask T (gt L)) S' → (∀ d, T.contains d = true → okD N pins (gt L) d = true → okD N pins S' d = true) → OpH P pins N op S' (app S' e)) (hL : setL L e = L') (k : DOK P pins N l0 Q r ((T, ks) :: acc) L') : DOK P pins N l0 Q (op :: r) acc L := by
  have hT := touch_of hT
  subst hL hks
  have h' : ∀ S', (∀ t ∈ T, S' t = gt L t) → OpH P pins N op S' (app S' e) := fun S' hS => h S' (mask_Mk hS) fun d hd hok => by
    unfold okD at hok ⊢
    rw [hS d (by simpa using hd)]
    exact hok
  refine ⟨T, e, ⟨all_T hk, ?_⟩, k⟩
  rcases hy with hg | ⟨j, want, t, c, h1, h2, h3, h4, h5⟩
  · exact .inl ⟨hg, h'⟩
  · exact .inr ⟨j, want, t, h1, h2, by simpa using h3, .inl ⟨by rw [h4, h5], h'⟩⟩
end
end Go.Proofs.Ytjomnccladjpgaa
