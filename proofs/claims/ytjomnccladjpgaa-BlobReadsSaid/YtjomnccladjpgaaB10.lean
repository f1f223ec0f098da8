/-
  Texts joined: see the remark at the head of each part.
-/
import Derived.Test.YtjomnccladjpgaaB09
import Derived.Test.YtjomnccladjpgaaB07
set_option linter.unusedVariables false
set_option linter.unusedSimpArgs false
/-
  A function that is ranged over, as models tell it; the loop that ranges over it.
-/
namespace Go.Proofs.Ytjomnccladjpgaa
open Go Go.RowKit
set_option linter.unusedVariables false

theorem bif_t {α : Type} {c : Bool} {a b : Option α} {r : α} (hc : c = true) (h : (bif c then a else b) = some r) : a = some r := by rw [hc] at h; exact h
theorem bif_f {α : Type} {c : Bool} {a b : Option α} {r : α} (hc : c = false) (h : (bif c then a else b) = some r) : b = some r := by rw [hc] at h; exact h
/-- The heap of a function that is ranged over: the loop's part, the heap. -/
abbrev hzP {X H : Type} (hA : H → Nat → A) (zf : X → Nat → A) (q : X × H) : Nat → A := hz (hA q.2) (zf q.1)
theorem pure_hzP {X H : Type} {hA : H → Nat → A} {zf : X → Nat → A} (h : ∀ w, pureH (hA w)) (hz' : ∀ x, pureH (zf x)) (q : X × H) : pureH (hzP hA zf q) := pure_hz (h _) (hz' _)
/-- A round as a yield; nothing comes once the loop has ended. -/
def lpY {α B H : Type} (rnd : α → B → H → Option (Bool × B × H)) (a : α) (q : (Bool × B) × H) : Option (Bool × ((Bool × B) × H)) :=
  bif q.1.1 then Option.bind (rnd a q.1.2 q.2) fun y => some (y.1, ((y.1, y.2.1), y.2.2)) else none
/-- Yield, as a function tells it. -/
def YLs {X H α : Type} (P : Program) (l : Nat) (hA : H → Nat → A) (zf : X → Nat → A) (ag : α → List A) (yld : α → X × H → Option (Bool × (X × H))) : Prop :=
  ∀ a q b q', yld a q = some (b, q') → YLD P l (ag a) (hzP hA zf q) (hzP hA zf q') b
/-- What is asked of a function's model that is ranged over. -/
def ITR {H α : Type} (P : Program) (fn : Nat) (caps : List (List T)) (hA : H → Nat → A) (ag : α → List A) (M : (X : Type) → (α → X × H → Option (Bool × (X × H))) → X × H → Option (X × H)) : Prop :=
  ∀ (X : Type) (l : Nat) (zf : X → Nat → A) (hz' : ∀ x, pureH (zf x)) (yld : α → X × H → Option (Bool × (X × H))) (hy : YLs P l hA zf ag yld) (q r : X × H), M X yld q = some r → ∃ y, FCH P fn (.t (.d (.lit (yv l))) :: caps.map A.imt) [] [] (hzP hA zf q) (hzP hA zf r) y

/-- What is known of slots all through a loop. -/
def stOK (bs : List Nat) (g : Nat) : SL → Prop
  | [] => True
  | (s, x) :: r => (((Nat.blt s OB && !bs.contains s && !(s == g)) = true ∧ statB x = true) ∨ ((Nat.ble OB s && Nat.blt s HK) = true ∧ x = .free)) ∧ stOK bs g r
theorem stOK.get {bs : List Nat} {g : Nat} : ∀ {L : SL}, stOK bs g L → ∀ s, gt L s = .any ∨ (s < OB ∧ s ∉ bs ∧ s ≠ g ∧ statB (gt L s) = true) ∨ (OB ≤ s ∧ s < HK ∧ gt L s = .free)
  | [], _, s => .inl rfl
  | (t, x) :: r, h, s => by
    rw [gt_cons, upd]
    by_cases e : s = t
    · subst e
      rw [if_pos rfl]
      rcases h.1 with ⟨h1, h2⟩ | ⟨h1, h2⟩
      · simp only [Bool.and_eq_true, Bool.not_eq_true', List.contains_eq_mem, decide_eq_false_iff_not, beq_eq_false_iff_ne] at h1
        exact .inr (.inl ⟨by simpa using h1.1.1, h1.1.2, h1.2, h2⟩)
      · simp only [Bool.and_eq_true] at h1
        exact .inr (.inr ⟨Nat.le_of_ble_eq_true h1.1, by simpa using h1.2, h2⟩)
    · rw [if_neg e]
      exact stOK.get h.2 s
theorem cd_nz {t i : Nat} (h : t < 63) : cd t i % 64 ≠ 63 := by rw [cd_mod (by omega)]; omega
theorem capC_nil : capC [] := fun _ h => by cases h
theorem capC_d {x : D} {l : List T} (h : capC l) : capC (.d x :: l) := fun y hy => by
  rcases List.mem_cons.1 hy with rfl | hy
  · exact .inl ⟨_, rfl⟩
  · exact h y hy
theorem capC_hpt {t i off : Nat} {l : List T} (ht : t < 63) (h : capC l) : capC (.hpt (cd t i) off :: l) := fun y hy => by
  rcases List.mem_cons.1 hy with rfl | hy
  · exact .inr ⟨_, _, rfl, cd_nz ht⟩
  · exact h y hy
theorem all_nil {α : Type} {p : α → Prop} : ∀ x ∈ ([] : List α), p x := fun _ h => by cases h
theorem all_cons {α : Type} {p : α → Prop} {a : α} {l : List α} (h : p a) (k : ∀ x ∈ l, p x) : ∀ x ∈ a :: l, p x := fun x hx => by
  rcases List.mem_cons.1 hx with rfl | hx
  · exact h
  · exact k x hx
theorem nzC_hpc {t i off : Nat} {l : List T} (ht : t < 63) (h : nzC l) : nzC (.hpt (cd t i) off :: l) := nzC_hpt (cd_nz ht) h
/-- The variables that rounds write, one by one. -/
def BxS (L : SL) : List Nat → List (List T) → Prop
  | s :: r, c :: k => gt L s = .box c ∧ BxS L r k
  | [], [] => True
  | _, _ => False
theorem BxS.get {L : SL} : ∀ {bs : List Nat} {cs : List (List T)}, BxS L bs cs → ∀ (i s : Nat), bs[i]? = some s → ∃ c, cs[i]? = some c ∧ gt L s = .box c
  | [], [], _, i, s, h => by simp at h
  | b :: bs, c :: cs, h, 0, s, e => by injection e with e; subst e; exact ⟨c, rfl, h.1⟩
  | b :: bs, c :: cs, h, i + 1, s, e => by simpa using BxS.get h.2 i s (by simpa using e)
theorem box_get : ∀ {bs : List Nat} {cs : List (List T)} {R : SL}, bs.Nodup → cs.length = bs.length → ∀ (i s : Nat), bs[i]? = some s → ∃ c, cs[i]? = some c ∧ gt (bs.zip (cs.map A.box) ++ R) s = .box c := by
  intro bs cs R hn hl i s hi
  have hlt := (List.getElem?_eq_some_iff.1 hi).1
  refine ⟨cs[i], List.getElem?_eq_getElem (by omega), ?_⟩
  rw [gt_zip _ _ _ _ (by rw [List.length_map, hl]), posN_of hn hi]
  simp [List.getD_eq_getElem?_getD, hl, hlt]

theorem s_less {P : Program} {pins : List Nat} {N : Nat} {x y : Code} {Q : Exit → SL → Prop} {L : SL} (L' : SL) (hw : WkS L L') (hr : wkOK L L' = true) (h : SeqOK P pins N x y Q L') : SeqOK P pins N x y Q L :=
  fun Fe ne hF w0 m0 o0 G a w hS => h Fe ne hF w0 m0 o0 G a w (hS.weaken hw hr)
theorem c_itr {P : Program} {pins : List Nat} {N i g fn : Nat} {bs ps : List Nat} {caps : List (List T)} {assign body rest : Code} {Q : Exit → SL → Prop} {L : SL} {α B H : Type} {b0 : B} {w0 : H} (L0 : SL) (cf : B → List (List T)) {hA : H → Nat → A} {ag : α → List A} {rnd : α → B → H → Option (Bool × B × H)} {M : (X : Type) → (α → X × H → Option (Bool × (X × H))) → X × H → Option (X × H)} {x : (Bool × B) × H}
    (hit : ITR P fn caps hA ag M) (h : M _ (lpY rnd) ((true, b0), w0) = some x) (hNC : ∀ w, NC (hA w))
    (hc : (!pins.contains DK && Nat.ble N OB && Nat.ble ps.length OB && bs.all (fun b => Nat.blt b N && !ps.contains b && !(b == g)) && ps.all (Nat.blt · N) && Nat.blt g OB) = true) (hn : bs.Nodup) (hpn : ps.Nodup)
    (hcl : ∀ b, (cf b).length = bs.length) (hcc : ∀ b, ∀ c ∈ cf b, nzC c) (hag : ∀ a, (ag a).length = ps.length ∧ (ag a).all A.plain = true) (hcaps : ∀ l ∈ caps, capC l) (hst : stOK bs g L0)
    {F : Func} (hfn : P.funcs[fn]? = some F) (hbody : F.body.isNone = false) (hname : (F.name == "runtime.NumGoroutine") = false)
    (hw : WkS L ((HK, .hp (hA w0)) :: (g, .cl fn caps) :: (bs.zip ((cf b0).map A.box) ++ L0))) (hr : noRefs ((HK, .hp (hA w0)) :: (g, .cl fn caps) :: (bs.zip ((cf b0).map A.box) ++ L0)) = true)
    (round : ∀ a b w y, rnd a b w = some y → CodeOK P bs N assign (fun e L1 => e = .normal ∧ CodeOK P bs N body (fun e L2 => ((e = .normal ∧ y.1 = true) ∨ (e = .ret ∧ y.1 = false)) ∧ gt L2 HK = .hp (hA y.2.2) ∧ BxS L2 bs (cf y.2.1)) L1) (LR ps (ag a) (hA w) bs (cf b) L0))
    (hret : x.1.1 = false → Q .ret (LA (hA x.2) bs (cf x.1.2) L0)) (hrest : x.1.1 = true → CodeOK P pins N rest (fun e L2 => e = .ret ∧ Q .ret L2) (LA (hA x.2) bs (cf x.1.2) L0)) :
    SeqOK P (DK :: pins) N (.block i (.rangeFunc (.tmp g) ps.toArray assign body)) rest Q L := by
  simp only [Bool.and_eq_true, Bool.not_eq_true', List.contains_eq_mem, decide_eq_false_iff_not, List.all_eq_true, beq_eq_false_iff_ne] at hc
  obtain ⟨⟨⟨⟨⟨k1, k2⟩, k3⟩, k4⟩, k5⟩, k6⟩ := hc
  have k2 := Nat.le_of_ble_eq_true k2
  have k3 := Nat.le_of_ble_eq_true k3
  have k6 : g < OB := by simpa using k6
  have hgK : g ≠ HK := by unfold HK; unfold OB at k6; omega
  have hbN : ∀ b ∈ bs, b < N := fun b hb => by simpa using (k4 b hb).1.1
  have hbK : HK ∉ bs := fun hb => by have := hbN _ hb; unfold HK at this; unfold OB at k2; omega
  have hpsN : ∀ p ∈ ps, p < N := fun p hp => by simpa using k5 p hp
  refine s_less _ hw hr ?_
  have hgt : ∀ s, s ≠ HK → s ≠ g → s ∉ bs → gt ((HK, .hp (hA w0)) :: (g, .cl fn caps) :: (bs.zip ((cf b0).map A.box) ++ L0)) s = gt L0 s := fun s h1 h2 h3 => by
    rw [gt_cons, upd_other h1, gt_cons, upd_other h2, gt_zip _ _ _ _ (by rw [List.length_map, hcl])]
    cases hq : posN bs s with
    | none => rfl
    | some i => exact absurd (List.mem_of_getElem? (posN_get hq)) h3
  refine c_range (f := hA w0) (f' := hA x.2) (cs := cf b0) (cs' := cf x.1.2) (b := x.1.1) (L0 := L0) k1 k2 (by rw [gt_cons, upd_same]) (hNC _) (hNC _) (hcl _) (hcl _) (hcc _) (hcc _) hn hbN (fun i s hi => ?_) (by rw [gt_cons, upd_other hgK, gt_cons, upd_same]) hcaps (fun s => ?_) hfn hbody hname ?_ hret hrest
  · obtain ⟨c, e1, e2⟩ := box_get (R := L0) hn (hcl b0) i s hi
    have hm := List.mem_of_getElem? hi
    exact ⟨c, e1, by rw [gt_cons, upd_other (fun e => hbK (by rw [← e]; exact hm)), gt_cons, upd_other (k4 s hm).2]; exact e2⟩
  · rcases hst.get s with e | ⟨e1, e2, e3, e4⟩ | ⟨e1, e2, e3⟩
    · exact .inl e
    · rw [hgt s (by unfold HK; unfold OB at e1; omega) e3 e2]
      exact .inr (.inl ⟨e1, e2, e4, rfl⟩)
    · rw [hgt s (Nat.ne_of_lt e2) (by omega) (fun hb => by have := hbN s hb; omega)]
      exact .inr (.inr ⟨e1, e2, e3, e3⟩)
  · intro l r mE oE hH hs hp hps has hbo
    refine hit (Bool × B) l (fun z => zA l (.loop (if z.1 then r else { r with state := .done, pending := some .ret })) mE oE (cf z.2)) (fun z => pure_zA (hcc _)) (lpY rnd) ?_ ((true, b0), w0) x h
    rintro a ⟨⟨al, b⟩, w⟩ b' q' hy
    unfold lpY at hy
    cases al with
    | false => cases hy
    | true =>
      have hy : Option.bind (rnd a b w) (fun y => some (y.1, ((y.1, y.2.1), y.2.2))) = some (b', q') := hy
      cases hq : rnd a b w with
      | none => rw [hq] at hy; cases hy
      | some y =>
        rw [hq] at hy
        have hy : some (y.1, ((y.1, y.2.1), y.2.2)) = some (b', q') := hy
        injection hy with hy
        injection hy with h1 h2
        subst h1 h2
        subst has hbo
        have R := round a b w y hq
        refine yld_mk (L0 := L0) k2 hn hbN hpn hpsN (fun p hp hb => (k4 p hb).1.2 hp) k3 hH hs hp hps (hag a).1 (hag a).2 (hNC _) (hNC _) (hcl _) (hcl _) (hcc _) (hcc _) ?_
        intro Fe ne hF w1 m1 o1 G1 a1 w2 hS
        refine wpIn_mono (R Fe ne hF w1 m1 o1 G1 a1 w2 hS) ?_
        rintro e a2 w3 ⟨L1, ⟨he, hB⟩, hS1⟩
        refine ⟨L1, ⟨he, ?_⟩, hS1⟩
        intro Fe ne hF w1 m1 o1 G1 a1 w2 hS
        refine wpIn_mono (hB Fe ne hF w1 m1 o1 G1 a1 w2 hS) ?_
        rintro e a2 w3 ⟨L2, ⟨he, hk, hbx⟩, hS1⟩
        exact ⟨L2, ⟨he, hk, hbx.get⟩, hS1⟩

/-- Arguments that are told as variables that never change, more of which is asked. -/
theorem FCK.im {K : Array Value → World → (Ending → World → Prop) → Prop} {args args' ins outs : List A} {f f' : Nat → A} {r : A} (hl : args'.length = args.length) (hw : ∀ (m : Mem) (w : World) (o : OwnM) (S S' : Nat → A) (i : Nat) (v : Value), RepA m w o S i (args'.getD i .any) v → RepA m w o S' i (args.getD i .any) v) (h : FCK K args ins outs f f' r) (hno : ∀ i b off, (args'.getD i .any) ≠ .ref b off) (hin : ∀ x ∈ ins, ∀ b off, x ≠ .ref b off) (hlen : ins.length ≤ OB) : FCK K args' ins outs f f' r := by
  intro w m o vals h1 h2 h3 h4 h5 h6
  refine h w m o vals h1 h2 h3 h4 (by rw [h5, hl]) fun s => ?_
  have h7 := h6 s
  have keep : ∀ x, (∀ b off, x ≠ .ref b off) → ∀ v, RepA m w o (argH args' ins f) s x v → RepA m w o (argH args ins f) s x v := fun x hx v hr => by
    cases x with
    | ref b off => exact absurd rfl (hx b off)
    | _ => exact hr
  unfold argH at h7 ⊢
  by_cases e : s < OB
  · rw [if_pos e] at h7 ⊢
    exact hw _ _ _ _ _ _ _ h7
  · rw [if_neg e] at h7 ⊢
    by_cases e2 : OB2 ≤ s
    · rw [if_pos e2] at h7 ⊢
      exact keep _ (fun b off q => by cases hq : f (s - OB2) <;> rw [hq] at q <;> cases q) _ h7
    · rw [if_neg e2] at h7 ⊢
      cases hq : ins[s - OB]? with
      | none => rw [hq] at h7; exact h7
      | some x =>
        rw [hq] at h7
        exact keep x (hin x (List.mem_of_getElem? hq)) _ h7
/-- A variable that never changes, told as data. -/
def unT : T → Option D
  | .d x => some x
  | _ => none
def unTs : List T → Option (List D)
  | [] => some []
  | x :: r => match unT x, unTs r with | some d, some k => some (d :: k) | _, _ => none
def toIm : A → A
  | .imt l => match unTs l with | some k => .imm k | none => .imt l
  | x => x
theorem unTs_get : ∀ {l : List T} {k : List D}, unTs l = some k → l = k.map .d
  | [], k, h => by injection h with h; subst h; rfl
  | x :: r, k, h => by
    unfold unTs at h
    split at h
    · rename_i d q h1 h2
      injection h with h
      subst h
      rw [unTs_get h2]
      cases x <;> cases h1
      rfl
    · cases h
theorem toIm_rep {m : Mem} {w : World} {o : OwnM} {S S' : Nat → A} {i : Nat} {x : A} {v : Value} (hx : ∀ b off, x ≠ .ref b off) (h : RepA m w o S i x v) : RepA m w o S' i (toIm x) v := by
  cases x with
  | ref b off => exact absurd rfl (hx b off)
  | imt l =>
    show RepA m w o S' i (match unTs l with | some k => .imm k | none => .imt l) v
    cases hq : unTs l with
    | none => exact h
    | some k =>
      rw [unTs_get hq] at h
      obtain ⟨g, e, h1⟩ := h
      refine ⟨g, 0, e, fun j d hj => ?_⟩
      obtain ⟨u, a, b⟩ := h1 j (.d d) (by simp [hj])
      exact ⟨u, by rw [Nat.zero_add]; exact a, b⟩
  | _ => exact h
theorem FCH.im {P : Program} {fn : FuncId} {args args' : List A} {f f' : Nat → A} {r : A} (ha : args'.map toIm = args) (hno : args'.all (fun x => match x with | .ref _ _ => false | _ => true) = true) (h : FCH P fn args [] [] f f' r) : FCH P fn args' [] [] f f' r := by
  subst ha
  have hno' : ∀ i b off, args'.getD i .any ≠ .ref b off := fun i b off e => by
    rw [List.getD_eq_getElem?_getD] at e
    cases hq : args'[i]? with
    | none => rw [hq] at e; cases e
    | some x =>
      rw [hq] at e
      have e : x = .ref b off := e
      subst e
      have := List.all_eq_true.1 hno _ (List.mem_of_getElem? hq)
      cases this
  refine FCK.im (by simp) (fun m w o S S' i v hr => ?_) h hno' (fun _ h => by cases h) (Nat.zero_le _)
  have e : (args'.map toIm).getD i .any = toIm (args'.getD i .any) := by
    rw [List.getD_eq_getElem?_getD, List.getD_eq_getElem?_getD, List.getElem?_map]
    cases args'[i]? <;> rfl
  rw [e]
  exact toIm_rep (hno' i) hr
end Go.Proofs.Ytjomnccladjpgaa

/-
  The model of slices.Clone over sectors.
-/
namespace Go.Proofs.Ytjomnccladjpgaa
open Go Go.RowKit
set_option linter.unusedVariables false
end Go.Proofs.Ytjomnccladjpgaa

/-
  append onto a slice of an object: the object grows, or its cells move to a new block.
-/
namespace Go.Proofs.Ytjomnccladjpgaa
open Go Go.RowKit
set_option linter.unusedVariables false

section
variable {P : Program}
theorem run_app4 (w : World) {t e sz nb : Nat} (E : ElemOf P t e sz nb) (ty : TypeId) (A' : Option Addr) (n c : Nat) (xs : List Value) (hx : xs.length = n * sz) (hnc : n ≤ c) (hcm : c ≤ maxLen)
    (hA : c = 0 ∨ ∃ (g : Nat) (cur : Array Value), A' = some ⟨g, 0, none⟩ ∧ w.heap[g]? = some (.cells cur e (0, 0)) ∧ c * sz ≤ cur.size ∧ cur.toList.take (n * sz) = xs)
    (B' : Option Addr) (k c' : Nat) (news : List Value) (hk : 0 < k) (hl : news.length = k * sz) (hnews : Row w B' news) (h1 : ∀ u ∈ news, u.oneCell' = true) (hb : (n + k) * nb ≤ 140737488355328) :
    ∃ (A2 : Option Addr) (c2 : Nat) (w' : World), (Builtin.append_ #[t, t] ty #[.slice A' n c, .slice B' k c']).run P w = .ok (.slice A2 (n + k) c2) w' ∧ n + k ≤ c2 ∧ c2 ≤ maxLen ∧ ∃ cur' : Array Value, c2 * sz ≤ cur'.size ∧ cur'.toList.take ((n + k) * sz) = xs ++ news ∧
      ((∃ (g : Nat) (cur : Array Value), A' = some ⟨g, 0, none⟩ ∧ A2 = A' ∧ c ≠ 0 ∧ w.heap[g]? = some (.cells cur e (0, 0)) ∧ w' = w.setRow g cur' ∧ cur'.size = cur.size) ∨
       (A2 = some ⟨w.heap.size, 0, none⟩ ∧ w' = w.drew.alloc (.cells cur' e))) := by
  obtain ⟨i, z, hi, hz, rfl, rfl, hzs⟩ := E.info
  have h63 : n + k ≤ maxLen := by
    have := Nat.le_mul_of_pos_right (n + k) E.posb
    unfold maxLen; omega
  have hsmall : n + k ≤ 9223372036854775807 := by simp only [maxLen] at h63; omega
  have hpos : 0 < news.length := by rw [hl]; exact Nat.mul_pos hk E.pos
  cases B' with
  | none =>
    cases news with
    | nil => simp at hpos
    | cons u r =>
      obtain ⟨ad, h, _⟩ := hnews 0 u rfl
      cases h
  | some ad =>
    have hcells : ∀ j u, news[j]? = some u → w.cell? (ad.add j) = some u := by
      intro j u hu
      obtain ⟨ad', h, hc⟩ := hnews j u hu
      injection h with h
      subst h
      exact hc
    have hlen : (xs ++ news).length = (n + k) * i.size := by rw [List.length_append, hx, hl, Nat.add_mul]
    have grown : ∀ (old : Nat), old < n + k → (Builtin.append_ #[t, t] ty #[.slice A' n c, .slice (some ad) k c']).run P w = .ok (.slice (some ⟨w.heap.size, 0, none⟩) (n + k) (grownCap w (n + k) old e)) (w.drew.alloc (.cells (xs.toArray ++ news.toArray ++ Builtin.zeroCells z.cells (grownCap w (n + k) old e - (n + k))) e)) →
      ∃ (A2 : Option Addr) (c2 : Nat) (w' : World), (Builtin.append_ #[t, t] ty #[.slice A' n c, .slice (some ad) k c']).run P w = .ok (.slice A2 (n + k) c2) w' ∧ n + k ≤ c2 ∧ c2 ≤ maxLen ∧ ∃ cur' : Array Value, c2 * i.size ≤ cur'.size ∧ cur'.toList.take ((n + k) * i.size) = xs ++ news ∧
      ((∃ (g : Nat) (cur : Array Value), A' = some ⟨g, 0, none⟩ ∧ A2 = A' ∧ c ≠ 0 ∧ w.heap[g]? = some (.cells cur e (0, 0)) ∧ w' = w.setRow g cur' ∧ cur'.size = cur.size) ∨
       (A2 = some ⟨w.heap.size, 0, none⟩ ∧ w' = w.drew.alloc (.cells cur' e))) := by
      intro old ho hr
      have hge := grownCap_ge w (n + k) old e
      have hcm : grownCap w (n + k) old e ≤ maxLen := grownCap_le_maxLen w (n + k) old e h63
      refine ⟨_, _, _, hr, hge, hcm, _, ?_, ?_, .inr ⟨rfl, rfl⟩⟩
      · simp only [Array.size_append, List.size_toArray, size_zeroCells, hzs, hx, hl, ← Nat.add_mul]
        exact Nat.mul_le_mul_right _ (by omega)
      · simp only [Array.toList_append, List.append_assoc]
        rw [← List.append_assoc, ← hlen]
        exact List.take_left
    rcases hA with h0 | ⟨g, cur, rfl, hg, hcs, htake⟩
    · have hn0 : n = 0 := by omega
      subst hn0 h0
      have hx0 : xs = [] := List.eq_nil_of_length_eq_zero (by simpa using hx)
      subst hx0
      refine grown 0 (by omega) ?_
      cases A' with
      | none =>
        have hr := run_append_nil (P := P) w t ty e i z E.under hi hz ad k c' news hl hcells (by omega) (by omega) (by have hb := hb; simp only [Nat.zero_add] at hb; omega)
        simp only [Nat.zero_add, List.nil_append, Array.empty_append] at hr ⊢
        exact hr
      | some b =>
        exact run_append_grow (P := P) w t ty e i z E.under hi hz b 0 0 [] (by simp) (fun j u h => by cases h) ad k c' news hl hcells (by omega) (by omega) (growslice_fits (by omega) hb)
    · by_cases hroom : n + k ≤ c
      · have hfit : n * i.size + news.length ≤ cur.size := by
          rw [hl, ← Nat.add_mul]; exact Nat.le_trans (Nat.mul_le_mul_right _ hroom) hcs
        have hr := run_append_room (P := P) w t ty e i E.under hi g n c cur hg ad k c' news hl hcells h1 hroom hfit
        have hsz : (cur.toList.take (n * i.size) ++ news ++ cur.toList.drop (n * i.size + news.length)).toArray.size = cur.size := by
          simp only [List.size_toArray, List.length_append, List.length_take, List.length_drop, Array.length_toList]
          omega
        refine ⟨_, _, _, hr, hroom, hcm, _, ?_, ?_, .inl ⟨g, cur, rfl, rfl, by omega, hg, rfl, hsz⟩⟩
        · rw [hsz]; exact hcs
        · rw [htake, ← hlen]
          exact List.take_left
      · have holds : ∀ j u, xs[j]? = some u → w.cell? ((⟨g, 0, none⟩ : Addr).add j) = some u := by
          intro j u hu
          have hlt : j < n * i.size := by rw [← hx]; exact (List.getElem?_eq_some_iff.1 hu).1
          rw [Addr.add_mid, Nat.zero_add, cell_of_row w g j cur e _ hg]
          rw [← htake, List.getElem?_take, if_pos hlt] at hu
          simpa using hu
        exact grown c (by omega) (run_append_grow (P := P) w t ty e i z E.under hi hz ⟨g, 0, none⟩ n c xs hx holds ad k c' news hl hcells (by omega) (by omega) (growslice_fits (by omega) hb))
end
section
variable {w0 : World} {m0 : Mem} {o0 : OwnM} {G : GD} {pins : List Nat} {S M : Nat → A} {a : Act} {w : World} {m : Mem} {o : OwnM} {P : Program} {N : Nat}
/-- A block that nobody owns becomes object j; its cells may have turned. -/
theorem Inv.adopt (I : Inv w0 m0 o0 G pins S a w m o) {j g : Nat} {l : List T} {cs cs' : Array Value} {E : Nat} (hfree : S (OB + j) = .free) (hg : w.heap[g]? = some (.cells cs E (0, 0))) (hsz : cs'.size = cs.size) (ho : o g = none) (hG : G g ∨ w0.heap.size ≤ g) (hm : ∀ p, m g p = none) (hlen : l.length ≤ cs'.size)
    (hc : ∀ (i : Nat) (x : T), l[i]? = some x → ∃ d, x = .d d ∧ ∃ u, cs'[i]? = some u ∧ RepD m d u) :
    Inv w0 m0 o0 G pins (upd S (OB + j) (.box l)) a (w.setRow g cs') m (newO o (OB + j) g) := by
  have hf : ∀ g k, o g ≠ some (OB + j, k) := by have := I.slots (OB + j); rw [hfree] at this; exact this
  have hother : ∀ k, k ≠ g → (w.setRow g cs').heap[k]? = w.heap[k]? := fun k hk => setRow_other w g k cs' hk
  have hS : Same (fun x => G x ∨ w0.heap.size ≤ x) w (w.setRow g cs') := ⟨rfl, rfl, rfl, by simp, fun k _ hk => hother k fun e => hk (by rw [e]; exact hG), fun q => (shp_setRow hg hsz q).w⟩
  have hglt : g < w.heap.size := (Array.getElem?_eq_some_iff.1 hg).1
  have hne : ∀ b l, o b = some l → b ≠ g := fun b l h e => by rw [e, ho] at h; cases h
  have hk : ∀ b l, o b = some l → newO o (OB + j) g b = some l := by
    intro b l h
    unfold newO
    rw [if_neg (hne b l h), h, if_neg]
    intro e
    obtain ⟨s, k⟩ := l
    injection e with e
    subst e
    exact hf b k h
  have hk' : ∀ b l, newO o (OB + j) g b = some l → (b = g ∧ l = (OB + j, 0)) ∨ (b ≠ g ∧ o b = some l) := by
    intro b l h
    unfold newO at h
    split at h
    · rename_i e; injection h with h; exact .inl ⟨e, h.symm⟩
    · split at h
      · cases h
      · rename_i e _; exact .inr ⟨e, h⟩
  have hsh : ∀ g', ShpAt w (w.setRow g cs') g' := shp_setRow hg hsz
  have K : Keep (fun l => l.1 = OB + j) m w o m (w.setRow g cs') (newO o (OB + j) g) :=
    ⟨Mle.refl _, fun _ _ _ _ => rfl, fun b l h _ => hother b (hne b l h), fun b l h _ => hk b l h, fun b j' h => hk b _ h, fun b s k hs h => by
      rcases hk' b _ h with ⟨_, e⟩ | ⟨_, e⟩
      · injection e with e _; exact absurd e hs
      · exact ⟨b, k, e⟩, fun g _ _ => hsh g⟩
  refine ⟨I.same.trans hS, fun b p u h => ?_, I.mono, I.old, fun g' l h => ?_, fun g' l h => ?_, fun g1 g2 l h h' => ?_, fun s hs g hg => hk g _ (I.pinned s hs g hg), fun s => ?_, I.defers, I.tbl, I.wide, I.shps.keep I.pinned K.sh⟩
  · have h1 := I.sat b p u h
    have hb : b ≠ g := fun e => by rw [e, hm] at h; cases h
    rw [World.cell?_of_block (w := w) (hother b hb)]
    exact h1
  · rcases hk' g' l h with ⟨e, _⟩ | ⟨_, e⟩
    · subst e; exact hG
    · exact I.own g' l e
  · rcases hk' g' l h with ⟨e, _⟩ | ⟨_, e⟩
    · subst e; exact Nat.lt_of_lt_of_le hglt hS.size
    · exact Nat.lt_of_lt_of_le (I.lt g' l e) hS.size
  · rcases hk' g1 l h with ⟨e, q⟩ | ⟨_, e⟩ <;> rcases hk' g2 l h' with ⟨e', q'⟩ | ⟨_, e'⟩
    · rw [e, e']
    · subst q; exact absurd e' (hf _ _)
    · subst q'; exact absurd e (hf _ _)
    · exact I.inj _ _ _ e e'
  · by_cases e : s = OB + j
    · subst e
      rw [upd_same]
      refine ⟨g, fun h => absurd h (by omega), newO_same _ _ _, hm, cs', E, setRow_heap w g cs cs' E _ hg, hlen, fun i x hi => ?_⟩
      obtain ⟨d, rfl, u, h2, h3⟩ := hc i x hi
      exact ⟨rfl, u, h2, h3⟩
    · rw [upd_other e]
      exact RepA.keep K (fun _ => e) (fun b off _ hb => ⟨fun e' => by have : b = OB + j := e'; omega, fun ⟨l', hl'⟩ => ⟨l', by rw [upd_other (by omega), hl']⟩⟩) (I.slots s)
/-- append onto a slice whose cells nobody owns: what comes out is object j. -/
theorem app_obj (I : Inv w0 m0 o0 G pins S a w m o) {t e sz nb : Nat} (E : ElemOf P t e sz nb) (ty : TypeId) {j d : Nat} (hd : d < a.tmps.size) (hdO : d < OB) (hbox : (S d).isBox = false) (hfree : S (OB + j) = .free)
    {A' : Option Addr} {c : Nat} {l : List (List D)} {xs : List Value} (hnc : l.length ≤ c) (hcm : c ≤ maxLen) (hrows : RowsR m sz l xs)
    (hA : c = 0 ∨ ∃ (g : Nat) (cur : Array Value), A' = some ⟨g, 0, none⟩ ∧ w.heap[g]? = some (.cells cur e (0, 0)) ∧ c * sz ≤ cur.size ∧ cur.toList.take (l.length * sz) = xs ∧ o g = none ∧ (G g ∨ w0.heap.size ≤ g) ∧ ∀ p, m g p = none)
    {l' : List (List D)} {v' : Value} (hv' : RepD m (.seq sz l') v') (hpos : 0 < l'.length) (hb : (l.length + l'.length) * nb ≤ 140737488355328) :
    ∃ v w' o', (Builtin.append_ #[t, t] ty #[.slice A' l.length c, v']).run P w = .ok v w' ∧ Inv w0 m0 o0 G pins (upd (upd S (OB + j) (.box (((l ++ l').flatMap id).map .d))) d (.t (.view j 0 e sz (l ++ l').length))) (a.put (some d) v) w' m o' := by
  obtain ⟨B', c', news, rfl, _, _, hr', h1, hm'⟩ := hv'.rows
  have hnews : Row w B' news := by
    intro j u hu
    obtain ⟨g, p, e, hmm⟩ := hm' j u hu
    exact ⟨_, e, by rw [Addr.add_mid]; exact I.sat _ _ _ hmm⟩
  obtain ⟨A2, c2, w', hrun, q1, q2, cur', q3, q4, hcase⟩ := run_app4 (P := P) w E ty A' l.length c xs hrows.1 hnc hcm (hA.imp id fun ⟨g, cur, z1, z2, z3, z4, _⟩ => ⟨g, cur, z1, z2, z3, z4⟩) B' l'.length c' news hpos hr'.1 hnews h1 hb
  have hrr := hrows.append hr'
  have hwid : ∀ r ∈ l ++ l', r.length = sz := fun r hr => by
    obtain ⟨i, hi⟩ := List.getElem?_of_mem hr
    exact hrr.2.1 i r hi
  have hlen : (((l ++ l').flatMap id).map T.d).length = (l.length + l'.length) * sz := by rw [List.length_map, fl_len_of hwid, List.length_append]
  have hlen2 : (((l ++ l').flatMap id).map T.d).length ≤ cur'.size := by
    rw [hlen]
    exact Nat.le_trans (Nat.mul_le_mul_right _ q1) q3
  have hcell : ∀ (i : Nat) (x : T), (((l ++ l').flatMap id).map T.d)[i]? = some x → ∃ d, x = .d d ∧ ∃ u, cur'[i]? = some u ∧ RepD m d u := by
    intro i x hi
    have hlt : i < (l.length + l'.length) * sz := by rw [← hlen]; exact (List.getElem?_eq_some_iff.1 hi).1
    have hp : 0 < sz := E.pos
    have hi1 : i / sz < (l ++ l').length := by rw [List.length_append]; exact Nat.div_lt_of_lt_mul (by rw [Nat.mul_comm]; exact hlt)
    have hi2 : i % sz < sz := Nat.mod_lt _ hp
    have he : i / sz * sz + i % sz = i := by rw [Nat.mul_comm]; exact Nat.div_add_mod i sz
    obtain ⟨r, hr⟩ : ∃ r, (l ++ l')[i / sz]? = some r := ⟨_, List.getElem?_eq_getElem hi1⟩
    have hrl : r.length = sz := hwid r (List.mem_of_getElem? hr)
    obtain ⟨dd, hdd⟩ : ∃ dd, r[i % sz]? = some dd := ⟨_, List.getElem?_eq_getElem (by rw [hrl]; exact hi2)⟩
    have h2 := fl_cell_of hwid hr hi2
    rw [he, hdd] at h2
    rw [List.getElem?_map, h2] at hi
    injection hi with hi
    subst hi
    obtain ⟨u, k1, k2⟩ := hrr.2.2 _ r _ dd hr hdd
    rw [he, ← q4, List.getElem?_take, if_pos hlt] at k1
    exact ⟨dd, rfl, u, by simpa using k1, k2⟩
  have hll : (l ++ l').length = l.length + l'.length := List.length_append
  rcases hcase with ⟨g, cur, rfl, rfl, hc0, hg, rfl, hsz⟩ | ⟨rfl, rfl⟩
  · obtain ⟨g', cur2, z1, z2, z3, z4, z5, z6, z7⟩ := hA.resolve_left hc0
    injection z1 with z1
    injection z1 with z1
    subst z1
    have J := I.adopt (j := j) hfree hg hsz z5 z6 z7 hlen2 hcell
    refine ⟨_, _, _, hrun, J.set d _ _ hd (by rw [upd_other (by omega)]; exact hbox) ?_⟩
    rw [hll]
    exact ⟨_, c2, q1, q2, rfl, .inr ⟨g, cur', e, newO_same _ _ _, rfl, setRow_heap w g cur cur' e _ hg, by rw [Nat.zero_add]; exact q3, .inr rfl⟩⟩
  · have J := I.drew.obj_new (j := j) (E := e) hfree hlen2 (fun i x hi => by
      obtain ⟨dd, rfl, u, k1, k2⟩ := hcell i x hi
      exact ⟨rfl, u, k1, k2⟩)
    refine ⟨_, _, _, hrun, J.set d _ _ hd (by rw [upd_other (by omega)]; exact hbox) ?_⟩
    rw [hll]
    exact ⟨_, c2, q1, q2, rfl, .inr ⟨w.heap.size, cur', e, newO_same _ _ _, rfl, heap_alloc_new w.drew _, by rw [Nat.zero_add]; exact q3, .inr rfl⟩⟩
theorem upd_twice (S : Nat → A) (b : Nat) (x y : A) : upd (upd S b x) b y = upd S b y := by
  funext t
  unfold upd
  split <;> rfl
theorem noPt_d (l : List D) : noPt (l.map T.d) = true := by
  unfold noPt
  rw [List.all_map]
  exact List.all_eq_true.2 fun _ _ => rfl
/-- append onto a slice of object j. S1: as S, but only the object itself tells of j. -/
theorem ok_apg (hM : Mk M S) {op : Oper} {d j E k nb t : Nat} {x y : Operand} {l l' : List (List D)} {S1 : Nat → A} (hop : op.op = .call { callee := .builtin .append, args := #[x, y], argTypes := #[t, t] }) (hd : op.dst = some d) (hok : okD N pins S d = true) (hdO : d < OB) (hE : elF P t = some (E, k, nb))
    (hj : j < OB) (hp : OB + j ∉ pins) (hx : cpO M x = .t (.view j 0 E k l.length)) (hb : S (OB + j) = .box ((l.flatMap id).map .d)) (hrk : ∀ r ∈ l, r.length = k) (hl' : slD k (dO M y) = some l') (hpos : 0 < l'.length) (hbd : (l.length + l'.length) * nb ≤ 140737488355328) (hE0 : Nat.blt 0 E = true)
    (hS1 : ∀ s, S1 s = S s ∨ (S1 s = .any ∧ (S s).isBox = false)) (hm : ∀ s, s ≠ OB + j → mentA j (S1 s) = false) :
    OpOK P pins N op S (upd (upd S1 (OB + j) (.box (((l ++ l').flatMap id).map .d))) d (.t (.view j 0 E k (l ++ l').length))) := by
  refine ok_of_run fun w0 m0 o0 G a w m o hN I => ?_
  obtain ⟨h1, h2, h3⟩ := okD_iff hok
  have hv' : RepD m (.seq k l') (a.eval y) := slD_rep hl' fun d hd => dO_rep hM I hd
  have hxr := cpO_rep hM I x 0
  rw [hx] at hxr
  obtain ⟨A', c, q2, q3, q5, q4⟩ := hxr
  have hbs := I.slots (OB + j)
  rw [hb] at hbs
  obtain ⟨g, _, b1, b2, cs, E', b3, b4, b5⟩ := hbs
  have Ek := elF_of hE
  have hlen : ((l.flatMap id).map T.d).length = l.length * k := by rw [List.length_map, fl_len_of hrk]
  rw [hlen] at b4
  have hrows : RowsR m k l (cs.toList.take (l.length * k)) := by
    refine ⟨by have e := Array.length_toList (xs := cs); rw [List.length_take]; omega, fun i r hi => hrk r (List.mem_of_getElem? hi), fun i r q e hi hq => ?_⟩
    have hrl := hrk r (List.mem_of_getElem? hi)
    have hqk : q < k := by rw [← hrl]; exact (List.getElem?_eq_some_iff.1 hq).1
    have hc : ((l.flatMap id).map T.d)[i * k + q]? = some (.d e) := by rw [List.getElem?_map, fl_cell_of hrk hi hqk, hq]; rfl
    have hlt : i * k + q < l.length * k := by rw [← hlen]; exact (List.getElem?_eq_some_iff.1 hc).1
    obtain ⟨_, u, k1, k2⟩ := b5 _ _ hc
    exact ⟨u, by rw [List.getElem?_take, if_pos hlt]; simpa using k1, k2⟩
  have hbb : S1 (OB + j) = .box ((l.flatMap id).map .d) := by
    rcases hS1 (OB + j) with e | ⟨_, e⟩
    · rw [e, hb]
    · rw [hb] at e; cases e
  have J0 := (I.less hS1).forget hj hp fun s => by
    by_cases e : s = OB + j
    · subst e
      rw [hbb]
      exact ob_box (noPt_d _) j
    · exact hm s e
  have hdb : (upd S1 (OB + j) .free d).isBox = false := by
    rw [upd_other (by omega)]
    rcases hS1 d with e | ⟨e, _⟩
    · rw [e]; exact h2
    · rw [e]; rfl
  obtain ⟨v, w', o', hr, J⟩ := app_obj J0 Ek op.type (d := d) (j := j) (by omega) hdO hdb (upd_same _ _ _) q2 q3 hrows (q4.imp id fun ⟨g', cs', E1, z1, z2, z3, z4, z5⟩ => by
    have := I.inj _ _ _ b1 z1
    subst this
    have hE1 : 0 < E := by simpa using hE0
    have hE2 : E1 = E := z5.resolve_left (by omega)
    rw [hE2] at z3
    refine ⟨g, cs', z2, z3, by omega, ?_, ?_, I.own g _ b1, b2⟩
    · rw [b3] at z3
      injection z3 with z3
      injection z3 with z3
      rw [z3]
    · cases hdr : dropO o j g with
      | none => rfl
      | some l0 =>
        obtain ⟨y1, y2⟩ := dropO_iff.1 hdr
        rw [b1] at y1
        injection y1 with y1
        exact absurd (by rw [← y1]) y2) hv' hpos hbd
  rw [upd_twice] at J
  refine ⟨v, w', m, o', ?_, by rw [hd]; exact J⟩
  unfold execOp
  rw [hop]
  simp only [resolve, invoke, builtin, Sem.run_bind, Sem.run_pure, Result.andThen_ok, List.map_toArray, List.map_cons, List.map_nil]
  rw [q5, hr]
  rfl
/-- append onto an empty slice whose object is not there. -/
theorem ok_apg1 (hM : Mk M S) {op : Oper} {d j E k nb t : Nat} {x y : Operand} {l' : List (List D)} {S1 : Nat → A} (hop : op.op = .call { callee := .builtin .append, args := #[x, y], argTypes := #[t, t] }) (hd : op.dst = some d) (hok : okD N pins S d = true) (hdO : d < OB) (hE : elF P t = some (E, k, nb))
    (hx : cpO M x = .t (.view j 0 E k 0)) (hb : S (OB + j) = .free) (hl' : slD k (dO M y) = some l') (hpos : 0 < l'.length) (hbd : l'.length * nb ≤ 140737488355328)
    (hS1 : ∀ s, S1 s = S s ∨ (S1 s = .any ∧ (S s).isBox = false)) (hb1 : S1 (OB + j) = .free) :
    OpOK P pins N op S (upd (upd S1 (OB + j) (.box ((l'.flatMap id).map .d))) d (.t (.view j 0 E k l'.length))) := by
  refine ok_of_run fun w0 m0 o0 G a w m o hN I => ?_
  obtain ⟨h1, h2, h3⟩ := okD_iff hok
  have hv' : RepD m (.seq k l') (a.eval y) := slD_rep hl' fun d hd => dO_rep hM I hd
  have hxr := cpO_rep hM I x 0
  rw [hx] at hxr
  obtain ⟨A', c, q2, q3, q5, q4⟩ := hxr
  have hf : ∀ g k, o g ≠ some (OB + j, k) := by have := I.slots (OB + j); rw [hb] at this; exact this
  have hc0 : c = 0 := q4.resolve_right fun ⟨g, cs, _, z, _⟩ => hf g 0 z
  have hdb : (S1 d).isBox = false := by
    rcases hS1 d with e | ⟨e, _⟩
    · rw [e]; exact h2
    · rw [e]; rfl
  obtain ⟨v, w', o', hr, J⟩ := app_obj (l := []) (xs := []) (c := c) (A' := A') (I.less hS1) (elF_of hE) op.type (d := d) (j := j) (by omega) hdO hdb hb1 q2 q3 ⟨by simp, fun i r h => by simp at h, fun i r j d h => by simp at h⟩ (.inl hc0) hv' hpos (by simpa using hbd)
  refine ⟨v, w', m, o', ?_, by rw [hd]; exact J⟩
  unfold execOp
  rw [hop]
  simp only [resolve, invoke, builtin, Sem.run_bind, Sem.run_pure, Result.andThen_ok, List.map_toArray, List.map_cons, List.map_nil]
  simp only [List.length_nil] at hr
  rw [q5, hr]
  rfl
end
end Go.Proofs.Ytjomnccladjpgaa

/-
  Slices that grow and are written: an object that need not be there while the slice is empty.
-/
namespace Go.Proofs.Ytjomnccladjpgaa
open Go Go.RowKit
set_option linter.unusedVariables false

/-- What is told of the object: nothing is there while the slice is empty. -/
def gbA {α : Type} (c : α → List D) : List α → A
  | [] => .free
  | a :: l => .box (fl (dT c) (a :: l))
theorem gb_ne {α : Type} {c : α → List D} {y : List α} (h : y ≠ []) : gbA c y = .box (fl (dT c) y) := by
  cases y with
  | nil => exact absurd rfl h
  | cons a l => rfl
theorem ob_gb {α : Type} (c : α → List D) (y : List α) (j : Nat) : mentA j (gbA c y) = false := by
  cases y with
  | nil => rfl
  | cons a l => exact ob_box (fl_noPt c _) j
/-! ### Elements of more than one cell -/
theorem fl_put2 {α : Type} {c : α → List D} {l : List α} {z : Int} {y : α} {k q : Nat} (h : idx l z = some y) (v : α) (hc : ∀ a, (c a).length = k) {x : List T} (hx : splice (dT c y) q x = dT c v) (hq : Nat.ble (q + x.length) k = true) : splice (fl (dT c) l) (0 + z.toNat * k + q) x = fl (dT c) (l.set z.toNat v) := by
  have := fl_splice (c := dT c) (k := k) (dT_len hc) (idx_lt h).2.2 (q := q) (b := v) (d := x) hx (by simpa using hq)
  rw [Nat.zero_add]
  exact this
theorem fl_room2 {α : Type} {c : α → List D} {l : List α} {z : Int} {y : α} {k q n : Nat} (h : idx l z = some y) (hc : ∀ a, (c a).length = k) (hq : Nat.ble (q + n) k = true) : 0 + z.toNat * k + q + n ≤ (fl (dT c) l).length := by
  have h1 := idx_lt h
  rw [fl_len (dT_len hc)]
  have h2 : z.toNat + 1 ≤ l.length := by omega
  have h3 := Nat.mul_le_mul_right k h2
  rw [Nat.succ_mul] at h3
  have h4 : q + n ≤ k := by simpa using hq
  omega
theorem nr_nil {L0 : SL} : noRefsIn L0 [] = true := rfl
theorem nr_cons {L0 : SL} {s : Nat} {x : A} {r : SL} (h : (match x with | .ref b _ => (gt L0 b).isBox | _ => true) = true) (hr : noRefsIn L0 r = true) : noRefsIn L0 ((s, x) :: r) = true := by
  unfold noRefsIn
  rw [Bool.and_eq_true]
  exact ⟨h, hr⟩
theorem nr_gb {α : Type} (L0 : SL) (c : α → List D) (y : List α) : (match gbA c y with | .ref b _ => (gt L0 b).isBox | _ => true) = true := by cases y <;> rfl
theorem nr_of {L : SL} (h : noRefsIn L L = true) : noRefs L = true := h
/-- Only these places may tell of object j. -/
def NoM (j : Nat) (ex : List Nat) (L : SL) : Prop := ∀ s, ex.contains s = false → mentA j (gt L s) = false
theorem NoM.nil {j : Nat} {ex : List Nat} : NoM j ex [] := fun _ _ => rfl
theorem NoM.cons {j : Nat} {ex : List Nat} {s : Nat} {x : A} {L : SL} (h : mentA j x = false) (hr : NoM j (s :: ex) L) : NoM j ex ((s, x) :: L) := fun t ht => by
  rw [gt_cons]
  unfold upd
  by_cases e : t = s
  · rw [if_pos e]; exact h
  · rw [if_neg e]
    exact hr t (by rw [List.contains_cons, ht, Bool.or_false]; exact beq_eq_false_iff_ne.2 e)
theorem NoM.skip {j : Nat} {ex : List Nat} {s : Nat} {x : A} {L : SL} (h : ex.contains s = true) (hr : NoM j ex L) : NoM j ex ((s, x) :: L) := fun t ht => by
  rw [gt_cons]
  unfold upd
  by_cases e : t = s
  · rw [e, h] at ht; cases ht
  · rw [if_neg e]; exact hr t ht
theorem ptT_ment (j t : Nat) (p : Option Nat) : mentA j (.t (ptT t p)) = false := by cases p <;> rfl
def anyE (ss : List Nat) : Eff := ss.map fun s => (s, A.any)
theorem app_any (S : Nat → A) : ∀ (ss : List Nat) (t : Nat), app S (anyE ss) t = if ss.contains t then A.any else S t := by
  intro ss
  induction ss generalizing S with
  | nil => intro t; rfl
  | cons s r ih =>
    intro t
    show app (upd S s .any) (anyE r) t = _
    rw [ih]
    by_cases h : r.contains t = true
    · rw [if_pos h, if_pos (by rw [List.contains_cons, h, Bool.or_true])]
    · rw [if_neg h]
      unfold upd
      by_cases e : t = s
      · rw [if_pos e, if_pos (by rw [List.contains_cons, e]; simp)]
      · rw [if_neg e, if_neg (by
          rw [List.contains_cons]
          intro hh
          cases h1 : (t == s) with
          | true => exact e (by simpa using h1)
          | false => rw [h1, Bool.false_or] at hh; exact h hh)]

section
variable {w0 : World} {m0 : Mem} {o0 : OwnM} {G : GD} {pins : List Nat} {S M : Nat → A} {P : Program} {N : Nat} {Q : Exit → SL → Prop} {L : SL} {op : Oper} {d : Nat}
/-- nil, told as a slice of an object that is not there. -/
theorem h_nilv {x : Operand} {j E k : Nat} (hop : op.op = .move x ∨ op.op = .assign x) (hx : x = .const (.slice none 0 0)) (hd : op.dst = some d) (hok : okD N pins S d = true) : OpH P pins N op S (app S [(d, .t (.view j 0 E k 0))]) := by
  subst hx
  refine .of (e := [(d, _)]) fun hN => ⟨?_, eff_1 (okD_lo hN hok)⟩
  refine ok_of_run fun w0 m0 o0 G a w m o hN' I => ?_
  obtain ⟨h1, h2, h3⟩ := okD_iff (okD_hx hN hok)
  refine ⟨.slice none 0 0, w, m, o, ?_, ?_⟩
  · unfold execOp
    rcases hop with e | e <;> (rw [e]; rfl)
  · rw [hd]
    exact I.set d _ _ (by omega) h2 ⟨none, 0, Nat.le_refl _, Nat.zero_le _, rfl, .inl rfl⟩
theorem fl_rows {α : Type} (c : α → List D) (l : List α) : fl (dT c) l = ((l.map c).flatMap id).map T.d := fl_flat c l
/-- append. -/
theorem h_apg {α : Type} {c : α → List D} (hM : Mk M S) {j E k nb t : Nat} {x y : Operand} {l l' : List α} {e : Eff} (ss : List Nat) (hop : op.op = .call { callee := .builtin .append, args := ⟨[x, y]⟩, argTypes := ⟨[t, t]⟩ }) (hE : elF P t = some (E, k, nb)) (hxv : cpO M x = .t (.view j 0 E k l.length)) (hb : M (OB + j) = gbA c l) (hc : ∀ a, (c a).length = k)
    (hy : slD k (dO M y) = some (l'.map c)) (hpos : 0 < l'.length) (hbd : (l.length + l'.length) * nb ≤ 140737488355328) (hd : op.dst = some d) (hok : okD N pins S d = true) (hj : (Nat.blt 0 E && Nat.blt (j + 1) OB && !pins.contains (OB + j) && ss.all (fun s => Nat.blt s OB && !(S s).isBox)) = true)
    (hm : ∀ s, ((OB + j) :: ss).contains s = false → mentA j (S s) = false) (hh : S HK = .any ∨ ∃ f, S HK = .hp f ∧ pureH f) (he : anyE ss ++ [(OB + j, gbA c (l ++ l')), (d, .t (.view j 0 E k (l ++ l').length))] = e) : OpH P pins N op S (app S e) := by
  subst he
  intro hN hlo
  simp only [Bool.and_eq_true, Bool.not_eq_true', List.contains_eq_mem, decide_eq_false_iff_not] at hj
  obtain ⟨⟨⟨c1, c2⟩, c3⟩, c4⟩ := hj
  obtain ⟨e1, e2, e3⟩ := lo_of c2
  have hdO := okD_lo hN hok
  have hss : ∀ s, ss.contains s = true → s < OB ∧ (S s).isBox = false := fun s hs => by
    have := List.all_eq_true.1 c4 s (by simpa using hs)
    simp only [Bool.and_eq_true, Bool.not_eq_true'] at this
    exact ⟨by simpa using this.1, this.2⟩
  have hne : l ++ l' ≠ [] := fun h => by
    have := (List.append_eq_nil_iff.1 h).2
    rw [this] at hpos
    simp at hpos
  have hlow : Low (app S (anyE ss)) := fun t ht => by
    rw [app_any]
    split
    · rfl
    · exact hlo t ht
  have hS' : app S (anyE ss ++ [(OB + j, gbA c (l ++ l')), (d, .t (.view j 0 E k (l ++ l').length))]) = upd (upd (app S (anyE ss)) (OB + j) (gbA c (l ++ l'))) d (.t (.view j 0 E k (l ++ l').length)) := by
    unfold app
    rw [List.foldl_append]
    rfl
  rw [hS']
  refine ⟨?_, (hlow.upd e1).upd (lt2 hdO)⟩
  rw [hx_updL (lt2 hdO) (by unfold HK; unfold OB at hdO; omega), hx_updL e1 e2]
  have hk1 : app S (anyE ss) HK = S HK := by
    rw [app_any, if_neg]
    intro h
    have := (hss HK h).1
    unfold HK OB at this
    omega
  have hx1 : ∀ s, hx (app S (anyE ss)) s = hx S s ∨ (hx (app S (anyE ss)) s = .any ∧ (hx S s).isBox = false) := fun s => by
    rcases Nat.lt_or_ge s OB2 with h2 | h2
    · rw [hx_lo h2, hx_lo h2, app_any]
      split
      · rename_i h; exact .inr ⟨rfl, (hss s h).2⟩
      · exact .inl rfl
    · refine .inl ?_
      unfold hx
      rw [hlow s h2, hlo s h2]
      simp only
      rw [hk1]
  have hm1 : ∀ s, s ≠ OB + j → mentA j (hx (app S (anyE ss)) s) = false := fun s hs => by
    rcases Nat.lt_or_ge s OB2 with h2 | h2
    · rw [hx_lo h2, app_any]
      split
      · rfl
      · rename_i h
        refine hm s ?_
        rw [List.contains_cons]
        simp only [Bool.or_eq_false_iff]
        exact ⟨beq_eq_false_iff_ne.2 hs, by simpa using h⟩
    · obtain ⟨k, rfl⟩ : ∃ k, s = OB2 + k := ⟨s - OB2, by omega⟩
      exact heap_ment hlow (by rw [hk1]; exact hh) k
  rw [gb_ne hne, fl_rows, List.map_append]
  have hlen : (l ++ l').length = (l.map c ++ l'.map c).length := by simp
  rw [hlen]
  have hSb : S (OB + j) = gbA c l := by
    rcases hM (OB + j) with h | h
    · rw [h] at hb
      cases l with
      | nil => cases hb
      | cons a r => cases hb
    · rw [← h, hb]
  cases l with
  | nil =>
    refine ok_apg1 hM.hx hop hd (okD_hx hN hok) hdO hE hxv (hx_of hSb (by intro h; cases h)) hy (by simpa using hpos) (by simpa using hbd) hx1 ?_
    rcases hx1 (OB + j) with h | ⟨h, _⟩
    · rw [h, hx_of hSb (by intro h; cases h)]
      rfl
    · rw [hx_lo e1, app_any] at h
      split at h
      · rename_i h2
        have := (hss _ h2).1
        omega
      · rw [hSb] at h; cases h
  | cons a r =>
    refine ok_apg (l := (a :: r).map c) hM.hx hop hd (okD_hx hN hok) hdO hE e3 c3 (by rw [List.length_map]; exact hxv) (hx_of (by rw [hSb, gb_ne (by simp), fl_rows]) (by simp)) (fun q hq => by obtain ⟨b, _, rfl⟩ := List.mem_map.1 hq; exact hc b) hy (by simpa using hpos) (by simpa using hbd) c1 hx1 hm1
theorem NoM.get {j : Nat} {ex : List Nat} (h : NoM j ex L) : ∀ s, ex.contains s = false → mentA j (gt L s) = false := h
theorem h_apgI {α : Type} {c : α → List D} (hM : Mk M S) {j E k nb t : Nat} {x y : Operand} {l l' z : List α} {e : Eff} (ss : List Nat) (hz : appI nb l l' = some z) (hop : op.op = .call { callee := .builtin .append, args := ⟨[x, y]⟩, argTypes := ⟨[t, t]⟩ }) (hE : elF P t = some (E, k, nb)) (hx : cpO M x = .t (.view j 0 E k l.length)) (hb : M (OB + j) = gbA c l) (hc : ∀ a, (c a).length = k)
    (hy : slD k (dO M y) = some (l'.map c)) (hpos : 0 < l'.length) (hd : op.dst = some d) (hok : okD N pins S d = true) (hj : (Nat.blt 0 E && Nat.blt (j + 1) OB && !pins.contains (OB + j) && ss.all (fun s => Nat.blt s OB && !(S s).isBox)) = true)
    (hm : ∀ s, ((OB + j) :: ss).contains s = false → mentA j (S s) = false) (hh : S HK = .any ∨ ∃ f, S HK = .hp f ∧ pureH f) (he : anyE ss ++ [(OB + j, gbA c z), (d, .t (.view j 0 E k z.length))] = e) : OpH P pins N op S (app S e) := by
  obtain ⟨h1, rfl⟩ := appI_iff hz
  exact h_apg hM ss hop hE hx hb hc hy hpos h1 hd hok hj hm hh he
/-- A slice that grew becomes data. -/
theorem c_frzG {α : Type} {cc : α → List D} {c : Code} {L' : SL} {y : List α} (d j : Nat) {E k : Nat} (hd : gt L d = .t (.view j 0 E k y.length)) (hb : gt L (OB + j) = gbA cc y) (hck : ∀ a, (cc a).length = k)
    (hc : (Nat.blt d OB && Nat.blt (j + 1) OB && !pins.contains (OB + j) && !pins.contains d && Nat.blt 0 k && noBoxM j d L) = true) (hh : heapP L) (hL : (d, .t (.d (.seq k (y.map cc)))) :: (OB + j, .free) :: dropM j d L = L') (h : CodeOK P pins N c Q L') : CodeOK P pins N c Q L := by
  cases y with
  | cons b r => exact c_frz d j (l := fl (dT cc) (b :: r)) (rs := (b :: r).map cc) hd hb (by simp) (fl_flat _ _) (map_row hck _) hc hh hL h
  | nil =>
    subst hL
    simp only [Bool.and_eq_true, Bool.not_eq_true', List.contains_eq_mem, decide_eq_false_iff_not] at hc
    obtain ⟨⟨⟨⟨⟨c1, c2⟩, c3⟩, c4⟩, c5⟩, c6⟩ := hc
    have c1 : d < OB := by simpa using c1
    have c2 : j + 1 < OB := by simpa using c2
    intro Fe ne hF w0 m0 o0 G a w hS
    obtain ⟨hN, hlo, m, o, I⟩ := hS
    have hL2 : ∀ s, gt (dropM j d L) s = gt L s ∨ (gt (dropM j d L) s = .any ∧ (gt L s).isBox = false) := fun s => by
      rw [gt_dropM]
      cases hm : (Nat.blt s OB && (mentA j (gt L s) && !Nat.beq s d)) with
      | true => exact .inr ⟨rfl, noBoxM_gt c6 s hm⟩
      | false => exact .inl rfl
    have hk2 : gt (dropM j d L) HK = gt L HK := gt_dropM_hi L (by unfold HK OB; omega)
    obtain ⟨hlo2, hx2⟩ := hx_less hlo hk2 hL2
    have I2 := I.less hx2
    have e1 : OB + j < OB2 := by unfold OB OB2 at *; omega
    have e2 : OB + j ≠ HK := by unfold HK; unfold OB at *; omega
    have hdd : hx (gt (dropM j d L)) d = .t (.view j 0 E k 0) := by
      rw [hx_lo (lt2 c1), gt_dropM, hd]
      simp
    have hbb : hx (gt (dropM j d L)) (OB + j) = .free := by
      rw [hx_lo e1, gt_dropM_hi L (Nat.le_add_right _ _), hb]
      rfl
    have hdv := I2.slots d
    rw [hdd] at hdv
    obtain ⟨A', c0, q2, q3, q5, q4⟩ := hdv
    have hf : ∀ g k, o g ≠ some (OB + j, k) := by have := I2.slots (OB + j); rw [hbb] at this; exact this
    have hc0 : c0 = 0 := q4.resolve_right fun ⟨g, cs, _, z, _⟩ => hf g 0 z
    refine h Fe ne hF w0 m0 o0 G a w ⟨hN, ?_, m, o, ?_⟩
    · rw [gt_cons, gt_cons]
      exact (hlo2.upd e1).upd (lt2 c1)
    · rw [gt_cons, gt_cons, hx_updL (lt2 c1) (by unfold HK; unfold OB at c1; omega), hx_updL e1 e2]
      have he : upd (hx (gt (dropM j d L))) (OB + j) .free = hx (gt (dropM j d L)) := by
        funext t
        unfold upd
        split
        · rename_i e; rw [e, hbb]
        · rfl
      rw [he]
      refine ⟨I2.same, I2.sat, I2.mono, I2.old, I2.own, I2.lt, I2.inj, I2.pinned, fun s => ?_, I2.defers, I2.tbl, I2.wide, I2.shps⟩
      by_cases e : s = d
      · subst e
        rw [upd_same, q5]
        exact RepD.seq k [] A' c0 0 0 (fun _ _ => undef) (Nat.zero_le _) q3 (fun h => absurd rfl h) (fun i r h => by simp at h) (fun i r j d h => by simp at h) (fun i r j d h => by simp at h)
      · rw [upd_other e]
        refine (I2.slots s).turn fun b l hb => ⟨l, ?_⟩
        rw [upd_other (fun e3 => by rw [e3, hdd] at hb; cases hb), hb]
end
end Go.Proofs.Ytjomnccladjpgaa

/-
  A call's own slice, told as a slice of a local object; the greater of two numbers.
-/
namespace Go.Proofs.Ytjomnccladjpgaa
open Go Go.RowKit
set_option linter.unusedVariables false

end Go.Proofs.Ytjomnccladjpgaa
