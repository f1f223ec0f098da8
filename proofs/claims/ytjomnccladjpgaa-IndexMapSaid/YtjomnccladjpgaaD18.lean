/-
  Texts joined: see the remark at the head of each part.
-/
import Derived.Test.YtjomnccladjpgaaD17
import Derived.Test.YtjomnccladjpgaaD11
import Derived.Test.YtjomnccladjpgaaD16
import Derived.Test.YtjomnccladjpgaaD10
set_option linter.unusedVariables false
set_option linter.unusedSimpArgs false
/-
 A range over a function, told by lists.
-/
namespace Go.Proofs.Ytjomnccladjpgaa
open Go Go.RowKit
set_option linter.unusedVariables false
section
variable {w0 : World} {m0 : Mem} {o0 : OwnM} {G : GD} {pins : List Nat} {S : Nat → A} {a : Act} {w : World} {m : Mem} {o : OwnM}
theorem Inv.grow (I : Inv w0 m0 o0 G pins S a w m o) (x : Obj) : Inv w0 m0 o0 G pins S a (w.alloc x) m o := by
 have hh : ∀ g, g < w.heap.size → (w.alloc x).heap[g]? = w.heap[g]? := fun g hg => (Same.alloc (fun _ => False) w x).block g hg id
 have K : Keep (fun _ => False) m w o m (w.alloc x) o := ⟨.refl _, fun _ _ _ _ => rfl, fun g k h _ => hh g (I.lt g k h), fun _ _ h _ => h, fun _ _ h => h, fun g _ k _ h => ⟨g, k, h⟩, fun g j h => .of_eq (hh g (I.lt g _ h))⟩
 refine ⟨I.same.trans ((Same.alloc (fun _ => False) w x).weaken fun _ h => h.elim), fun b p v h => ?_, I.mono, I.old, I.own, fun g k h => ?_, I.inj, I.pinned, fun s => RepA.keep K (fun _ => id) (fun _ _ _ _ => ⟨id, id⟩) (I.slots s), I.defers, I.tbl, I.wide, I.shps.keep I.pinned K.sh⟩
 ·
  have h1 := I.sat b p v h
  have hlt : b < w.heap.size := by have := World.block_lt_of_cell? w _ h1; simpa using this
  rw [World.cell?_of_block (w := w) (hh b hlt)]
  exact h1
 ·
  have := I.lt g k h
  have h2 := (Same.alloc (fun _ => False) w x).size
  omega
end
def statB : A → Bool
 | .any | .imm _ | .t (.d _) | .t (.agg _) => true
 | .t (.hpt c _) => !(c % 64 == 63)
 | _ => false
section
variable {w0 : World} {m0 : Mem} {o0 : OwnM} {G : GD} {pins : List Nat} {S : Nat → A} {a : Act} {w : World} {m : Mem} {o : OwnM}
theorem Inv.dk (I : Inv w0 m0 o0 G pins S a w m o) : Inv w0 m0 o0 G (DK :: pins) S a w m o :=
 ⟨I.same, I.sat, I.mono, I.old, I.own, I.lt, I.inj, fun s hs g h => I.pinned s (by
  rcases hs with hs | hs
  ·
   rcases List.mem_cons.1 hs with hs | hs
   · exact .inr (by rw [hs]; decide)
   · exact .inl hs
  · exact .inr hs) g h, I.slots, I.defers, I.tbl, I.wide, fun g j h => ⟨(I.shps g j h).1.imp (List.mem_cons_of_mem _) id, (I.shps g j h).2⟩⟩
end
def SeqOK (P : Program) (pins : List Nat) (N : Nat) (x y : Code) (Q : Exit → SL → Prop) (L : SL) : Prop :=
 ∀ (Fe : Fence) (ne : Nat), WideP pins Fe → ∀ (w0 : World) (m0 : Mem) (o0 : OwnM) (G : GD) (a : Act) (w : World), St w0 m0 o0 G pins N L a w → x.wpIn Fe ne P (Exit.then (y.wpIn Fe ne P (fun e a' w' => ∃ L', Q e L' ∧ StX e w0 m0 o0 G pins N L' a' w')) (fun e a' w' => ∃ L', Q e L' ∧ StX e w0 m0 o0 G pins N L' a' w')) a w
theorem SeqOK.ok {P : Program} {pins : List Nat} {N : Nat} {x y : Code} {Q : Exit → SL → Prop} {L : SL} (h : SeqOK P pins N x y Q L) : qI P pins N (.seq x y) Q L :=
 fun Fe ne hw w0 m0 o0 G a w hS => wpIn_seq (h Fe ne hw w0 m0 o0 G a w hS)
end Go.Proofs.Ytjomnccladjpgaa

/-
 A function whose body ranges over a function: it leaves with a mark.
-/
namespace Go.Proofs.Ytjomnccladjpgaa
open Go Go.RowKit
set_option linter.unusedVariables false
end Go.Proofs.Ytjomnccladjpgaa

/-
 Caught variables that hold addresses of the heap's objects: frozen, read, caught.
-/
namespace Go.Proofs.Ytjomnccladjpgaa
open Go Go.RowKit
set_option linter.unusedVariables false
end Go.Proofs.Ytjomnccladjpgaa

/-
 Heaps with a loop's objects: what rules ask of them.
-/
namespace Go.Proofs.Ytjomnccladjpgaa
open Go Go.RowKit
set_option linter.unusedVariables false
theorem pure_hz {f z : Nat → A} (hf : zDa f) (hz' : zDa z) : zDa (hz f z) := fun c l h x hx => by
 unfold hz at h
 split at h
 · exact hz' _ _ h x hx
 · exact hf _ _ h x hx
theorem NC_hpF {g : Nat → Nat → A} (h63 : ∀ i, g 63 i = .free) (hb : ∀ t i l, g t i = .box l → nzC l) (hr : ∀ t i b u mE oE, g t i ≠ .rcd b u mE oE) : NC (hpF g) where
 z c hc := by
  have : hpF g c = .free := by unfold hpF; rw [hc]; exact h63 _
  rw [this]; rfl
 b c l h x hx := by
  have h2 : hpF g c = .box l := by cases hq : hpF g c <;> rw [hq] at h <;> first | exact h | cases h
  exact (hb _ _ l h2 x hx).1
 r c b u mE oE h := by
  have h2 : hpF g c = .rcd b u mE oE := by cases hq : hpF g c <;> rw [hq] at h <;> first | exact h | cases h
  exact hr _ _ _ _ _ _ h2
 c c l h := by
  have h2 : hpF g c = .box l := by cases hq : hpF g c <;> rw [hq] at h <;> first | exact h | cases h
  exact hb _ _ l h2
theorem zGN {α : Type} {l : List α} {f : Nat → α → List T} {i : Nat} {q : List T} (h : ∀ i x, nzC (f i x)) (e : arA l f i = .box q) : nzC q := by
 unfold arA at e
 split at e
 · injection e with e; subst e; exact h _ _
 · cases e
theorem zGK {α : Type} {l : List α} {f : Nat → α → List T} {i b : Nat} {u : Obj} {mE : Mem} {oE : OwnM} : arA l f i ≠ .rcd b u mE oE := by
 unfold arA
 split <;> simp
theorem FCH.more {P : Program} {fn : FuncId} {args : List A} {f f' : Nat → A} {r : A} (hf : FCH P fn args [] [] f f' r) (h0 : NZ f) (h0' : NZ f') (ha : args.all nzA = true) (hle : args.length ≤ OB) (z : Nat → A) : FCH P fn args [] [] (hz f z) (hz f' z) r :=
 FCK.frame (K := Calls P fn) (fun _ _ _ _ h k => Calls.mono h k) hf h0 h0' ha hle z
end Go.Proofs.Ytjomnccladjpgaa

/-
 What a function leaves behind in the heap that nobody can know is told no more.
-/
namespace Go.Proofs.Ytjomnccladjpgaa
open Go Go.RowKit
set_option linter.unusedVariables false
theorem FCK.less {K : Array Value → World → (Ending → World → Prop) → Prop} (hKm : ∀ (v : Array Value) (w : World) (R R' : Ending → World → Prop), K v w R → (∀ e w', R e w' → R' e w') → K v w R')
  {args : List A} {f f' z : Nat → A} {r : A} (hf : FCK K args [] [] f (hz f' z) r) (h0 : NZ f) (h0' : NZ f') (hr : nzA r = true) : FCK K args [] [] f f' r := by
 intro w m o vals hsat htbl hlt hinj hsz hrep
 refine hKm _ _ _ _ (hf w m o vals hsat htbl hlt hinj hsz hrep) ?_
 rintro e w' ⟨u, m', o', S', a', ρ, he, J, hru, _, hhp, hρ⟩
 have hpz : ∀ s g, isZ s → o g ≠ some (s, 0) := by
  intro s g hs h
  obtain ⟨c, rfl⟩ : ∃ c, s = OB + (OB + c) := ⟨s - OB2, by rw [← zAZ]; have := hs.1; omega⟩
  have hc := zF4.1 hs
  have h1 := hrep (OB + (OB + c))
  have e3 : argH args [] f (OB + (OB + c)) = san (f c) := by
   unfold argH
   rw [if_neg (by omega), ← zAZ, if_pos (Nat.le_add_right _ _), Nat.add_sub_cancel_left]
  rw [e3, h0.z c hc] at h1
  exact h1 g 0 h
 let S2 : Nat → A := fun t => if OB2 ≤ t then san (f' (t - OB2)) else .any
 have hS2 : ∀ c, S2 (OB + (OB + c)) = san (f' c) := fun c => by
  show (if OB2 ≤ OB + (OB + c) then san (f' (OB + (OB + c) - OB2)) else .any) = _
  rw [← zAZ, if_pos (Nat.le_add_right _ _), Nat.add_sub_cancel_left]
 refine ⟨u, m', dzO o', S2, a', ρ, he, ⟨J.same, J.sat, J.mono, J.old, fun g l h => J.own g l (zAf.1 h).2, fun g l h => J.lt g l (zAf.1 h).2, fun g g' l h h' => J.inj g g' l (zAf.1 h).2 (zAf.1 h').2, fun s hs g hg => zAf.2 ⟨fun hz => hpz s g hz hg, J.pinned s hs g hg⟩, fun t => ?_, J.defers, J.tbl, J.wide, J.shps⟩, nzA_rep (zHA (by unfold OB OB2 at *; omega)) hr hru, fun i x h => by simp at h, hS2, hρ⟩
 by_cases ht : OB2 ≤ t
 ·
  obtain ⟨c, rfl⟩ : ∃ c, t = OB + (OB + c) := ⟨t - OB2, by rw [← zAZ]; omega⟩
  rw [hS2]
  have hs := J.slots (OB + (OB + c))
  rw [hhp] at hs
  by_cases hc : c % 64 = 63
  ·
   rw [h0'.z c hc]
   intro g k h
   exact (zAf.1 h).1 (zF4.2 hc)
  ·
   have hnz : ¬ isZ (OB + (OB + c)) := fun e => hc (zF4.1 e)
   have e1 : hz f' z c = f' c := by unfold hz; rw [if_neg hc]
   rw [e1] at hs
   rcases zDY (f' c) with ⟨l, hl⟩ | hl | hl | ⟨l, hl⟩ | ⟨b, u, mE, oE, hl⟩
   ·
    have hb := h0'.b c l hl
    rw [hl] at hs ⊢
    obtain ⟨g, e, k1, k2, cs, E, k3, k4, k5⟩ := hs
    refine ⟨g, e, zAf.2 ⟨hnz, k1⟩, k2, cs, E, k3, k4, fun j x hj => ?_⟩
    obtain ⟨q1, u, q2, q3⟩ := k5 j x hj
    exact ⟨q1, u, q2, zFF hnz (hb x (List.mem_of_getElem? hj)) q3⟩
   ·
    rw [hl] at hs ⊢
    exact fun g k h => hs g k (zAf.1 h).2
   · rw [hl]; trivial
   ·
    rw [hl] at hs ⊢
    obtain ⟨g, k1, k2⟩ := hs
    exact ⟨g, zAf.2 ⟨hnz, k1⟩, k2⟩
   · exact absurd hl (h0'.r c _ _ _ _)
 ·
  have e2 : S2 t = .any := if_neg ht
  rw [e2]
  trivial
theorem FCH.less {P : Program} {fn : FuncId} {args : List A} {f f' z : Nat → A} {r : A} (hf : FCH P fn args [] [] f (hz f' z) r) (h0 : NZ f) (h0' : NZ f') (hr : nzA r = true) : FCH P fn args [] [] f f' r :=
 FCK.less (K := Calls P fn) (fun _ _ _ _ h k => Calls.mono h k) hf h0 h0' hr
end Go.Proofs.Ytjomnccladjpgaa

/-
 A function that is ranged over, as models tell it; the loop that ranges over it.
-/
namespace Go.Proofs.Ytjomnccladjpgaa
open Go Go.RowKit
set_option linter.unusedVariables false
def stOK (bs : List Nat) (g : Nat) : SL → Prop
 | [] => True
 | (s, x) :: r => (((Nat.blt s OB && !bs.contains s && !(s == g)) = true ∧ statB x = true) ∨ ((Nat.ble OB s && Nat.blt s HK) = true ∧ x = .free)) ∧ stOK bs g r
theorem stOK.get {bs : List Nat} {g : Nat} : ∀ {L : SL}, stOK bs g L → ∀ s, gt L s = .any ∨ (s < OB ∧ s ∉ bs ∧ s ≠ g ∧ statB (gt L s) = true) ∨ (OB ≤ s ∧ s < HK ∧ gt L s = .free)
 | [], _, s => .inl rfl
 | (t, x) :: r, h, s => by
  rw [qH, upd]
  by_cases e : s = t
  ·
   subst e
   rw [if_pos rfl]
   rcases h.1 with ⟨h1, h2⟩ | ⟨h1, h2⟩
   ·
    simp only [Bool.and_eq_true, Bool.not_eq_true', List.contains_eq_mem, decide_eq_false_iff_not, beq_eq_false_iff_ne] at h1
    exact .inr (.inl ⟨by simpa using h1.1.1, h1.1.2, h1.2, h2⟩)
   ·
    simp only [Bool.and_eq_true] at h1
    exact .inr (.inr ⟨Nat.le_of_ble_eq_true h1.1, by simpa using h1.2, h2⟩)
  ·
   rw [if_neg e]
   exact stOK.get h.2 s
theorem all_nil {α : Type} {p : α → Prop} : ∀ x ∈ ([] : List α), p x := fun _ h => by cases h
theorem all_cons {α : Type} {p : α → Prop} {a : α} {l : List α} (h : p a) (k : ∀ x ∈ l, p x) : ∀ x ∈ a :: l, p x := fun x hx => by
 rcases List.mem_cons.1 hx with rfl | hx
 · exact h
 · exact k x hx
def BxS (L : SL) : List Nat → List (List T) → Prop
 | s :: r, c :: k => gt L s = .box c ∧ BxS L r k
 | [], [] => True
 | _, _ => False
theorem BxS.get {L : SL} : ∀ {bs : List Nat} {cs : List (List T)}, BxS L bs cs → ∀ (i s : Nat), bs[i]? = some s → ∃ c, cs[i]? = some c ∧ gt L s = .box c
 | [], [], _, i, s, h => by simp at h
 | b :: bs, c :: cs, h, 0, s, e => by injection e with e; subst e; exact ⟨c, rfl, h.1⟩
 | b :: bs, c :: cs, h, i + 1, s, e => by simpa using BxS.get h.2 i s (by simpa using e)
end Go.Proofs.Ytjomnccladjpgaa

/-
 The heap holds nothing of kind 63.
-/
namespace Go.Proofs.Ytjomnccladjpgaa
open Go Go.RowKit
set_option linter.unusedVariables false
theorem nz_d {x : D} : nzT (.d x) = true ∧ ∀ i, T.d x = .mpt i → OB ≤ i := ⟨rfl, fun _ e => nomatch e⟩
theorem nz_own {E k : Nat} {l : List (List D)} : nzT (.own E k l) = true ∧ ∀ i, T.own E k l = .mpt i → OB ≤ i := ⟨rfl, fun _ e => nomatch e⟩
theorem nz_pt {t : Nat} (ht : t < 63) (p : Option Nat) : nzT (ptT t p) = true ∧ ∀ i, ptT t p = .mpt i → OB ≤ i := by
 cases p with
 | none => exact nz_d
 | some j =>
  refine ⟨?_, fun _ e => nomatch e⟩
  show (!(cd t j % 64 == 63)) = true
  rw [zGw (by omega)]
  simp
  omega
theorem nz_hvw {t : Nat} (ht : t < 63) {j off E k n : Nat} : nzT (.hvw (cd t j) off E k n) = true ∧ ∀ i, T.hvw (cd t j) off E k n = .mpt i → OB ≤ i := by
 refine ⟨?_, fun _ e => nomatch e⟩
 show (!(cd t j % 64 == 63)) = true
 rw [zGw (by omega)]
 simp
 omega
theorem nz_mpt {t : Nat} (ht : t < 63) {j : Nat} : nzT (.mpt (OB + cd t j)) = true ∧ ∀ i, T.mpt (OB + cd t j) = .mpt i → OB ≤ i := by
 refine ⟨?_, fun i e => by injection e with e; omega⟩
 show (!(Nat.ble OB (OB + cd t j) && (OB + cd t j - OB) % 64 == 63)) = true
 rw [Nat.add_sub_cancel_left, zGw (by omega)]
 have : (t == 63) = false := by simp; omega
 rw [this, Bool.and_false]
 rfl
theorem nz_fl {α : Type} (c : α → List D) : ∀ (l : List α), nzC (fl (dT c) l) := by
 intro l x hx
 unfold fl at hx
 obtain ⟨a, _, ha⟩ := List.mem_flatMap.1 hx
 unfold dT at ha
 obtain ⟨d, _, rfl⟩ := List.mem_map.1 ha
 exact nz_d
theorem arM_nbox {kv : Int → Value} {cv : List UInt8 → D} {ms : List (List (Int × List UInt8))} {i : Nat} {l : List T} (h : arM kv cv ms i = .box l) : False := by
 unfold arM at h
 split at h <;> cases h
theorem arM_nrcd {kv : Int → Value} {cv : List UInt8 → D} {ms : List (List (Int × List UInt8))} {i b : Nat} {u : Obj} {mE : Mem} {oE : Nat → Option (Nat × Nat)} (h : arM kv cv ms i = .rcd b u mE oE) : False := by
 unfold arM at h
 split at h <;> cases h
theorem zEr (H : Hp) : NC (hpA H) := by
 refine NC_hpF (fun i => rfl) (fun t i l h => ?_) (fun t i b u mE oE h => ?_)
 ·
  match t, h with
  | 0, h => exact nomatch h
  | 1, h => exact zGN (f := zHP) (fun i x y hy => by
    simp only [zHP, List.mem_cons, List.not_mem_nil, or_false] at hy
    rcases hy with rfl | rfl | rfl | rfl | rfl | rfl <;> first | exact nz_d | exact nz_own | exact nz_hvw (by decide)) h
  | 2, h => exact zGN (f := zHG) (fun i x => nz_fl _ _) h
  | 3, h => exact zGN (f := zIQ) (fun i x y hy => by
    simp only [zIQ, List.mem_cons, List.not_mem_nil, or_false] at hy
    rcases hy with rfl | rfl | rfl | rfl | rfl | rfl | rfl <;> first | exact nz_d | exact nz_pt (by decide) _) h
  | 4, h => exact nomatch h
  | 5, h => exact zGN (f := zIk) (fun i x y hy => by
    simp only [zIk, List.mem_cons, List.not_mem_nil, or_false] at hy
    rcases hy with rfl | rfl | rfl | rfl <;> first | exact nz_d | exact nz_pt (by decide) _ | exact nz_mpt (by decide)) h
  | 6, h => exact (arM_nbox h).elim
  | 7, h => exact zGN (f := zIf) (fun i x y hy => by
    simp only [zIf, List.mem_cons, List.not_mem_nil, or_false] at hy
    rcases hy with rfl | rfl <;> first | exact nz_d | exact nz_pt (by decide) _) h
  | k + 8, h => exact nomatch h
 ·
  match t, h with
  | 0, h => exact nomatch h
  | 1, h => exact zGK h
  | 2, h => exact zGK h
  | 3, h => exact zGK h
  | 4, h => exact nomatch h
  | 5, h => exact zGK h
  | 6, h => exact arM_nrcd h
  | 7, h => exact zGK h
  | k + 8, h => exact nomatch h
end Go.Proofs.Ytjomnccladjpgaa

/-
 Walks of each with All's closure, and of All.
-/
namespace Go.Proofs.Ytjomnccladjpgaa
open Go Go.RowKit
set_option linter.unusedVariables false
set_option maxRecDepth 20000
set_option linter.unusedSimpArgs false
def zb (l : List T) : Nat → A := fun i => if i = 0 then .box l else .free
abbrev zq (y : List zA) : Nat → A := zb [.xs 78 4 (y.map zI) none]
abbrev hq (w0 : Hp) (y : List zA) : Nat → A := hz (hpA w0) (zq y)
abbrev zv (y : List zA) (v : Value) : Nat → A := zb [.xs 78 4 (y.map zI) (some v)]
theorem zGe (f : Nat → A) (l l' : List T) : hz f (zb l') = updF (hz f (zb l)) 63 (.box l') := by
 funext c
 unfold hz updF zb
 by_cases h : c = 63
 ·
  subst h
  simp
 ·
  by_cases h2 : c % 64 = 63
  ·
   have : c / 64 ≠ 0 := by omega
   simp [h, h2, this]
  · simp [h, h2]
theorem hz_new (f : Nat → A) (l : List T) : hz f (zb l) = updF (hz f (fun _ => .free)) 63 (.box l) := by
 funext c
 unfold hz updF zb
 by_cases h : c = 63
 ·
  subst h
  simp
 ·
  by_cases h2 : c % 64 = 63
  ·
   have : c / 64 ≠ 0 := by omega
   simp [h, h2, this]
  · simp [h, h2]
theorem pure_zb {l : List T} (h : l.all (fun x => !x.isLoc) = true) : zDa (zb l) := by
 intro c k hc x hx
 unfold zb at hc
 split at hc
 ·
  injection hc with hc
  subst hc
  simpa using List.all_eq_true.1 h x hx
 · cases hc
theorem pure_hb (w0 : Hp) {l : List T} (h : l.all (fun x => !x.isLoc) = true) : zDa (hz (hpA w0) (zb l)) := pure_hz (zD _) (pure_zb h)
theorem zCo (w0 : Hp) (y : List zA) : zDa (hq w0 y) := pure_hb w0 rfl
theorem zJW (t : Nat) (h : t < 63) (p : Option Nat) : nzT (ptT t p) = true := by
 cases p with
 | none => rfl
 | some i => simp [nzT, ptT, zGw (show t < 64 by omega)]; omega
theorem fch_all1 (w0 : Hp) (home : Int) (n : zQ) (y y' : List zA) (h : app1 y n.Entry = some y') : FCH Try.prog 102 ([.i home, .t (.agg [.s n.Entry.Key, .i n.Entry.Version, .i n.Entry.Len, .i n.Entry.First, .i n.next_])] ++ ckA [.live 63]) [] [] (hq w0 y) (hq w0 y') (.t (.d (.lit (.bool false)))) := by
 unfold app1 at h
 rcases zF h with ⟨h1, h⟩ | ⟨_, h⟩
 · obtain rfl := Option.some.inj h
   refine qY (rs := [.tmp 5]) (n := 11) [] Try.func102 rfl rfl (Nat.le_of_ble_eq_true rfl) rfl (pins := []) rfl (L := [(HK, .hp (hq w0 y)), (0, .i home), (1, .t (.agg [.s n.Entry.Key, .i n.Entry.Version, .i n.Entry.Len, .i n.Entry.First, .i n.next_])), (2, .t (.hpt 63 0))]) rfl ?_
   refine c_sr ?_
   refine o_m2 (.box [.s n.Entry.Key, .i n.Entry.Version, .i n.Entry.Len, .i n.Entry.First, .i n.next_]) (.b false) rfl ?_
   refine zB (c_sr ?_)
   refine o_of (e := [(HK, .hp (hz (hpA w0) (zb [.any]))), (6, .t (.xs 78 4 (y.map zI) none))]) (g0 rfl) (h_xtake mR rfl rfl rfl rfl rfl rfl rfl rfl rfl (zGe _ _ _)) rfl ?_
   refine o_m2 (.ref 4 0) (.t (.agg [.s n.Entry.Key, .i n.Entry.Version, .i n.Entry.Len, .i n.Entry.First])) rfl ?_
   refine o_1 (.t (.own 78 4 [zI n.Entry])) rfl ?_
   refine o_of (e := [(6, .t .any), (10, .t (.xs 78 4 ((y ++ [n.Entry]).map zI) none))]) (g0 rfl) (h_appX mR rfl rfl rfl rfl rfl rfl rfl (by rw [List.length_map]; exact of_decide_eq_true h1) (by rw [List.map_append]; rfl) rfl rfl) rfl ?_
   refine o_of (e := [(HK, .hp (hq w0 (y ++ [n.Entry]))), (10, .t .any)]) (g0 rfl) (h_xsto mR rfl rfl rfl rfl rfl rfl rfl rfl rfl rfl rfl (zGe _ _ _)) rfl ?_
   refine zB (c_sr ?_)
   refine o_1 (.b false) rfl ?_
   refine zB (zJ ?_)
   exact ⟨⟨_, rfl, .r⟩, trivial, rfl⟩
 · cases h
theorem fch_eachQ (p0 : (Option Nat)) (p1 : Int) (w0 : Hp) (y0 : List zA) (r : (zW × Int × zQ × Int) × List zA) (h : zJo p0 p1 w0 y0 = some r) : FCH Try.prog 101 [.t ((ptT 7 p0)), .t (.d (.lit (.int .i64 p1))), .ck 102 [.live 63]] [] [] (hq w0 y0) (hq w0 r.2) (.tup [.agg [.lit (.int .i64 r.1.1.home_), .lit (.int .i64 r.1.1.off_)], .d (.lit (.int .i64 r.1.2.1)), .agg [.lit (.string ⟨⟨r.1.2.2.1.Entry.Key⟩⟩), .lit (.int .i64 r.1.2.2.1.Entry.Version), .lit (.int .i64 r.1.2.2.1.Entry.Len), .lit (.int .i64 r.1.2.2.1.Entry.First), .lit (.int .i64 r.1.2.2.1.next_)], .d (.lit (.int .i64 r.1.2.2.2))]) := by
 refine qY (rs := [.cell 6 148, .tmp 7, .cell 8 150, .tmp 9]) (n := 86) [] Try.func101 rfl rfl (Nat.le_of_ble_eq_true rfl) rfl (pins := []) rfl (L := [(HK, .hp (hq w0 y0)), (0, .t ((ptT 7 p0))), (1, .i p1), (2, .ck 102 [.live 63])]) rfl ?_
 refine c_sr ?_
 refine o_m4 (.box [.i 0, .i 0]) (.i 0) (.box [.s [], .i 0, .i 0, .i 0, .i 0]) (.i 0) rfl ?_
 refine zB ?_
 refine zIt 0 _ rfl ?_
 refine c_sr ?_
 refine o_of (e := [(19, .t ((ptT 7 p0)))]) (g0 rfl) (h_mv mR (.inl rfl) (zM rfl) rfl rfl) rfl ?_
 refine o_1 (.i p1) rfl ?_
 obtain ⟨x1, h2, h⟩ := bind_some h
 refine o_of (e := [(21, .t (.agg [.i x1.home_, .i x1.off_]))]) (g0 rfl) (qL mR rfl (σ := []) (fr := []) rfl rfl rfl rfl rfl rfl rfl (FCH.more (zBD _ _ w0 _ h2) (zEr _).toNZ (zEr _).toNZ (by simp only [List.all_cons, nzA, zJW 7 (by decide)]; rfl) (Nat.le_of_ble_eq_true rfl) (zq y0)) (zCo _ _) rfl rfl rfl rfl (.cons (yJ rfl) (.cons (.plain .r rfl) .nil)) rfl (.t (.flat rfl))) rfl ?_
 refine o_1 (.box [.i 0, .i 0]) rfl ?_
 refine o_st (.box [.i x1.home_, .i x1.off_]) (g0 rfl) rfl rfl rfl ?_
 refine zB (c_sr ?_)
 refine o_of (e := [(23, .t ((ptT 7 p0)))]) (g0 rfl) (h_mv mR (.inl rfl) (zM rfl) rfl rfl) rfl ?_
 refine o_1 (.t (.agg [.i x1.home_, .i x1.off_])) rfl ?_
 obtain ⟨x3, h4, h⟩ := bind_some h
 refine o_of (e := [(25, .tup [.i x3.1, .i x3.2])]) (g0 rfl) (qL mR rfl (σ := []) (fr := []) rfl rfl rfl rfl rfl rfl rfl (FCH.more (zBs _ _ w0 _ h4) (zEr _).toNZ (zEr _).toNZ (by simp only [List.all_cons, nzA, zJW 7 (by decide)]; rfl) (Nat.le_of_ble_eq_true rfl) (zq y0)) (zCo _ _) rfl rfl rfl rfl (.cons (yJ rfl) (.cons (.plain .r rfl) .nil)) rfl (.tup (.cons (.flat rfl) (.cons (.flat rfl) .nil)))) rfl ?_
 refine o_m5 (.tup [.i x3.1, .i x3.2]) (.i x3.1) (.i x3.2) (.i x3.1) (.i x3.2) rfl ?_
 refine zB (zL (c_sr ?_))
 refine o_m2 (.i x3.2) (.b (x3.2 != 0)) rfl ?_
 refine zB ?_
 rcases zF h with ⟨h5, h⟩ | ⟨h5, h⟩
 ·
  refine c_t h5 rfl ?_
  refine c_sr ?_
  refine o_m3 (.t (.agg [.i 0, .i 0])) (.t (.agg [.s [], .i 0, .i 0, .i 0, .i 0])) (.i x3.2) rfl ?_
  refine o_st (.box [.i 0, .i 0]) (g0 rfl) rfl rfl rfl ?_
  refine o_1 (.i 0) rfl ?_
  refine o_st (.box [.s [], .i 0, .i 0, .i 0, .i 0]) (g0 rfl) rfl rfl rfl ?_
  refine o_1 (.i x3.2) rfl ?_
  refine zB (zJ ?_)
  obtain rfl := Option.some.inj h
  exact ⟨⟨_, rfl, (.tup (.cons .r (.cons .r (.cons .r (.cons .r .nil)))))⟩, trivial, rfl⟩
 refine c_f h5 rfl ?_
 refine zK (c_sr ?_)
 refine o_1 (.i 0) rfl ?_
 refine zB ?_
 refine c_lab (fun (q : Int × Int × Int × Int × List zA) => [(0, .t ((ptT 7 p0))), (1, .i p1), (2, .ck 102 [.live 63]), (6, .box [.i 0, .i 0]), (8, .box [.s [], .i 0, .i 0, .i 0, .i 0]), (10, .box [.i q.1, .i q.2.1]), (11, .i q.2.2.1), (13, .i q.2.2.2.1), (HK, .hp (hq w0 q.2.2.2.2))]) (fun nl1 => (fun (q : Int × Int × Int × Int × List zA) => zKE p0 w0 p1 nl1 q.1 q.2.1 q.2.2.1 q.2.2.2.1 q.2.2.2.2 = some r)) (16400) (x1.home_, x1.off_, x3.1, 0, y0) [] rfl h rfl ⟨.inr ⟨_, rfl, zCo _ _⟩, by (repeat (first | exact ObP.nil | refine ObP.cons (.inl rfl) ?_ | refine ObP.cons (.inr (fun _ => rfl)) ?_ | refine ObP.cons (.inr (qW (zP _ _))) ?_ | refine ObP.cons (.inr (zAJ _ _)) ?_))⟩ ⟨.r, .r, .r, .r, .r, .r, .r, .r, .r, trivial⟩ rfl ?_
 rintro nl1 ⟨z6, z7, z8, z9, yq⟩ h
 cases nl1 with
 | zero => exact qV h
 | succ nl1 =>
  refine zL (c_sr ?_)
  refine o_m2 (.i z8) (.b (z8 == 0)) rfl ?_
  refine zB ?_
  rcases zF h with ⟨h10, h⟩ | ⟨h10, h⟩
  ·
   refine c_t h10 rfl ?_
   refine c_sr ?_
   refine o_m2 (.t (.agg [.i 0, .i 0])) (.t (.agg [.s [], .i 0, .i 0, .i 0, .i 0])) rfl ?_
   refine o_st (.box [.i 0, .i 0]) (g0 rfl) rfl rfl rfl ?_
   refine o_1 (.i 0) rfl ?_
   refine o_st (.box [.s [], .i 0, .i 0, .i 0, .i 0]) (g0 rfl) rfl rfl rfl ?_
   refine o_1 (.i 35) rfl ?_
   refine zB (zJ ?_)
   obtain rfl := Option.some.inj h
   exact ⟨⟨_, rfl, (.tup (.cons .r (.cons .r (.cons .r (.cons .r .nil)))))⟩, trivial, rfl⟩
  refine c_f h10 rfl ?_
  refine zK (c_sr ?_)
  refine o_of (e := [(38, .t ((ptT 7 p0)))]) (g0 rfl) (h_mv mR (.inl rfl) (zM rfl) rfl rfl) rfl ?_
  refine o_1 (.i z8) rfl ?_
  obtain ⟨x11, h12, h⟩ := bind_some h
  refine o_of (e := [(40, .tup [.y x11.1, .i x11.2])]) (g0 rfl) (qL mR rfl (σ := []) (fr := []) rfl rfl rfl rfl rfl rfl rfl (FCH.more (zBl _ _ w0 _ h12) (zEr _).toNZ (zEr _).toNZ (by simp only [List.all_cons, nzA, zJW 7 (by decide)]; rfl) (Nat.le_of_ble_eq_true rfl) (zq yq)) (zCo _ _) rfl rfl rfl rfl (.cons (yJ rfl) (.cons (.plain .r rfl) .nil)) rfl (.tup (.cons (.flat rfl) (.cons (.flat rfl) .nil)))) rfl ?_
  refine o_m5 (.tup [.y x11.1, .i x11.2]) (.y x11.1) (.i x11.2) (.y x11.1) (.i x11.2) rfl ?_
  refine zB (zL (c_sr ?_))
  refine o_m2 (.i x11.2) (.b (x11.2 != 0)) rfl ?_
  refine zB ?_
  rcases zF h with ⟨h13, h⟩ | ⟨h13, h⟩
  ·
   refine c_t h13 rfl ?_
   refine c_sr ?_
   refine o_m3 (.t (.agg [.i 0, .i 0])) (.t (.agg [.s [], .i 0, .i 0, .i 0, .i 0])) (.i x11.2) rfl ?_
   refine o_st (.box [.i 0, .i 0]) (g0 rfl) rfl rfl rfl ?_
   refine o_1 (.i 0) rfl ?_
   refine o_st (.box [.s [], .i 0, .i 0, .i 0, .i 0]) (g0 rfl) rfl rfl rfl ?_
   refine o_1 (.i x11.2) rfl ?_
   refine zB (zJ ?_)
   obtain rfl := Option.some.inj h
   exact ⟨⟨_, rfl, (.tup (.cons .r (.cons .r (.cons .r (.cons .r .nil)))))⟩, trivial, rfl⟩
  refine c_f h13 rfl ?_
  refine zK (c_sr ?_)
  refine o_1 (.y x11.1) rfl ?_
  obtain ⟨x14, h15, h⟩ := bind_some h
  refine o_of (e := [(50, .tup [.agg [.s x14.1.Entry.Key, .i x14.1.Entry.Version, .i x14.1.Entry.Len, .i x14.1.Entry.First, .i x14.1.next_], .b x14.2])]) (g0 rfl) (qL mR rfl (σ := []) (fr := []) rfl rfl rfl rfl rfl rfl rfl (FCH.more (zE5 _ w0 _ h15) (zEr _).toNZ (zEr _).toNZ (by simp only [List.all_cons, nzA, zJW 7 (by decide)]; rfl) (Nat.le_of_ble_eq_true rfl) (zq yq)) (zCo _ _) rfl rfl rfl rfl (.cons (.plain .r rfl) .nil) rfl (.tup (.cons (.flat rfl) (.cons (.flat rfl) .nil)))) rfl ?_
  refine o_m4 (.tup [.agg [.s x14.1.Entry.Key, .i x14.1.Entry.Version, .i x14.1.Entry.Len, .i x14.1.Entry.First, .i x14.1.next_], .b x14.2]) (.t (.agg [.s x14.1.Entry.Key, .i x14.1.Entry.Version, .i x14.1.Entry.Len, .i x14.1.Entry.First, .i x14.1.next_])) (.b x14.2) (.box [.s [], .i 0, .i 0, .i 0, .i 0]) rfl ?_
  refine o_st (.box [.s x14.1.Entry.Key, .i x14.1.Entry.Version, .i x14.1.Entry.Len, .i x14.1.Entry.First, .i x14.1.next_]) (g0 rfl) rfl rfl rfl ?_
  refine o_1 (.b x14.2) rfl ?_
  refine zB (c_sr ?_)
  refine o_m3 (.ref 15 0) (.ref 15 0) (.s x14.1.Entry.Key) rfl ?_
  obtain ⟨x16, h17, h⟩ := bind_some h
  refine o_ca (zBJ _ _ h17) (g0 rfl) rfl rfl rfl rfl rfl rfl rfl (.cons .r .nil) rfl rfl ?_
  refine o_m5 (.tup [.i x16.1, .b x16.2]) (.i x16.1) (.b x16.2) (.i x16.1) (.b x16.2) rfl ?_
  refine zB (zL (c_sr ?_))
  refine o_m3 (.i z9) (.i (wi (z9 + 1))) (.i (wi (z9 + 1))) rfl ?_
  refine zB (c_sr ?_)
  refine o_m3 (.b x14.2) (.b (!x14.2)) (.b (!x14.2)) rfl ?_
  rcases zF h with ⟨h18, h⟩ | ⟨h18, h⟩
  ·
   refine zC rfl rfl rfl h18 rfl rfl ?_
   refine zC rfl rfl rfl h18 rfl rfl ?_
   refine zC rfl rfl rfl h18 rfl rfl ?_
   refine o_pk (.b true) (b := true) h18 (g0 rfl) rfl rfl rfl rfl rfl ?_
   refine o_1 (.b true) rfl ?_
   refine zC rfl rfl rfl rfl rfl rfl ?_
   refine zC rfl rfl rfl rfl rfl rfl ?_
   refine o_pk (.b true) (b := true) rfl (g0 rfl) rfl rfl rfl rfl rfl ?_
   refine zB ?_
   refine c_t rfl rfl ?_
   refine c_sr ?_
   refine o_m2 (.t (.agg [.i 0, .i 0])) (.t (.agg [.s [], .i 0, .i 0, .i 0, .i 0])) rfl ?_
   refine o_st (.box [.i 0, .i 0]) (g0 rfl) rfl rfl rfl ?_
   refine o_1 (.i 0) rfl ?_
   refine o_st (.box [.s [], .i 0, .i 0, .i 0, .i 0]) (g0 rfl) rfl rfl rfl ?_
   refine o_1 (.i 11) rfl ?_
   refine zB (zJ ?_)
   obtain rfl := Option.some.inj h
   exact ⟨⟨_, rfl, (.tup (.cons .r (.cons .r (.cons .r (.cons .r .nil)))))⟩, trivial, rfl⟩
  refine o_s (.i x16.1) (gy rfl rfl rfl h18) rfl rfl rfl ?_
  refine o_s (.i p1) (gy rfl rfl rfl h18) rfl rfl rfl ?_
  refine o_s (.b (x16.1 != p1)) (gy rfl rfl rfl h18) rfl rfl rfl ?_
  refine o_pk (.b (x16.1 != p1)) (b := false) h18 (g0 rfl) rfl rfl rfl rfl rfl ?_
  refine o_1 (.b (x16.1 != p1)) rfl ?_
  rcases zF h with ⟨h19, h⟩ | ⟨h19, h⟩
  ·
   refine zC rfl rfl rfl h19 rfl rfl ?_
   refine zC rfl rfl rfl h19 rfl rfl ?_
   refine o_pk (.b true) (b := true) h19 (g0 rfl) rfl rfl rfl rfl rfl ?_
   refine zB ?_
   refine c_t rfl rfl ?_
   refine c_sr ?_
   refine o_m2 (.t (.agg [.i 0, .i 0])) (.t (.agg [.s [], .i 0, .i 0, .i 0, .i 0])) rfl ?_
   refine o_st (.box [.i 0, .i 0]) (g0 rfl) rfl rfl rfl ?_
   refine o_1 (.i 0) rfl ?_
   refine o_st (.box [.s [], .i 0, .i 0, .i 0, .i 0]) (g0 rfl) rfl rfl rfl ?_
   refine o_1 (.i 11) rfl ?_
   refine zB (zJ ?_)
   obtain rfl := Option.some.inj h
   exact ⟨⟨_, rfl, (.tup (.cons .r (.cons .r (.cons .r (.cons .r .nil)))))⟩, trivial, rfl⟩
  refine o_s (.i (wi (z9 + 1))) (gy rfl rfl rfl h19) rfl rfl rfl ?_
  refine o_s (.b (decide ((wi (z9 + 1)) > 16384))) (gy rfl rfl rfl h19) rfl rfl rfl ?_
  refine o_pk (.b (decide ((wi (z9 + 1)) > 16384))) (b := false) h19 (g0 rfl) rfl rfl rfl rfl rfl ?_
  refine zB ?_
  rcases zF h with ⟨h20, h⟩ | ⟨h20, h⟩
  ·
   refine c_t h20 rfl ?_
   refine c_sr ?_
   refine o_m2 (.t (.agg [.i 0, .i 0])) (.t (.agg [.s [], .i 0, .i 0, .i 0, .i 0])) rfl ?_
   refine o_st (.box [.i 0, .i 0]) (g0 rfl) rfl rfl rfl ?_
   refine o_1 (.i 0) rfl ?_
   refine o_st (.box [.s [], .i 0, .i 0, .i 0, .i 0]) (g0 rfl) rfl rfl rfl ?_
   refine o_1 (.i 11) rfl ?_
   refine zB (zJ ?_)
   obtain rfl := Option.some.inj h
   exact ⟨⟨_, rfl, (.tup (.cons .r (.cons .r (.cons .r (.cons .r .nil)))))⟩, trivial, rfl⟩
  refine c_f h20 rfl ?_
  refine zK (zL (c_sr ?_))
  refine o_s (.ck 102 [.live 63]) (g0 rfl) rfl rfl rfl ?_
  refine o_m2 (.i z8) (.t (.agg [.s x14.1.Entry.Key, .i x14.1.Entry.Version, .i x14.1.Entry.Len, .i x14.1.Entry.First, .i x14.1.next_])) rfl ?_
  obtain ⟨x21, h22, h⟩ := bind_some h
  refine o_of (e := [(HK, .hp (hq w0 x21)), (78, .t (.d (.lit (.bool false))))]) (g0 rfl) (h_callC (args := [.i z8, (.t (.agg [.s x14.1.Entry.Key, .i x14.1.Entry.Version, .i x14.1.Entry.Len, .i x14.1.Entry.First, .i x14.1.next_]))]) mR rfl rfl rfl rfl rfl ⟨_, Try.func102, rfl, rfl⟩ (fch_all1 w0 z8 x14.1 yq x21 h22) (zCo _ _) (zCo _ _) (.cons (.plain .r rfl) (.cons (.plain .r rfl) .nil)) rfl (.t (.flat rfl))) rfl ?_
  refine zB ?_
  refine c_f rfl rfl ?_
  refine zK (zL ?_)
  refine zAC zBM (by kernel_rfl) ?_
  refine d_s (.i z8) rfl (dg0 rfl) rfl rfl rfl rfl ?_
  refine d_s (.t (.agg [.i z8, .i 0])) rfl (dg0 rfl) rfl rfl rfl rfl ?_
  refine d_s (.ref 15 4) rfl (dg0 rfl) rfl rfl rfl rfl ?_
  refine d_s (.i x14.1.next_) rfl (dg0 rfl) rfl rfl rfl rfl ?_
  refine d_st (.box [.i z8, .i 0]) rfl (dg0 rfl) rfl rfl rfl rfl ?_
  refine d_s (.i x14.1.next_) rfl (dg0 rfl) rfl rfl rfl rfl ?_
  refine zAd (by kernel_rfl) ?_
  refine c_goto (gq_goto ?_)
  exact ⟨nl1, (z8, 0, x14.1.next_, (wi (z9 + 1)), x21), [], Nat.lt_succ_self nl1, h, rfl, ⟨.inr ⟨_, rfl, zCo _ _⟩, by (repeat (first | exact ObP.nil | refine ObP.cons (.inl rfl) ?_ | refine ObP.cons (.inr (fun _ => rfl)) ?_ | refine ObP.cons (.inr (qW (zP _ _))) ?_ | refine ObP.cons (.inr (zAJ _ _)) ?_))⟩, ⟨.r, .r, .r, .r, .r, .r, .r, .r, .r, trivial⟩, rfl⟩
theorem fch_ins0 (F C) (w0 : Hp) : FCH Try.prog 135 [.t (.d (.seq 4 [])), .i 0, .i 0, .t (.d (.clo F C))] [] [] (hpA w0) (hpA w0) (.tup []) := by
 refine qY (rs := []) (n := 53) [] Try.func135 rfl rfl (Nat.le_of_ble_eq_true rfl) rfl (pins := []) rfl (L := [(HK, .hp (hpA w0)), (0, .t (.d (.seq 4 []))), (1, .i 0), (2, .i 0), (3, .t (.d (.clo F C)))]) rfl ?_
 refine c_sr ?_
 refine o_m3 (.i 0) (.i 1) (.i 1) rfl ?_
 refine zB ?_
 repeat first | refine yG ?_ | refine zCH ?_ | refine zAl ?_ | refine zBR ?_ | refine zBO rfl ?_
 refine qC ?_
 refine zC4 (fun (_ : Unit) => [(0, .t (.d (.seq 4 []))), (1, .i 0), (2, .i 0), (3, .t (.d (.clo F C))), (8, .i 1), (HK, .hp (hpA w0))]) (fun n (_ : Unit) => 0 < n) 1 () [] Nat.one_pos rfl ⟨.inr ⟨_, rfl, zD _⟩, by (repeat (first | exact ObP.nil | refine ObP.cons (.inl rfl) ?_ | refine ObP.cons (.inr (fun _ => rfl)) ?_ | refine ObP.cons (.inr (qW (zP _ _))) ?_ | refine ObP.cons (.inr (zAJ _ _)) ?_))⟩ ⟨.r, .r, .r, .r, .r, .r, trivial⟩ rfl ?_
 rintro n ⟨⟩ h
 cases n with
 | zero => exact absurd h (Nat.lt_irrefl _)
 | succ n =>
  refine zL (c_sr ?_)
  refine o_m3 (.i 1) (.i 0) (.b false) rfl ?_
  refine zB ?_
  refine c_f rfl rfl ?_
  refine zAs ?_
  repeat first | refine yG ?_ | refine zCH ?_ | refine zAl ?_ | refine zBR ?_ | refine zBO rfl ?_
  exact ⟨⟨_, rfl, .r⟩, trivial, rfl⟩
theorem zIe (F C) (w0 : Hp) : FCH Try.prog 126 [.t (.d (.seq 4 [])), .i 0, .t (.d (.clo F C))] [] [] (hpA w0) (hpA w0) (.tup []) := by
 refine qY (rs := []) (n := 63) [] Try.func126 rfl rfl (Nat.le_of_ble_eq_true rfl) rfl (pins := []) rfl (L := [(HK, .hp (hpA w0)), (0, .t (.d (.seq 4 []))), (1, .i 0), (2, .t (.d (.clo F C)))]) rfl ?_
 refine c_sr ?_
 refine o_1 (.i 20) rfl ?_
 refine zB (c_sr ?_)
 refine o_m3 (.i 20) (.i 0) (.i 20) rfl ?_
 refine zB ?_
 refine zL ?_
 refine qC ?_
 refine zC4 (fun (_ : Unit) => [(0, .t (.d (.seq 4 []))), (1, .i 0), (2, .t (.d (.clo F C))), (6, .i 20), (7, .i 0), (8, .i 20), (HK, .hp (hpA w0))]) (fun n (_ : Unit) => 0 < n) 1 () [] Nat.one_pos rfl ⟨.inr ⟨_, rfl, zD _⟩, by (repeat (first | exact ObP.nil | refine ObP.cons (.inl rfl) ?_ | refine ObP.cons (.inr (fun _ => rfl)) ?_ | refine ObP.cons (.inr (qW (zP _ _))) ?_ | refine ObP.cons (.inr (zAJ _ _)) ?_))⟩ ⟨.r, .r, .r, .r, .r, .r, .r, trivial⟩ rfl ?_
 rintro n ⟨⟩ h
 cases n with
 | zero => exact absurd h (Nat.lt_irrefl _)
 | succ n =>
  refine zL (c_sr ?_)
  refine o_m3 (.i 20) (.i 0) (.b false) rfl ?_
  refine zB ?_
  refine c_f rfl rfl ?_
  refine zAs ?_
  repeat first | refine yG ?_ | refine zCH ?_ | refine zAl ?_ | refine zBR ?_ | refine zBO rfl ?_
  refine c_sr ?_
  refine o_m4 (.t (.d (.seq 4 []))) (.i 0) (.i 0) (.t (.d (.clo F C))) rfl ?_
  refine o_of (e := [(27, .tup [])]) (g0 rfl) (qL mR rfl (σ := []) (fr := []) rfl rfl rfl rfl rfl rfl rfl (fch_ins0 F C w0) (zD _) rfl rfl rfl rfl (.cons (.plain .r rfl) (.cons (.plain .r rfl) (.cons (.plain .r rfl) (.cons (.plain .r rfl) .nil)))) rfl (.tup .nil)) rfl ?_
  refine zB ?_
  repeat first | refine yG ?_ | refine zCH ?_ | refine zAl ?_ | refine zBR ?_ | refine zBO rfl ?_
  refine qC ?_
  refine zC4 (fun (_ : Unit) => [(0, .t (.d (.seq 4 []))), (1, .i 0), (2, .t (.d (.clo F C))), (6, .i 20), (HK, .hp (hpA w0))]) (fun n (_ : Unit) => 0 < n) 1 () [] Nat.one_pos rfl ⟨.inr ⟨_, rfl, zD _⟩, by (repeat (first | exact ObP.nil | refine ObP.cons (.inl rfl) ?_ | refine ObP.cons (.inr (fun _ => rfl)) ?_ | refine ObP.cons (.inr (qW (zP _ _))) ?_ | refine ObP.cons (.inr (zAJ _ _)) ?_))⟩ ⟨.r, .r, .r, .r, .r, trivial⟩ rfl ?_
  rintro n ⟨⟩ h
  cases n with
  | zero => exact absurd h (Nat.lt_irrefl _)
  | succ n =>
   refine zL (c_sr ?_)
   refine o_m3 (.i 20) (.i 0) (.b false) rfl ?_
   refine zB ?_
   refine c_f rfl rfl ?_
   refine zAs ?_
   repeat first | refine yG ?_ | refine zCH ?_ | refine zAl ?_ | refine zBR ?_ | refine zBO rfl ?_
   exact ⟨⟨_, rfl, .r⟩, trivial, rfl⟩
theorem fch_sort0 (F C) (w0 : Hp) : FCH Try.prog 103 [.t (.d (.seq 4 [])), .t (.d (.clo F C))] [] [] (hpA w0) (hpA w0) (.tup []) := by
 refine qY (rs := []) (n := 9) [] Try.func103 rfl rfl (Nat.le_of_ble_eq_true rfl) rfl (pins := []) rfl (L := [(HK, .hp (hpA w0)), (0, .t (.d (.seq 4 []))), (1, .t (.d (.clo F C)))]) rfl ?_
 refine zS ?_
 refine o_m4 (.t (.d (.seq 4 []))) (.t (.d (.seq 4 []))) (.i 0) (.t (.d (.clo F C))) rfl ?_
 refine o_of (e := [(8, .tup [])]) (g0 rfl) (qL mR rfl (σ := []) (fr := []) rfl rfl rfl rfl rfl rfl rfl (zIe F C w0) (zD _) rfl rfl rfl rfl (.cons (.plain .r rfl) (.cons (.plain .r rfl) (.cons (.plain .r rfl) .nil))) rfl (.tup .nil)) rfl ?_
 refine zB ?_
 repeat first | refine yG ?_ | refine zCH ?_ | refine zAl ?_ | refine zBR ?_ | refine zBO rfl ?_
 exact ⟨⟨_, rfl, .r⟩, trivial, rfl⟩
theorem hz_none (w0 : Hp) : hz (hpA w0) (fun _ => .free) = hpA w0 := by
 funext c
 unfold hz
 split
 ·
  rename_i h
  have := (zEr w0).toNZ.z c h
  cases e : hpA w0 c with
  | free => rfl
  | _ => rw [e] at this; cases this
 · rfl
theorem is_empty {y : List zA} (h : y.isEmpty = true) : y = [] := by
 cases y with
 | nil => rfl
 | cons a l => cases h
theorem not_empty {y : List zA} (h : y.isEmpty = false) : y ≠ [] := fun e => by rw [e] at h; cases h
theorem fch_allZ (p0 : Option Nat) (w0 : Hp) (r : List zA × Int) (h : yX p0 w0 = some r) : FCH Try.prog 53 [.t ((ptT 7 p0))] [] [] (hz (hpA w0) (fun _ => .free)) (hz (hpA w0) (zb [.any])) (.tup [.d (.seq 4 (r.1.map zI)), .d (.lit (.int .i64 r.2))]) := by
 refine qY (rs := [.tmp 2, .tmp 3]) (n := 29) [] Try.func53 rfl rfl (Nat.le_of_ble_eq_true rfl) rfl (pins := []) rfl (L := [(HK, .hp (hz (hpA w0) (fun _ => .free))), (0, .t (ptT 7 p0))]) rfl ?_
 refine c_sr ?_
 refine o_m2 (.t (.d (.lit (.slice none 0 0)))) (.i 0) rfl ?_
 refine zB ?_
 refine zIt 0 _ rfl ?_
 refine c_sr ?_
 refine o_of (e := [(HK, .hp (hq w0 [])), (4, .t (.hpt 63 0))]) (g0 rfl) (h_newW rfl rfl rfl rfl rfl (.cons (.nilXs _ _) .nil) rfl rfl rfl rfl (hz_new _ _)) rfl ?_
 refine zB ?_
 refine c_lab (fun (_ : Unit) => [(0, .t (ptT 7 p0)), (4, .t (.hpt 63 0)), (HK, .hp (hq w0 []))]) (fun n (_ : Unit) => 0 < n) 1 () [] rfl Nat.one_pos rfl ⟨.inr ⟨_, rfl, zCo _ _⟩, by (repeat (first | exact ObP.nil | refine ObP.cons (.inl rfl) ?_ | refine ObP.cons (.inr (fun _ => rfl)) ?_ | refine ObP.cons (.inr (qW (zP _ _))) ?_ | refine ObP.cons (.inr (zAJ _ _)) ?_))⟩ ⟨.r, .r, .r, trivial⟩ rfl ?_
 rintro _ ⟨⟩ _
 refine zL ?_
 refine c_sr ?_
 refine o_1 (.i 0) rfl ?_
 refine zB ?_
 refine qC ?_
 refine zC4 (fun (q : Int × List zA) => [(0, .t (ptT 7 p0)), (4, .t (.hpt 63 0)), (10, .i q.1), (HK, .hp (hq w0 q.2))]) (fun n (q : Int × List zA) => allL p0 w0 n q.1 q.2 = some r) 66 (0, []) [] h rfl ⟨.inr ⟨_, rfl, zCo _ _⟩, by (repeat (first | exact ObP.nil | refine ObP.cons (.inl rfl) ?_ | refine ObP.cons (.inr (fun _ => rfl)) ?_ | refine ObP.cons (.inr (qW (zP _ _))) ?_ | refine ObP.cons (.inr (zAJ _ _)) ?_))⟩ ⟨.r, .r, .r, .r, trivial⟩ rfl ?_
 rintro n ⟨i, y⟩ h
 cases n with
 | zero => exact qV h
 | succ n =>
  refine c_sr ?_
  refine o_1 (.b (decide (i < 64))) rfl ?_
  refine zB (zL ?_)
  rcases zF h with ⟨h1, h⟩ | ⟨h1, h⟩
  · refine c_t h1 rfl ?_
    refine zK ?_
    repeat first | refine yG ?_ | refine zCH ?_ | refine zAl ?_ | refine zBR ?_ | refine zBO rfl ?_
    refine zL ?_
    refine qC ?_
    refine c_sr ?_
    refine o_m2 (.i i) (.i i) rfl ?_
    refine zB (c_sr ?_)
    refine o_of (e := [(14, .t ((ptT 7 p0)))]) (g0 rfl) (h_mv mR (.inl rfl) (zM rfl) rfl rfl) rfl ?_
    refine o_1 (.i i) rfl ?_
    refine o_of (e := [(16, .ck 102 [.live 63])]) (g0 rfl) (h_mfK mR rfl rfl rfl rfl) rfl ?_
    obtain ⟨x, h2, h⟩ := bind_some h
    refine o_of (e := [(HK, .hp (hq w0 x.2)), (17, .tup [.agg [.i x.1.1.home_, .i x.1.1.off_], .i x.1.2.1, .agg [.s x.1.2.2.1.Entry.Key, .i x.1.2.2.1.Entry.Version, .i x.1.2.2.1.Entry.Len, .i x.1.2.2.1.Entry.First, .i x.1.2.2.1.next_], .i x.1.2.2.2])]) (g0 rfl) (zBS mR rfl (σ := []) (fr := []) rfl rfl rfl rfl rfl rfl rfl (fch_eachQ p0 i w0 y x h2) (zCo _ _) (zCo _ _) rfl rfl rfl rfl (.cons (yJ rfl) (.cons (.plain .r rfl) (.cons (.ck _ _) .nil))) rfl (.tup (.cons (.flat rfl) (.cons (.flat rfl) (.cons (.flat rfl) (.cons (.flat rfl) .nil)))))) rfl ?_
    refine o_m5 (.tup [.agg [.i x.1.1.home_, .i x.1.1.off_], .i x.1.2.1, .agg [.s x.1.2.2.1.Entry.Key, .i x.1.2.2.1.Entry.Version, .i x.1.2.2.1.Entry.Len, .i x.1.2.2.1.Entry.First, .i x.1.2.2.1.next_], .i x.1.2.2.2]) (.t (.agg [.i x.1.1.home_, .i x.1.1.off_])) (.i x.1.2.1) (.t (.agg [.s x.1.2.2.1.Entry.Key, .i x.1.2.2.1.Entry.Version, .i x.1.2.2.1.Entry.Len, .i x.1.2.2.1.Entry.First, .i x.1.2.2.1.next_])) (.i x.1.2.2.2) rfl ?_
    refine o_m2 (.box [.i 0, .i 0]) (.box [.s [], .i 0, .i 0, .i 0, .i 0]) rfl ?_
    refine o_st (.box [.i x.1.1.home_, .i x.1.1.off_]) (g0 rfl) rfl rfl rfl ?_
    refine o_1 (.i x.1.2.1) rfl ?_
    refine o_st (.box [.s x.1.2.2.1.Entry.Key, .i x.1.2.2.1.Entry.Version, .i x.1.2.2.1.Entry.Len, .i x.1.2.2.1.Entry.First, .i x.1.2.2.1.next_]) (g0 rfl) rfl rfl rfl ?_
    refine o_1 (.i x.1.2.2.2) rfl ?_
    refine zB (zL ?_)
    refine c_sr ?_
    refine o_m2 (.i x.1.2.2.2) (.b (x.1.2.2.2 == 35)) rfl ?_
    refine zB ?_
    rcases zF h with ⟨h3, h⟩ | ⟨h3, h⟩
    · refine c_t h3 rfl ?_
      refine zAs ?_
      repeat first | refine yG ?_ | refine zCH ?_ | refine zAl ?_ | refine zBR ?_ | refine zBO rfl ?_
      refine zS ?_
      refine o_m2 (.i (wi (i + 1))) (.i (wi (i + 1))) rfl ?_
      refine zB ?_
      repeat first | refine yG ?_ | refine zCH ?_ | refine zAl ?_ | refine zBR ?_ | refine zBO rfl ?_
      exact ⟨n, (wi (i + 1), x.2), [], Nat.lt_succ_self _, h, rfl, ⟨.inr ⟨_, rfl, zCo _ _⟩, by (repeat (first | exact ObP.nil | refine ObP.cons (.inl rfl) ?_ | refine ObP.cons (.inr (fun _ => rfl)) ?_ | refine ObP.cons (.inr (qW (zP _ _))) ?_ | refine ObP.cons (.inr (zAJ _ _)) ?_))⟩, ⟨.r, .r, .r, .r, trivial⟩, rfl⟩
    · refine c_f h3 rfl ?_
      refine zK ?_
      refine c_xany 63 0 (f' := hz (hpA w0) (zb [.any])) rfl rfl rfl (zGe _ _ _) ?_
      refine c_sr ?_
      refine o_m3 (.i x.1.2.2.2) (.t (.d (.lit (.slice none 0 0)))) (.i x.1.2.2.2) rfl ?_
      refine zB (zJ ?_)
      obtain rfl := Option.some.inj h
      exact ⟨⟨_, rfl, (.tup (.cons (.d (.nil _)) (.cons .r .nil)))⟩, trivial, rfl⟩
  · refine c_f h1 rfl ?_
    refine zAs ?_
    repeat first | refine yG ?_ | refine zCH ?_ | refine zAl ?_ | refine zBR ?_ | refine zBO rfl ?_
    refine c_xv 63 0 (f' := fun v => hz (hpA w0) (zv y v)) rfl rfl rfl (fun v => zGe _ _ _) fun v => ?_
    refine c_sr ?_
    refine o_of (e := [(26, .t (.d (.lit v)))]) (g0 rfl) (h_xldV mR rfl rfl rfl rfl rfl rfl rfl rfl) rfl ?_
    rcases zF h with ⟨h2, h⟩ | ⟨h2, h⟩
    · obtain rfl := is_empty h2
      refine o_of (e := [(27, .tup [])]) (g0 rfl) (h_sortV0 (c := 63) (off := 0) (f0 := hpA Hp.e) mR rfl rfl rfl rfl rfl rfl rfl rfl rfl Try.func103 rfl rfl (fch_sort0 _ _ _) hpA_e rfl) rfl ?_
      refine zB (c_sr ?_)
      refine o_of (e := [(28, .t (.d (.lit v)))]) (g0 rfl) (h_xldV mR rfl rfl rfl rfl rfl rfl rfl rfl) rfl ?_
      refine o_m2 (.t (.d (.lit v))) (.i 0) rfl ?_
      refine zB ?_
      refine c_xfrzV 2 63 0 (f' := hz (hpA w0) (zb [.any])) rfl rfl rfl rfl rfl (zGe _ _ _) ?_
      refine zJ ?_
      obtain rfl := Option.some.inj h
      exact ⟨⟨_, rfl, (.tup (.cons .r (.cons .r .nil)))⟩, trivial, rfl⟩
    · obtain ⟨z, h3, h⟩ := bind_some h
      obtain ⟨_, h4, h⟩ := bind_some h
      refine o_of (e := [(HK, .hp (hz (hpA w0) (zv z v))), (27, .tup [])]) (g0 rfl) (h_sortV (c := 63) (off := 0) (f0 := hpA Hp.e) (y := y) (y' := z) mR rfl rfl rfl rfl rfl rfl rfl rfl rfl (zGe _ _ _) Try.func103 rfl rfl (zCV y 104 [] _ (fun a0 a1 r h => zEl a0 a1 r h) ⟨_, Try.func104, rfl, rfl⟩ Hp.e z h3) hpA_e (not_empty h2) (zAu h4) rfl (fun _ => rfl) rfl rfl) rfl ?_
      refine zB (c_sr ?_)
      refine o_of (e := [(28, .t (.d (.lit v)))]) (g0 rfl) (h_xldV mR rfl rfl rfl rfl rfl rfl rfl rfl) rfl ?_
      refine o_m2 (.t (.d (.lit v))) (.i 0) rfl ?_
      refine zB ?_
      refine c_xfrzV 2 63 0 (f' := hz (hpA w0) (zb [.any])) rfl rfl rfl rfl rfl (zGe _ _ _) ?_
      refine zJ ?_
      obtain rfl := Option.some.inj h
      exact ⟨⟨_, rfl, (.tup (.cons .r (.cons .r .nil)))⟩, trivial, rfl⟩
theorem zDN (p0 : Option Nat) (w0 : Hp) (r : List zA × Int) (h : yX p0 w0 = some r) : FCH Try.prog 53 [.t ((ptT 7 p0))] [] [] (hpA w0) (hpA w0) (.tup [.d (.seq 4 (r.1.map zI)), .d (.lit (.int .i64 r.2))]) := by
 have H := fch_allZ p0 w0 r h
 rw [hz_none] at H
 exact H.less (zEr _).toNZ (zEr _).toNZ rfl
end Go.Proofs.Ytjomnccladjpgaa

/-
 Maps of this function's own whose keys are strings; lookups that tell whether there is an entry.
-/
namespace Go.Proofs.Ytjomnccladjpgaa
open Go Go.RowKit
set_option linter.unusedVariables false
abbrev kvS (s : List UInt8) : Value := Value.string ⟨⟨s⟩⟩
theorem ba_eq (a b : List UInt8) : (ByteArray.mk ⟨a⟩ == ByteArray.mk ⟨b⟩) = (a == b) := by
 show (Array.mk a == Array.mk b) = (a == b)
 rw [Bool.eq_iff_iff]
 simp
def zFu {P : Program} {kt : TypeId} (h : P.underlying kt = some .string) : KeyT P kt kvS (kL kvS) :=
 ⟨.string, h, fun a b => by
  have e := ba_eq a b
  simp only [Instr.sameNow]
  rw [← e], fun a e w => MapKept.run_checkKey h (by simp [MapKept.IsKey]) e 9999, fun (a b : List UInt8) (h : (a == b) = true) => by
  have h : a = b := by simpa using h
  subst h
  simp only [Instr.sameBits]
  rw [ba_eq]
  exact beq_self_eq_true _, fun _ => kL_rep rfl, fun _ _ _ => kL_inv⟩
section
variable {pins : List Nat} {S M : Nat → A} {P : Program} {N : Nat} {op : Oper} {d : Nat}
theorem h_mlk2T {κ ν : Type} [BEq κ] {kv : κ → Value} {kT : κ → T} {vT : ν → T} (hM : Mk M S) {j t kt et : Nat} {x y : Operand} {l : List (κ × ν)} {k : κ} {z : ν} (hop : op.op = .lookup t x y true) (hx : cpO M x = .t (.mpt j)) (hb : M (OB + j) = mpT kT vT l) (hy : vK M y = some (kv k)) (hu : P.underlying t = some (.map kt et)) (K : KeyT P kt kv kT)
  {i : TypeInfo} {zv : Value} (hi : P.info? et = some i) (hz : i.zero = some zv) (hzr : ∀ m, RepE m (vT z) zv) (hd : op.dst = some d) (hok : okD N pins S d = true) : OpH P pins N op S (app S [(d, .tup [vT ((zY l k).getD z), .d (.lit (.bool (zY l k).isSome))])]) :=
 .of (e := [(d, _)]) fun hN => ⟨ok_mlk2 hM.hx hop hx (zJ2 hM hb (by simp)) hy hu K hi hz hzr hd (qX hN hok), zBU (qN hN hok)⟩
end
theorem zE {us : List Value} {l : List D} {zv : Value} (hz : zv = .agg us.toArray) (hl : us.map D.lit = l) (hu : us.all Value.oneCell' = true) (m : Mem) : RepE m (.agg l) zv := by
 subst hz hl
 refine ⟨_, rfl, by simp, fun j d hj => ?_⟩
 rw [List.getElem?_map] at hj
 cases hq : us[j]? with
 | none => rw [hq] at hj; cases hj
 | some u =>
  rw [hq] at hj
  injection hj with hj
  subst hj
  exact ⟨u, rfl, .lit u (List.all_eq_true.1 hu u (List.mem_of_getElem? hq))⟩
end Go.Proofs.Ytjomnccladjpgaa
