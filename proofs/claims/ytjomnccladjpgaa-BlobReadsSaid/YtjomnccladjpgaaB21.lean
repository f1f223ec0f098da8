/-
  What came in: from the reading of the arguments to data.
-/
import Derived.Test.YtjomnccladjpgaaB04
import Derived.ProofKit
import Derived.Lib.SmallJoins
set_option linter.unusedVariables false
set_option linter.unusedSimpArgs false
namespace Go.Proofs.Ytjomnccladjpgaa
open Go Go.RowKit Go.ChangeShapes Go.WideShapes Go.ChangeAt
set_option linter.unusedVariables false
set_option maxRecDepth 20000

/-- All that a world's cells hold. -/
def memW (w : World) : Mem := fun b p => w.cell? ⟨b, p, none⟩
theorem memW_sat (w : World) : ∀ b p u, memW w b p = some u → w.cell? ⟨b, p, none⟩ = some u := fun _ _ _ h => h

/-- What a type's cells are, as data. -/
def OpT {H : Type} (enc : TypeId × Value → H) (w : World) {α : Type} (t : TypeId) (c : α → List D) (ok : α → Prop) : Prop :=
  ∀ (base : Nat) (spare : Nat → Bool) (held : Bool) (fuel : Nat) (cs : List Value) (x : DataW H × List MemPlace), DataW.trod enc Try.prog w base spare held fuel t cs = some x → ∃ v : α, RepL (memW w) (c v) cs ∧ ok v
/-- .. read with less than so much fuel. -/
def OpF {H : Type} (enc : TypeId × Value → H) (w : World) {α : Type} (m : Nat) (t : TypeId) (c : α → List D) (ok : α → Prop) : Prop :=
  ∀ (base : Nat) (spare : Nat → Bool) (held : Bool) (fuel : Nat) (cs : List Value) (x : DataW H × List MemPlace), fuel < m → DataW.trod enc Try.prog w base spare held fuel t cs = some x → ∃ v : α, RepL (memW w) (c v) cs ∧ ok v
theorem OpT.lt {H : Type} {enc : TypeId × Value → H} {w : World} {α : Type} {t : TypeId} {c : α → List D} {ok : α → Prop} (h : OpT enc w t c ok) (m : Nat) : OpF enc w m t c ok := fun b s l f cs x _ k => h b s l f cs x k
theorem OpT.of {H : Type} {enc : TypeId × Value → H} {w : World} {α : Type} {t : TypeId} {c : α → List D} {ok : α → Prop} (h : ∀ m, OpF enc w m t c ok) : OpT enc w t c ok := fun b s l f cs x k => h (f + 1) b s l f cs x (Nat.lt_succ_self f) k

def okAny {α : Type} (_ : α) : Prop := True
def okList {α : Type} (ok : α → Prop) (l : List α) : Prop := l.length ≤ 9223372036854775807 ∧ ∀ x ∈ l, ok x

theorem repl_one {m : Mem} {d : D} {u : Value} (h : RepD m d u) : RepL m [d] [u] := by
  refine ⟨rfl, fun j e hj => ?_⟩
  match j, hj with
  | 0, hj => injection hj with hj; subst hj; exact ⟨u, rfl, h⟩
  | j + 1, hj => simp at hj
section
variable {H : Type} {enc : TypeId × Value → H} {w : World}
theorem op_u8 {t : TypeId} (ht : Try.prog.underlying t = some (.int .u8)) : OpT enc w t cU8 okAny := fun b s l f cs x h => by
  obtain ⟨n, rfl, _, hw⟩ := DataW.trod_int ht h
  refine ⟨UInt8.ofNat n.toNat, repl_one ?_, trivial⟩
  have hr : 0 ≤ n ∧ n ≤ 255 := by
    simp [Lit.wf, IntKind.min, IntKind.max, IntKind.signed, IntKind.bits] at hw
    omega
  have : ((UInt8.ofNat n.toNat).toNat : Int) = n := by
    simp
    omega
  rw [this]
  exact .lit _ rfl
theorem some_list {α : Type} (P : Nat → α → Prop) : ∀ n : Nat, (∀ i, i < n → ∃ x, P i x) → ∃ l : List α, l.length = n ∧ ∀ i (h : i < l.length), P i l[i]
  | 0, _ => ⟨[], rfl, fun i h => absurd h (by simp)⟩
  | n + 1, h => by
    obtain ⟨l, hl, hp⟩ := some_list P n fun i hi => h i (by omega)
    obtain ⟨x, hx⟩ := h n (by omega)
    refine ⟨l ++ [x], by simp [hl], fun i hi => ?_⟩
    by_cases h1 : i < l.length
    · rw [List.getElem_append_left h1]; exact hp i h1
    · have : i = n := by simp at hi; omega
      subst this
      rw [List.getElem_append_right (by omega)]
      simpa [hl] using hx
theorem op_sliceF {α : Type} {t te : TypeId} {k m : Nat} {c : α → List D} {ok : α → Prop} (ht : Try.prog.underlying t = some (.slice te)) (hk : Try.prog.cellsOf te = k) (hk0 : 0 < k) (he : OpF enc w m te c ok) : OpF enc w (m + 1) t (cSl k c) (okList ok) := fun b s l f cs x hf h => by
  rcases DataW.trod_slice ht h with ⟨rfl, _⟩ | ⟨a, len, cap, elems, rest, n, hn, rfl, _, hba, hlc, hcm, hel, hev, _⟩
  · exact ⟨[], repl_one (RepD.nilSeq _ _), by simp, fun x hx => by cases hx⟩
  · have get : ∀ i, i < len → ∃ v : α, (∃ cs' : List Value, cs'.length = k ∧ (∀ j u, cs'[j]? = some u → w.cell? ((a.add (i * k)).add j) = some u) ∧ RepL (memW w) (c v) cs') ∧ ok v := by
      intro i hi
      have h1 := hev i hi
      obtain ⟨y, hy⟩ : ∃ y, elems[i]? = some y := ⟨elems[i], List.getElem?_eq_getElem (by omega)⟩
      rw [hy, hk] at h1
      obtain ⟨cs', hcs', ht'⟩ := Option.bind_eq_some_iff.1 h1
      obtain ⟨hc1, hc2, hc3⟩ := World.cells?_some hcs'
      obtain ⟨v, hrep, hok⟩ := he _ _ _ n cs' y (by omega) ht'
      refine ⟨v, ⟨cs', hc2, fun j u hu => ?_, hrep⟩, hok⟩
      have hjl : j < cs'.length := (List.getElem?_eq_some_iff.1 hu).1
      have hg := hc3 j (by omega)
      rw [hg, ← hu]
    by_cases h0 : len = 0
    · subst h0
      exact ⟨[], repl_one (.seq k [] _ cap 0 0 (fun _ _ => undef) (by simp) hcm (fun h => absurd rfl h) (fun i r h => by simp at h) (fun i r j d h => by simp at h) (fun i r j d h => by simp at h)), by simp, fun x hx => by cases hx⟩
    · have hs : a.spot = none := by
        obtain ⟨v, ⟨cs', hl4, hcell, _⟩, _⟩ := get 0 (by omega)
        have := World.cell?_spot (hcell 0 _ (List.getElem?_eq_getElem (by omega)))
        simpa [Addr.add] using this
      obtain ⟨g, o, sp⟩ := a
      simp only at hs
      subst hs
      obtain ⟨l, hll, hlp⟩ := some_list _ len get
      refine ⟨l, repl_one ?_, by unfold maxLen at hcm; omega, fun x hx => ?_⟩
      · have := RepD.seq (m := memW w) k (l.map c) (some ⟨g, o, none⟩) cap g o (fun i j => (memW w g (o + i * k + j)).getD undef) (by simp; omega) hcm (fun _ => rfl) (fun i r hi => ?_) (fun i r j d hi hj => ?_) (fun i r j d hi hj => ?_)
        · rwa [List.length_map, hll] at this
        all_goals
          rw [List.getElem?_map] at hi
          have hlt : i < l.length := by
            rcases Nat.lt_or_ge i l.length with g | g
            · exact g
            · rw [List.getElem?_eq_none g] at hi; cases hi
          rw [List.getElem?_eq_getElem hlt] at hi
          injection hi with hi
          subst hi
          obtain ⟨⟨cs', h1, h2, h3⟩, _⟩ := hlp i hlt
        · have := h3.1
          omega
        all_goals
          obtain ⟨u, k1, k2⟩ := h3.2 j d hj
          have k3 := h2 j u k1
          rw [Addr.add_mid, Addr.add_mid] at k3
          have k4 : memW w g (o + i * k + j) = some u := k3
          rw [k4]
        · rfl
        · exact k2
      · obtain ⟨i, hi, rfl⟩ := List.getElem_of_mem hx
        exact (hlp i hi).2
theorem op_slice {α : Type} {t te : TypeId} {k : Nat} {c : α → List D} {ok : α → Prop} (ht : Try.prog.underlying t = some (.slice te)) (hk : Try.prog.cellsOf te = k) (hk0 : 0 < k) (he : OpT enc w te c ok) : OpT enc w t (cSl k c) (okList ok) :=
  fun b s l f cs x h => op_sliceF ht hk hk0 (he.lt f) b s l f cs x (Nat.lt_succ_self f) h
end
/-- A law that returns true, called with what came in. -/
theorem fc_law {f : FuncId} {args : List A} (h : FC Try.prog f args [] (.t (.d (.lit (.bool true))))) {w : World} {vals : Array Value} (hs : vals.size = args.length) (hsat : ∀ b p u, memW w b p = some u → w.cell? ⟨b, p, none⟩ = some u) (hr : ∀ s, RepA (memW w) w (fun _ => none) (argS args) s (argS args s) (vals.getD s undef)) (htbl : Mle TBL (memW w) := by intro b p u h; simp [TBL, TBLS] at h) :
    Calls Try.prog f vals w fun e w' => e = .returned (.bool true) ∧ Below w.heap.size w w' := by
  refine (h w (memW w) (fun _ => none) vals hsat htbl (fun _ _ h => by cases h) (fun _ _ _ h => by cases h) hs hr).mono ?_
  rintro e w' ⟨u, m', o', S', a', ρ, rfl, J, hu, _⟩
  have hS : Same (fun _ => False) w w' := J.same.weaken fun g h => h rfl
  have hu : RepD m' (.lit (.bool true)) u := hu
  cases hu
  exact ⟨rfl, hS.below⟩
theorem repl_head {m : Mem} {d : D} {cs : List Value} (h : RepL m [d] cs) : ∃ u, cs = [u] ∧ RepD m d u := by
  match cs, h.1 with
  | [u], _ =>
    obtain ⟨v, h1, h2⟩ := h.2 0 d rfl
    injection h1 with h1
    subst h1
    exact ⟨_, rfl, h2⟩
end Go.Proofs.Ytjomnccladjpgaa
