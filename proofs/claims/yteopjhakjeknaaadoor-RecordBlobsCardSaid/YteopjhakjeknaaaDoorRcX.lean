/-
  What the library's functions do: strings joined; a small number's digits.
-/
import Derived.Test.YteopjhakjeknaaaDoorApz
import Derived.Test.YteopjhakjeknaaaDoorShf
namespace Go.Proofs.YteopjhakjeknaaaDoor
open Go Go.RowKit
set_option linter.unusedVariables false
def m_strings_Join (p0 : List (List UInt8)) (p1 : List UInt8) : Option (List UInt8) := bif (decide (p0.length ≤ 1000) && decide ((Lib.join p0 p1).length ≤ 140737488355328)) then some (Lib.join p0 p1) else none
def m_strconv_Itoa (p0 : Int) : Option (List UInt8) := bif (decide (0 ≤ p0) && decide (p0 < 100)) then some (Lib.decDigits p0.toNat) else none
theorem str_of {m : Mem} {w : World} {o : OwnM} {S : Nat → A} {s : Nat} {n : ByteArray} {v : Value} (h : RepA m w o S s (.t (.d (.lit (.string n)))) v) : v = .string n := by
  have h : RepD m (.lit (.string n)) v := h
  cases h
  rfl
theorem fc_strings_Join (p0 : List (List UInt8)) (p1 : List UInt8) (r : List UInt8) (h : m_strings_Join p0 p1 = some r) : FC Tryd.prog 58 [.t (.d (.seq 1 (p0.map cStr))), .t (.d (.lit (.string ⟨⟨p1⟩⟩)))] [] (.t (.d (.lit (.string ⟨⟨r⟩⟩)))) := by
  unfold m_strings_Join at h
  cases hc : (decide (p0.length ≤ 1000) && decide ((Lib.join p0 p1).length ≤ 140737488355328)) with
  | false => rw [hc] at h; cases h
  | true =>
    rw [hc] at h
    injection h with h
    subst h
    simp only [Bool.and_eq_true, decide_eq_true_eq] at hc
    obtain ⟨hc1, hc2⟩ := hc
    intro w m o vals hsat htbl hlt hinj hsz hrep
    have h0 : RepD m (.seq 1 (p0.map cStr)) (vals.getD 0 undef) := hrep 0
    obtain ⟨A', cap, xs, e, hc, hcm, hrows, _, hm⟩ := h0.rows
    have hv := vals2 hsz e (str_of (hrep 1))
    rw [hv]
    have hl : (p0.map cStr).length = p0.length := List.length_map ..
    rw [hl] at hc ⊢
    have key : Calls Tryd.prog 58 #[.slice A' p0.length cap, .string ⟨⟨p1⟩⟩] w fun e w' => e = .returned (.string ⟨⟨Lib.join p0 p1⟩⟩) ∧ Below w.heap.size w w' := by
      by_cases hp : p0 = []
      · subst hp
        exact (shf_strings_Join_none A' cap ⟨⟨p1⟩⟩ w).mono fun e w' ⟨h1, h2⟩ => ⟨h1, h2 ▸ Below.refl _ _⟩
      · have hpos : 0 < p0.length := List.length_pos_iff.2 hp
        have hcell : ∀ (j : Nat) (x : List UInt8), p0[j]? = some x → ∃ g p, A' = some ⟨g, p, none⟩ ∧ m g (p + j) = some (.string ⟨⟨x⟩⟩) := by
          intro j x hx
          obtain ⟨u, hu, hr⟩ := hrows.2.2 j (cStr x) 0 (.lit (.string ⟨⟨x⟩⟩)) (by rw [List.getElem?_map, hx]; rfl) rfl
          rw [Nat.mul_one, Nat.add_zero] at hu
          obtain ⟨g, p, e, hmm⟩ := hm j u hu
          cases hr
          exact ⟨g, p, e, hmm⟩
        obtain ⟨g, p, rfl, _⟩ := hcell 0 p0[0] (List.getElem?_eq_getElem hpos)
        have hj := shf_strings_Join g p cap (p0.map fun x => (⟨⟨x⟩⟩ : ByteArray)) ⟨⟨p1⟩⟩ w (fun j x hx => by
          rw [List.getElem?_map] at hx
          cases hq : p0[j]? with
          | none => rw [hq] at hx; cases hx
          | some y =>
            rw [hq] at hx
            injection hx with hx
            subst hx
            obtain ⟨g', p', e, hmm⟩ := hcell j y hq
            injection e with e
            injection e with e1 e2
            subst e1 e2
            exact hsat _ _ _ hmm) (by
          obtain ⟨g', p', e, hmm⟩ := hcell 0 p0[0] (List.getElem?_eq_getElem hpos)
          injection e with e
          injection e with e1 e2
          subst e1 e2
          have := World.block_lt_of_cell? w _ (hsat _ _ _ hmm)
          simpa using this) (by rw [List.length_map]; omega) (by rw [List.length_map]; exact hc) (by
          rw [List.map_map]
          have : ((fun x : ByteArray => x.data.toList) ∘ fun x : List UInt8 => (⟨⟨x⟩⟩ : ByteArray)) = id := rfl
          rw [this, List.map_id]
          exact hc2)
        rw [List.length_map, List.map_map] at hj
        have : ((fun x : ByteArray => x.data.toList) ∘ fun x : List UInt8 => (⟨⟨x⟩⟩ : ByteArray)) = id := rfl
        rw [this, List.map_id] at hj
        exact hj
    refine key.mono ?_
    rintro e w' ⟨rfl, hb⟩
    exact ⟨_, newAll m w w', o, _, _, 0, rfl, inv_of_below hsat htbl (fun g l h => (hlt g l h).1) hinj hb, .lit _ rfl, fun i l h => by cases h⟩
theorem fc_strconv_Itoa (p0 : Int) (r : List UInt8) (h : m_strconv_Itoa p0 = some r) : FC Tryd.prog 59 [.t (.d (.lit (.int .i64 p0)))] [] (.t (.d (.lit (.string ⟨⟨r⟩⟩)))) := by
  unfold m_strconv_Itoa at h
  cases hc : (decide (0 ≤ p0) && decide (p0 < 100)) with
  | false => rw [hc] at h; cases h
  | true =>
    rw [hc] at h
    injection h with h
    subst h
    simp only [Bool.and_eq_true, decide_eq_true_eq] at hc
    obtain ⟨n, rfl⟩ := Int.eq_ofNat_of_zero_le hc.1
    refine fc_lit rfl fun w m o vals hs hrep => ?_
    have hv : vals = #[.int .i64 n] := by
      obtain ⟨l⟩ := vals
      have h0 := int_of (hrep 0)
      match l, hs with
      | [x], _ => simp at h0; rw [h0]
    rw [hv]
    exact (shf_strconv_Itoa_small n (by omega) w).mono fun e w' ⟨h1, h2⟩ => ⟨h1, h2 ▸ Below.refl _ _⟩
end Go.Proofs.YteopjhakjeknaaaDoor
