/-
  From contracts that name memory to contracts over data.
-/
import Derived.Test.YteopjhakjeknaaaDoorBase
import Derived.Test.YteopjhakjeknaaaDoorGiv
namespace Go.Proofs.YteopjhakjeknaaaDoor
open Go Go.RowKit
set_option linter.unusedVariables false

/-- What is known, and the new blocks as they stand. -/
def newAll (m : Mem) (w w' : World) : Mem := fun b p => if b < w.heap.size then m b p else w'.cell? ⟨b, p, none⟩
theorem inv_of_below {w w' : World} {m : Mem} {o : OwnM} {pins : List Nat} (hsat : ∀ b p u, m b p = some u → w.cell? ⟨b, p, none⟩ = some u) (htbl : Mle TBL m) (hlt : ∀ g l, o g = some l → g < w.heap.size) (hinj : ∀ g g' l, o g = some l → o g' = some l → g = g') (hb : Below w.heap.size w w') :
    Inv w m o (fun g => o g ≠ none) pins (fun _ => .any) { tmps := #[], defers := [] } w' (newAll m w w') o := by
  have hlow : ∀ b p u, m b p = some u → b < w.heap.size := fun b p u h => by
    have := World.block_lt_of_cell? w _ (hsat b p u h)
    simpa using this
  refine ⟨Same.of_below hb, fun b p u h => ?_, fun b p u h => ?_, fun b hb' _ => ?_, fun g l h => .inl (by rw [h]; simp), fun g l h => Nat.lt_of_lt_of_le (hlt g l h) hb.size, hinj, fun s _ g hg => hg, fun s => trivial, rfl, htbl, Nat.zero_le _⟩
  · unfold newAll at h
    split at h
    · rename_i hlt
      rw [hb.cell (p := ⟨b, p, none⟩) hlt]
      exact hsat b p u h
    · exact h
  · unfold newAll
    rw [if_pos (hlow b p u h)]
    exact h
  · funext p
    unfold newAll
    rw [if_pos hb']

theorem seq_of_new {w w' : World} {m : Mem} {A' : Option Addr} {bs : List UInt8} {c : Nat} (h : New w w' A' bs) (hc : bs.length ≤ c ∧ c ≤ maxLen) : RepD (newAll m w w') (.seq 1 (bytesD bs)) (.slice A' bs.length c) := by
  have hl : (bytesD bs).length = bs.length := bytesD_length bs
  have key : ∀ A0 : Option Addr, (bytesD bs ≠ [] → ∃ g p, A0 = some ⟨g, p, none⟩ ∧ w.heap.size ≤ g ∧ ∀ i (hi : i < bs.length), w'.cell? ⟨g, p + i, none⟩ = some (.int .u8 (bs[i].toNat : Int))) → RepD (newAll m w w') (.seq 1 (bytesD bs)) (.slice A0 (bytesD bs).length c) := by
    intro A0 hA0
    by_cases he : bytesD bs = []
    · rw [he]
      exact .seq 1 [] A0 c 0 0 (fun _ _ => undef) (by simp) hc.2 (fun h => absurd rfl h) (fun i r h => by simp at h) (fun i r j d h => by simp at h) (fun i r j d h => by simp at h)
    · obtain ⟨g, p, e, hg, hcell⟩ := hA0 he
      have hb : ∀ (i : Nat) (r : List D), (bytesD bs)[i]? = some r → ∃ hi : i < bs.length, r = [D.lit (.int .u8 (bs[i].toNat : Int))] := by
        intro i r hi
        have hlt : i < bs.length := by rw [← hl]; exact (List.getElem?_eq_some_iff.1 hi).1
        refine ⟨hlt, ?_⟩
        unfold bytesD at hi
        rw [List.getElem?_map, List.getElem?_eq_getElem hlt] at hi
        injection hi with hi
        exact hi.symm
      refine .seq 1 _ A0 c g p (fun i _ => if h : i < bs.length then .int .u8 (bs[i].toNat : Int) else undef) (by rw [hl]; exact hc.1) hc.2 (fun _ => e) (fun i r hi => ?_) (fun i r j d hi hj => ?_) (fun i r j d hi hj => ?_)
      · obtain ⟨_, rfl⟩ := hb i r hi
        rfl
      · obtain ⟨hlt, rfl⟩ := hb i r hi
        cases j with
        | succ j => simp at hj
        | zero =>
          unfold newAll
          rw [if_neg (by omega), Nat.mul_one, Nat.add_zero, hcell i hlt]
          simp [hlt]
      · obtain ⟨hlt, rfl⟩ := hb i r hi
        cases j with
        | succ j => simp at hj
        | zero =>
          injection hj with hj
          subst hj
          simp only [hlt, dif_pos]
          exact .lit _ rfl
  rw [← hl]
  refine key A' fun hne => ?_
  have hpos : 0 < bs.length := by rw [← hl]; exact List.length_pos_iff.2 hne
  obtain ⟨ad, e, hc0⟩ := h.1.at_ (j := 0) hpos
  have hs : ad.spot = none := by
    have := World.cell?_spot hc0
    simpa [Addr.add] using this
  obtain ⟨g, p, sp⟩ := ad
  simp only at hs
  subst hs
  refine ⟨g, p, e, h.2 _ e, fun i hi => ?_⟩
  obtain ⟨ad', e', hci⟩ := h.1.at_ (j := i) hi
  rw [e] at e'
  injection e' with e'
  subst e'
  rwa [Addr.add_mid] at hci

theorem fc_bytes_err {f : FuncId} {args : List A} {bs : List UInt8} {er : Int} (h : ∀ (w : World) (m : Mem) (o : OwnM) (vals : Array Value), vals.size = args.length → (∀ s, RepA m w o (argS args) s (argS args s) (vals.getD s undef)) → Calls Tryd.prog f vals w (GivesBE bs er w)) : FC Tryd.prog f args [] (.tup [.d (.seq 1 (bytesD bs)), .d (.lit (.int .i64 er))]) := by
  intro w m o vals hsat htbl hlt hinj hsz hrep
  refine (h w m o vals hsz hrep).mono ?_
  rintro e w' ⟨A', c, rfl, hnew, hc, hb⟩
  refine ⟨_, newAll m w w', o, _, _, 0, rfl, inv_of_below hsat htbl (fun g l h => (hlt g l h).1) hinj hb, ⟨_, rfl, rfl, fun j x hj => ?_⟩, fun i l h => by cases h⟩
  match j, hj with
  | 0, hj => injection hj with hj; subst hj; exact ⟨_, rfl, seq_of_new hnew hc⟩
  | 1, hj => injection hj with hj; subst hj; exact ⟨_, rfl, .lit _ rfl⟩
  | j + 2, hj => simp at hj
theorem fc_lit {f : FuncId} {args : List A} {u : Value} (hu : u.oneCell' = true) (h : ∀ (w : World) (m : Mem) (o : OwnM) (vals : Array Value), vals.size = args.length → (∀ s, RepA m w o (argS args) s (argS args s) (vals.getD s undef)) → Calls Tryd.prog f vals w fun e w' => e = .returned u ∧ Below w.heap.size w w') : FC Tryd.prog f args [] (.t (.d (.lit u))) := by
  intro w m o vals hsat htbl hlt hinj hsz hrep
  refine (h w m o vals hsz hrep).mono ?_
  rintro e w' ⟨rfl, hb⟩
  exact ⟨_, newAll m w w', o, _, _, 0, rfl, inv_of_below hsat htbl (fun g l h => (hlt g l h).1) hinj hb, .lit u hu, fun i l h => by cases h⟩
theorem vals2 {x y : Value} {vals : Array Value} (hs : vals.size = 2) (h0 : vals.getD 0 undef = x) (h1 : vals.getD 1 undef = y) : vals = #[x, y] := by
  obtain ⟨l⟩ := vals
  match l, hs with
  | [p, q], _ => simp at h0 h1; rw [h0, h1]
theorem int_of {m : Mem} {w : World} {o : OwnM} {S : Nat → A} {s : Nat} {n : Int} {v : Value} (h : RepA m w o S s (intA n) v) : v = .int .i64 n := by
  have h : RepD m (.lit (.int .i64 n)) v := h
  cases h
  rfl
end Go.Proofs.YteopjhakjeknaaaDoor
