/-
  The codec, plain: which values are right, how many bytes they have, which bytes; how codec's measure goes about it.
-/
import Derived.Test.YteopjhakjeknaaaDoorPdeep
import Derived.Test.YteopjhakjeknaaaDoorBe
namespace Go.Proofs.YteopjhakjeknaaaDoor

namespace V
/-- codec's pure: the fields of its kind alone. -/
def pureB (v : V) : Bool :=
  if v.k = 1 then decide (0 ≤ v.n) && decide (v.n ≤ 4611686018427387904) && v.b.isEmpty && v.l.isEmpty
  else if v.k = 2 then decide (v.n = 0) && decide (v.b.length ≤ 1048576) && v.l.isEmpty
  else if v.k = 3 then decide (v.n = 0) && v.b.isEmpty && decide (v.l.length ≤ 4096)
  else false
/-- The document's Pure, at this value alone. -/
def flat (v : V) : Bool :=
  if v.k = 1 then decide (0 ≤ v.n) && decide (v.n ≤ 4611686018427387904) && v.b.isEmpty && v.l.isEmpty
  else if v.k = 2 then decide (v.n = 0) && v.l.isEmpty
  else decide (v.k = 3) && decide (v.n = 0) && v.b.isEmpty && decide (v.l.length ≤ 4096)
/-- The document's Pure. -/
def rpure : V → Bool
  | .mk k n b l => flat (.mk k n b l) && (if k = 3 then all l else true)
where all : List V → Bool
  | [] => true
  | x :: r => rpure x && all r
/-- How many bytes. -/
def sz : V → Nat
  | .mk k n b l => if k = 1 then 2 + wid n.toNat else if k = 2 then 4 + b.length else 3 + szs l
where szs : List V → Nat
  | [] => 0
  | x :: r => sz x + szs r
/-- The bytes. -/
def enc : V → List UInt8
  | .mk k n b l => if k = 1 then 1 :: UInt8.ofNat (wid n.toNat) :: plainB n.toNat else if k = 2 then 2 :: (be 3 b.length ++ b) else 3 :: (be 2 l.length ++ encs l)
where encs : List V → List UInt8
  | [] => []
  | x :: r => enc x ++ encs r
/-- codec's measure. -/
def mF : V → Int → Nat → Option Nat
  | .mk k n b l, room, d =>
    if pureB (.mk k n b l) = false ∨ room < 0 then none
    else if k = 1 then some (2 + wid n.toNat) else if k = 2 then some (4 + b.length)
    else if d = 0 then none else mloop l room (d - 1) 3
where mloop : List V → Int → Nat → Nat → Option Nat
  | [], _, _, s => some s
  | x :: r, room, d, s => match mF x (room - s) d with
    | none => none
    | some m => mloop r room d (s + m)

theorem all_iff : ∀ l : List V, rpure.all l = true ↔ ∀ x ∈ l, rpure x = true
  | [] => by simp [rpure.all]
  | x :: r => by simp [rpure.all, all_iff r]
theorem szs_append : ∀ a b : List V, sz.szs (a ++ b) = sz.szs a + sz.szs b
  | [], b => by simp [sz.szs]
  | x :: r, b => by simp only [List.cons_append, sz.szs, szs_append r b]; omega
theorem encs_append : ∀ a b : List V, enc.encs (a ++ b) = enc.encs a ++ enc.encs b
  | [], b => by simp [enc.encs]
  | x :: r, b => by simp only [List.cons_append, enc.encs, encs_append r b, List.append_assoc]
theorem encs_snoc (a : List V) (x : V) : enc.encs (a ++ [x]) = enc.encs a ++ enc x := by rw [encs_append]; simp [enc.encs]
theorem sz_le_szs : ∀ (l : List V) (x : V), x ∈ l → sz x ≤ sz.szs l
  | y :: r, x, h => by
    simp only [sz.szs]
    rcases List.mem_cons.1 h with rfl | h
    · omega
    · have := sz_le_szs r x h; omega

theorem flat_of_pure {v : V} (h : v.pureB = true) : v.flat = true := by
  unfold pureB at h
  unfold flat
  split
  · rw [if_pos ‹_›] at h; exact h
  · rw [if_neg ‹_›] at h
    split
    · rw [if_pos ‹_›] at h; simp at h ⊢; exact ⟨h.1.1, h.2⟩
    · rw [if_neg ‹_›] at h
      by_cases h3 : v.k = 3
      · rw [if_pos h3] at h; simp at h ⊢; exact ⟨⟨⟨h3, h.1.1⟩, h.1.2⟩, h.2⟩
      · rw [if_neg h3] at h; cases h
theorem pure_of_flat {v : V} (h : v.flat = true) (hb : v.b.length ≤ 1048576) : v.pureB = true := by
  unfold flat at h
  unfold pureB
  split
  · rw [if_pos ‹_›] at h; exact h
  · rw [if_neg ‹_›] at h
    split
    · rw [if_pos ‹_›] at h; simp at h ⊢; exact ⟨⟨h.1, hb⟩, h.2⟩
    · rw [if_neg ‹_›] at h; simp at h; rw [if_pos h.1.1.1]; simp; exact ⟨⟨h.1.1.2, h.1.2⟩, h.2⟩

/-- What measure answers is true of the value. -/
theorem mF_sound : ∀ (d : Nat) (v : V) (room : Int) (s : Nat), mF v room d = some s → s = sz v ∧ rpure v = true ∧ deep v ≤ d
  | d, .mk k n b l, room, s => by
    intro h
    rw [mF] at h
    split at h
    · cases h
    · rename_i hc
      have hp : pureB (.mk k n b l) = true := by
        cases hh : pureB (.mk k n b l)
        · exact absurd (Or.inl hh) hc
        · rfl
      have hf := flat_of_pure hp
      by_cases h1 : k = 1
      · rw [if_pos h1] at h
        have h3 : ¬ k = 3 := by omega
        refine ⟨by rw [sz, if_pos h1]; exact (Option.some.inj h).symm, by rw [rpure, hf, if_neg h3]; rfl, by rw [deep, if_neg h3]; omega⟩
      · rw [if_neg h1] at h
        by_cases h2 : k = 2
        · rw [if_pos h2] at h
          have h3 : ¬ k = 3 := by omega
          refine ⟨by rw [sz, if_neg h1, if_pos h2]; exact (Option.some.inj h).symm, by rw [rpure, hf, if_neg h3]; rfl, by rw [deep, if_neg h3]; omega⟩
        · rw [if_neg h2] at h
          have h3 : k = 3 := by
            unfold flat at hf
            rw [if_neg (show ¬ (V.mk k n b l).k = 1 from h1), if_neg (show ¬ (V.mk k n b l).k = 2 from h2)] at hf
            simp at hf
            exact hf.1.1.1
          split at h
          · cases h
          · obtain ⟨a1, a2, a3⟩ := mloop_sound (d - 1) l room 3 s 1 h (by omega)
            refine ⟨by rw [sz, if_neg h1, if_neg h2, a1], by rw [rpure, hf, if_pos h3, a2]; rfl, ?_⟩
            rw [deep, if_pos h3]
            omega
where
  mloop_sound : ∀ (d : Nat) (l : List V) (room : Int) (a s e : Nat), mF.mloop l room d a = some s → e ≤ d + 1 → s = a + sz.szs l ∧ rpure.all l = true ∧ deep.dm l e ≤ d + 1
    | d, [], room, a, s, e => by
      intro h he
      rw [mF.mloop] at h
      exact ⟨by rw [sz.szs]; exact (Option.some.inj h).symm, rfl, he⟩
    | d, x :: r, room, a, s, e => by
      intro h he
      rw [mF.mloop] at h
      cases hm : mF x (room - a) d with
      | none => rw [hm] at h; cases h
      | some m =>
        rw [hm] at h
        obtain ⟨b1, b2, b3⟩ := mF_sound d x (room - a) m hm
        obtain ⟨c1, c2, c3⟩ := mloop_sound d r room (a + m) s (max e (deep x + 1)) h (by omega)
        exact ⟨by rw [c1, b1, sz.szs]; omega, by rw [rpure.all, b2, c2]; rfl, by rw [deep.dm]; exact c3⟩

theorem flat_kind {v : V} (h : v.flat = true) (h1 : ¬ v.k = 1) (h2 : ¬ v.k = 2) : v.k = 3 ∧ v.n = 0 ∧ v.b = [] ∧ v.l.length ≤ 4096 := by
  unfold flat at h
  rw [if_neg h1, if_neg h2] at h
  simp at h
  exact ⟨h.1.1.1, h.1.1.2, h.1.2, h.2⟩

/-- A right value is measured. -/
theorem mF_full : ∀ (d : Nat) (v : V) (room : Int), rpure v = true → deep v ≤ d → (sz v : Int) ≤ room → room ≤ 1048576 → mF v room d = some (sz v)
  | d, .mk k n b l, room => by
    intro hp hd hs hr
    rw [rpure, Bool.and_eq_true] at hp
    obtain ⟨hf, hall⟩ := hp
    have hb : b.length ≤ 1048576 := by
      by_cases h1 : k = 1
      · unfold flat at hf
        rw [if_pos (show (V.mk k n b l).k = 1 from h1)] at hf
        simp at hf
        have : b = [] := hf.1.2
        subst this
        simp
      · by_cases h2 : k = 2
        · rw [sz, if_neg h1, if_pos h2] at hs
          omega
        · have := (flat_kind hf h1 h2).2.2.1
          have : b = [] := this
          subst this
          simp
    have hpu := pure_of_flat hf hb
    rw [mF, if_neg (by rw [hpu]; simp; omega)]
    by_cases h1 : k = 1
    · rw [if_pos h1, sz, if_pos h1]
    · rw [if_neg h1]
      by_cases h2 : k = 2
      · rw [if_pos h2, sz, if_neg h1, if_pos h2]
      · rw [if_neg h2]
        have h3 : k = 3 := (flat_kind hf h1 h2).1
        rw [if_pos h3] at hall
        have hdd := hd
        rw [deep, if_pos h3] at hdd
        have h1d := dm_ge l 1
        rw [if_neg (by omega)]
        have hs' := hs
        rw [sz, if_neg h1, if_neg h2] at hs'
        have := mloop_full (d - 1) l room 3 1 hall (by omega) (by omega) hr
        rw [this, sz, if_neg h1, if_neg h2]
where
  dm_ge : ∀ (l : List V) (e : Nat), e ≤ deep.dm l e
    | [], _ => Nat.le_refl _
    | x :: r, e => Nat.le_trans (Nat.le_max_left _ _) (by rw [deep.dm]; exact dm_ge r _)
  mloop_full : ∀ (d : Nat) (l : List V) (room : Int) (a e : Nat), rpure.all l = true → deep.dm l e ≤ d + 1 → ((a + sz.szs l : Nat) : Int) ≤ room → room ≤ 1048576 → mF.mloop l room d a = some (a + sz.szs l)
    | d, [], room, a, e => by intro _ _ _ _; rw [mF.mloop, sz.szs]; rfl
    | d, x :: r, room, a, e => by
      intro hall hdm hs hr
      rw [rpure.all, Bool.and_eq_true] at hall
      rw [deep.dm] at hdm
      rw [sz.szs] at hs
      have hx : deep x ≤ d := by
        have := dm_ge r (max e (deep x + 1))
        omega
      have h1 := mF_full d x (room - a) hall.1 hx (by omega) (by omega)
      rw [mF.mloop, h1]
      have h2 := mloop_full d r room (a + sz x) (max e (deep x + 1)) hall.2 hdm (by omega) hr
      show mF.mloop r room d (a + sz x) = _
      rw [h2, sz.szs]
      congr 1
      omega

/-- Right, as the document says. -/
def right (v : V) : Bool := rpure v && decide (deep v ≤ 16) && decide (sz v ≤ 1048576)
/-- codec's Size. -/
def sizeF (v : V) : Option Nat := match mF v 1048576 16 with
  | some s => if s ≤ 1048576 then some s else none
  | none => none
theorem sizeF_eq (v : V) : sizeF v = if right v = true then some (sz v) else none := by
  by_cases h : right v = true
  · rw [if_pos h]
    unfold right at h
    simp at h
    have := mF_full 16 v 1048576 h.1.1 h.1.2 (by omega) (by omega)
    rw [sizeF, this]
    simp [h.2]
  · rw [if_neg h]
    unfold sizeF
    cases hm : mF v 1048576 16 with
    | none => rfl
    | some s =>
      obtain ⟨a, b, c⟩ := mF_sound 16 v 1048576 s hm
      show (if s ≤ 1048576 then some s else none) = none
      rw [if_neg]
      intro hle
      apply h
      unfold right
      simp [b, c]
      omega

theorem enc_length : ∀ v : V, (enc v).length = sz v
  | .mk k n b l => by
    rw [enc, sz]
    split
    · simp [plainB_length]; omega
    · split
      · simp [be_length]; omega
      · simp [be_length, encs_length l]; omega
where
  encs_length : ∀ l : List V, (enc.encs l).length = sz.szs l
    | [] => rfl
    | x :: r => by rw [enc.encs, sz.szs, List.length_append, enc_length x, encs_length r]
/-- The size is within ten times what the value holds. -/
theorem sz_le : ∀ v : V, v.flat = true → rpure v = true → sz v ≤ 10 * v.wt
  | .mk k n b l => by
    intro hf hp
    rw [wt_eq, sz]
    split
    · rename_i h1
      unfold flat at hf
      rw [if_pos (show (V.mk k n b l).k = 1 from h1)] at hf
      simp at hf
      have h2 : n.toNat ≤ 4611686018427387904 := by have : n ≤ 4611686018427387904 := hf.1.1.2; omega
      have := wid_le8 h2
      omega
    · split
      · have : (V.mk k n b l).b = b := rfl
        rw [this]
        omega
      · rename_i h1 h2
        have h3 : k = 3 := (flat_kind hf h1 h2).1
        rw [rpure, Bool.and_eq_true, if_pos h3] at hp
        have := szs_le l hp.2
        have : (V.mk k n b l).l = l := rfl
        rw [this]
        omega
where
  szs_le : ∀ l : List V, rpure.all l = true → sz.szs l ≤ 10 * wt.wts l
    | [], _ => Nat.le_refl _
    | .mk k n b l :: r, h => by
      rw [rpure.all, Bool.and_eq_true] at h
      have h1 : (V.mk k n b l).flat = true := by
        have := h.1
        rw [rpure, Bool.and_eq_true] at this
        exact this.1
      have h2 := sz_le (.mk k n b l) h1 h.1
      have h3 := szs_le r h.2
      rw [sz.szs, wt.wts]
      omega
theorem rpure_flat {v : V} (h : rpure v = true) : v.flat = true := by
  cases v
  rw [rpure, Bool.and_eq_true] at h
  exact h.1
theorem rpure_items {v : V} (h : rpure v = true) (hk : v.k = 3) : ∀ x ∈ v.l, rpure x = true := by
  cases v with
  | mk k n b l =>
    rw [rpure, Bool.and_eq_true, if_pos (show k = 3 from hk)] at h
    exact (all_iff l).1 h.2
theorem mF_eq (v : V) (room : Int) (d : Nat) : mF v room d = if pureB v = false ∨ room < 0 then none else if v.k = 1 then some (2 + wid v.n.toNat) else if v.k = 2 then some (4 + v.b.length)
    else if d = 0 then none else mF.mloop v.l room (d - 1) 3 := by
  cases v
  rw [mF]
  rfl
theorem enc_eq (v : V) : enc v = if v.k = 1 then 1 :: UInt8.ofNat (wid v.n.toNat) :: plainB v.n.toNat else if v.k = 2 then 2 :: (be 3 v.b.length ++ v.b) else 3 :: (be 2 v.l.length ++ enc.encs v.l) := by
  cases v
  rw [enc]
  rfl
theorem rpure_eq (v : V) : rpure v = (flat v && (if v.k = 3 then rpure.all v.l else true)) := by
  cases v
  rw [rpure]
  rfl
end V
end Go.Proofs.YteopjhakjeknaaaDoor
