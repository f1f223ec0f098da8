/-
  What the models of codec compute, plain: decoding.
-/
import Derived.Test.YteopjhakjeknaaaDoorCbN
import Derived.Test.YteopjhakjeknaaaDoorPdec
namespace Go.Proofs.YteopjhakjeknaaaDoor
open Go Go.RowKit
set_option linter.unusedVariables false
set_option linter.unusedSimpArgs false

/-! ### Numbers of bytes -/
def getN (b : List UInt8) : Int := if b.length = 0 ∨ 8 < b.length ∨ 4611686018427387904 < ofBE b then 0 else ofBE b
def getE (b : List UInt8) : Int := if b.length = 0 then 10 else if 8 < b.length then 2 else if 4611686018427387904 < ofBE b then 11 else 0
theorem n_Get_l2 (b : List UInt8) (hb : b.length ≤ 8) : ∀ (n i : Nat), i ≤ b.length → b.length - i < n → m_word_Get_l2 b n ((ofBE (b.take i) : Nat) : Int) (i : Int) = m_word_Get_j1 ((ofBE b : Nat) : Int)
  | 0, i, _, h => by omega
  | n + 1, i, hi, h => by
    unfold m_word_Get_l2
    by_cases hlt : i < b.length
    · have hsm : ofBE (b.take i) < 72057594037927936 := by
        have h := ofBE_lt i (b.take i) (by simp; omega)
        have : 256 ^ i ≤ 256 ^ 7 := Nat.pow_le_pow_right (by omega) (by omega)
        omega
      have ht : ofBE (b.take (i + 1)) = ofBE (b.take i) * 256 + b[i].toNat := by rw [← List.take_append_getElem hlt, ofBE_snoc]
      rw [bif_pos (dec_t (by omega)), idx_nat hlt, Option.bind_some, get_step _ _ hsm b[i].toNat_lt, ← ht, wi_succ (by omega)]
      exact n_Get_l2 b hb n (i + 1) (by omega) (by omega)
    · rw [bif_neg (dec_f (by omega)), List.take_of_length_le (by omega)]
theorem n_Get (b : List UInt8) : m_word_Get b = some (getN b, getE b) := by
  unfold m_word_Get getN getE
  by_cases h0 : b.length = 0
  · rw [bif_pos (ieq_t (by omega)), if_pos (.inl h0), if_pos h0]
  · rw [bif_neg (ieq_f (by omega)), if_neg h0]
    by_cases h8 : 8 < b.length
    · rw [bif_pos (dec_t (by omega)), if_pos (.inr (.inl h8)), if_pos h8]
    · rw [bif_neg (dec_f (by omega)), if_neg h8]
      have := n_Get_l2 b (by omega) (b.length + 1) 0 (Nat.zero_le _) (by omega)
      have h : m_word_Get_l2 b (b.length + 1) 0 0 = m_word_Get_j1 ((ofBE b : Nat) : Int) := this
      rw [h]
      unfold m_word_Get_j1
      by_cases hb : 4611686018427387904 < ofBE b
      · rw [bif_pos (dec_t (by omega)), if_pos (.inr (.inr hb)), if_pos hb]
      · rw [bif_neg (dec_f (by omega)), if_neg (by omega), if_neg hb, wi_id (by omega) (by omega)]

/-! ### The reader -/
theorem n_take_ok {b : List UInt8} {n : Nat} (h : n ≤ b.length) : m_codec_reader_take ⟨b, 0⟩ (n : Int) = some (b.take n, ⟨b.drop n, 0⟩) := by
  unfold m_codec_reader_take
  rw [bif_pos (ieq_t rfl), bif_neg (dec_f (by show ¬ (n : Int) > (b.length : Int); omega))]
  unfold m_codec_reader_take_j1
  show (bif ((0 : Int) != 0) then _ else _) = _
  rw [bif_neg (ine_f rfl)]
  show Option.bind (cutI b 0 (n : Int)) _ = _
  rw [cutI_take h, Option.bind_some]
  show Option.bind (cutI b (n : Int) (b.length : Int)) _ = _
  rw [cutI_drop h]
  rfl
theorem n_take_end {b : List UInt8} {n : Nat} (h : b.length < n) : m_codec_reader_take ⟨b, 0⟩ (n : Int) = some ([], ⟨b, 10⟩) := by
  unfold m_codec_reader_take
  rw [bif_pos (ieq_t rfl), bif_pos (dec_t (by show (n : Int) > (b.length : Int); omega))]
  rfl
theorem n_take_bad {b : List UInt8} {e n : Int} (h : e ≠ 0) : m_codec_reader_take ⟨b, e⟩ n = some ([], ⟨b, e⟩) := by
  unfold m_codec_reader_take
  rw [bif_neg (ieq_f h)]
  unfold m_codec_reader_take_j1
  rw [bif_pos (ine_t h)]
theorem getN_nil : getN [] = 0 := rfl
theorem getN_small {b : List UInt8} (h : 0 < b.length) (h3 : b.length ≤ 3) : getN b = ofBE b := by
  have := ofBE_lt b.length b rfl
  have : 256 ^ b.length ≤ 256 ^ 3 := Nat.pow_le_pow_right (by omega) h3
  unfold getN
  rw [if_neg (by omega)]
theorem n_count_ok {b : List UInt8} {n : Nat} (h : n ≤ b.length) (h0 : 0 < n) (h3 : n ≤ 3) : m_codec_reader_count ⟨b, 0⟩ (n : Int) = some ((ofBE (b.take n) : Int), ⟨b.drop n, 0⟩) := by
  unfold m_codec_reader_count
  rw [n_take_ok h, Option.bind_some, n_Get, Option.bind_some, getN_small (by simp; omega) (by simp; omega)]
theorem n_count_end {b : List UInt8} {n : Nat} (h : b.length < n) : m_codec_reader_count ⟨b, 0⟩ (n : Int) = some (0, ⟨b, 10⟩) := by
  unfold m_codec_reader_count
  rw [n_take_end h, Option.bind_some, n_Get, Option.bind_some, getN_nil]
theorem n_fail (b : List UInt8) : m_codec_reader_fail ⟨b, 0⟩ = some ⟨b, 11⟩ := rfl
theorem n_fail_bad {b : List UInt8} {e : Int} (h : e ≠ 0) : m_codec_reader_fail ⟨b, e⟩ = some ⟨b, e⟩ := by
  unfold m_codec_reader_fail
  rw [bif_neg (ieq_f h)]

theorem n_take_okZ {b : List UInt8} (z : Int) {n : Nat} (hz : z = n) (h : n ≤ b.length) : m_codec_reader_take ⟨b, 0⟩ z = some (b.take n, ⟨b.drop n, 0⟩) := by rw [hz, n_take_ok h]
theorem n_take_endZ {b : List UInt8} (z : Int) {n : Nat} (hz : z = n) (h : b.length < n) : m_codec_reader_take ⟨b, 0⟩ z = some ([], ⟨b, 10⟩) := by rw [hz, n_take_end h]
theorem n_count_okZ {b : List UInt8} (z : Int) {n : Nat} (hz : z = n) (h : n ≤ b.length) (h0 : 0 < n) (h3 : n ≤ 3) : m_codec_reader_count ⟨b, 0⟩ z = some ((ofBE (b.take n) : Int), ⟨b.drop n, 0⟩) := by rw [hz, n_count_ok h h0 h3]
theorem n_count_endZ {b : List UInt8} (z : Int) {n : Nat} (hz : z = n) (h : b.length < n) : m_codec_reader_count ⟨b, 0⟩ z = some (0, ⟨b, 10⟩) := by rw [hz, n_count_end h]
/-- What a reader gives is what is told. -/
def Gives (x : Option (V × S_codec_reader)) (y : Except Int (V × List UInt8)) : Prop := match y with
  | .ok (v, r) => x = some (v, ⟨r, 0⟩)
  | .error e => e ≠ 0 ∧ ∃ v r, x = some (v, ⟨r, e⟩)
theorem gives_err {x : Option (V × S_codec_reader)} {e : Int} (he : e ≠ 0) (h : ∃ v r, x = some (v, ⟨r, e⟩)) : Gives x (.error e) := ⟨he, h⟩
theorem number_bad {x1 : Int × S_codec_reader} {b : List UInt8} {e : Int} (h : e ≠ 0) : m_codec_reader_number_j1 x1 b e = some (.mk 1 0 [] [], ⟨b, e⟩) := by
  unfold m_codec_reader_number_j1
  rw [n_take_bad h, Option.bind_some]
  rfl
theorem n_number (b : List UInt8) : Gives (m_codec_reader_number ⟨b, 0⟩) (pvN b) := by
  unfold m_codec_reader_number
  cases b with
  | nil =>
    rw [n_count_endZ (b := []) 1 (n := 1) rfl (by simp), Option.bind_some, pvN_nil]
    refine gives_err (by decide) ⟨.mk 1 0 [] [], [], ?_⟩
    rw [bif_neg (dec_f (by show ¬ (0 : Int) > 8; decide))]
    exact number_bad (by decide)
  | cons c r =>
    rw [n_count_okZ (b := c :: r) 1 (n := 1) rfl (by simp) (by omega) (by omega), Option.bind_some]
    have h1 : ofBE ((c :: r).take 1) = c.toNat := by simp [ofBE]
    have h2 : (c :: r).drop 1 = r := rfl
    rw [h1, h2, pvN_cons]
    by_cases h8 : 8 < c.toNat
    · rw [if_pos h8]
      refine gives_err (by decide) ⟨.mk 1 0 [] [], r, ?_⟩
      rw [bif_pos (dec_t (by show (c.toNat : Int) > 8; omega))]
      show Option.bind (m_codec_reader_fail ⟨r, 0⟩) _ = _
      rw [n_fail, Option.bind_some]
      exact number_bad (e := 11) (by decide)
    · rw [if_neg h8, bif_neg (dec_f (by show ¬ (c.toNat : Int) > 8; omega))]
      show Gives (m_codec_reader_number_j1 ((c.toNat : Int), ⟨r, 0⟩) r 0) _
      unfold m_codec_reader_number_j1
      show Gives (Option.bind (m_codec_reader_take ⟨r, 0⟩ (c.toNat : Int)) _) _
      by_cases hl : r.length < c.toNat
      · rw [if_pos hl, n_take_end hl, Option.bind_some]
        exact gives_err (by decide) ⟨.mk 1 0 [] [], r, rfl⟩
      · rw [if_neg hl, n_take_ok (by omega), Option.bind_some]
        by_cases h0 : c.toNat = 0
        · rw [if_pos h0, h0]
          rfl
        · rw [if_neg h0]
          have hlen : (r.take c.toNat).length = c.toNat := by simp; omega
          rw [bif_neg (ieq_f (by show ((r.take c.toNat).length : Int) ≠ 0; rw [hlen]; omega))]
          show Gives (Option.bind (m_word_Get (r.take c.toNat)) _) _
          rw [n_Get, Option.bind_some]
          unfold getN getE
          rw [hlen, if_neg (show ¬ c.toNat = 0 from h0), if_neg h8]
          by_cases hb : 4611686018427387904 < ofBE (r.take c.toNat)
          · rw [if_pos (show c.toNat = 0 ∨ 8 < c.toNat ∨ 4611686018427387904 < ofBE (r.take c.toNat) from .inr (.inr hb)), if_pos hb, if_pos (.inl hb)]
            refine gives_err (by decide) ⟨.mk 1 0 [] [], r.drop c.toNat, ?_⟩
            rfl
          · rw [if_neg (show ¬ (c.toNat = 0 ∨ 8 < c.toNat ∨ 4611686018427387904 < ofBE (r.take c.toNat)) by omega), if_neg hb]
            obtain ⟨x, y, hxy⟩ : ∃ x y, r.take c.toNat = x :: y := by
              cases ht : r.take c.toNat with
              | nil => rw [ht] at hlen; simp at hlen; omega
              | cons x y => exact ⟨x, y, rfl⟩
            have hx : r.head? = some x := by
              cases r with
              | nil => simp at hxy
              | cons z w =>
                cases hcn : c.toNat with
                | zero => omega
                | succ j => rw [hcn] at hxy; simp at hxy; simp [hxy.1]
            rw [hx]
            rw [bif_neg (ine_f rfl)]
            show Gives (Option.bind (idx (r.take c.toNat) 0) _) _
            rw [hxy, idx_zero, Option.bind_some, ← hxy]
            by_cases hz : x = 0
            · subst hz
              rw [if_pos (.inr rfl), bif_pos (ieq_t (a := ((0 : UInt8).toNat : Int)) (b := 0) rfl)]
              exact gives_err (by decide) ⟨_, _, rfl⟩
            · rw [if_neg (by simp [hb, hz]), bif_neg (ieq_f (fun e => hz (UInt8.toNat_inj.1 (by rw [show (0 : UInt8).toNat = 0 from rfl]; omega))))]
              rfl
theorem loop_bad {x19 : Int × S_codec_reader} {self : S_codec_reader → Int → Option (V × S_codec_reader)} {p1 : Int} {x23 : V} {n : Nat} {b : List UInt8} {e : Int} {l : List V} {i : Int} (h : e ≠ 0) : m_codec_reader_value_l2 x19 self p1 x23 (n + 1) b e l i = some (.mk x23.k x23.n [] l, ⟨b, e⟩) := by
  unfold m_codec_reader_value_l2
  rw [bif_neg (c := e == 0) (ieq_f h)]
  cases decide (i < x19.1) <;> rfl
theorem n_value_l2 (N : Nat) (hN : N ≤ 65536) (q : S_codec_reader) (f : List UInt8 → Except Int (V × List UInt8)) (self : S_codec_reader → Int → Option (V × S_codec_reader)) (d : Nat) (hd : d ≤ 1000) (hself : ∀ b, Gives (self ⟨b, 0⟩ (d : Int)) (f b)) :
    ∀ (n i : Nat) (b : List UInt8) (l : List V), i ≤ N → N - i < n → l.length = i → Gives (m_codec_reader_value_l2 ((N : Int), q) self ((d + 1 : Nat) : Int) (.mk 3 0 [] []) n b 0 l (i : Int)) (match pvI f (N - i) b with | .error e => .error e | .ok (l', r) => .ok (.mk 3 0 [] (l ++ l'), r))
  | 0, i, b, l, _, h, _ => by omega
  | n + 1, i, b, l, hi, h, hl => by
    unfold m_codec_reader_value_l2
    by_cases hlt : i < N
    · rw [bif_pos (dec_t (by show (i : Int) < (N : Int); omega)), bif_pos (ieq_t rfl), wi_id (by omega) (by omega), show ((d + 1 : Nat) : Int) - 1 = (d : Int) by omega]
      obtain ⟨j, hj⟩ : ∃ j, N - i = j + 1 := ⟨N - i - 1, by omega⟩
      have hs := hself b
      rw [hj, pvI]
      cases hf : f b with
      | error e =>
        rw [hf] at hs
        obtain ⟨he, v, r, hs⟩ := hs
        rw [hs, Option.bind_some]
        refine ⟨he, ?_⟩
        rw [appI_ok (by simp; omega), Option.bind_some]
        obtain ⟨n', rfl⟩ : ∃ n', n = n' + 1 := ⟨n - 1, by omega⟩
        exact ⟨_, _, loop_bad he⟩
      | ok vr =>
        obtain ⟨v, r⟩ := vr
        rw [hf] at hs
        have hs : self ⟨b, 0⟩ (d : Int) = some (v, ⟨r, 0⟩) := hs
        rw [hs, Option.bind_some]
        rw [appI_ok (by simp; omega), Option.bind_some, wi_succ (by omega)]
        have ih := n_value_l2 N hN q f self d hd hself n (i + 1) r (l ++ [v]) (by omega) (by omega) (by simp [hl])
        rw [show N - (i + 1) = j by omega] at ih
        show Gives (m_codec_reader_value_l2 ((N : Int), q) self ((d + 1 : Nat) : Int) (.mk 3 0 [] []) n r 0 (l ++ [v]) ((i + 1 : Nat) : Int)) _
        show Gives _ (match (match pvI f j r with | .error e => (.error e : Except Int (List V × List UInt8)) | .ok (l', r') => .ok (v :: l', r')) with | .error e => .error e | .ok (l', r') => .ok (.mk 3 0 [] (l ++ l'), r'))
        generalize pvI f j r = z at ih ⊢
        cases z with
        | error e => exact ih
        | ok lr =>
          obtain ⟨l', r'⟩ := lr
          have ih : m_codec_reader_value_l2 _ _ _ _ _ _ _ _ _ = _ := ih
          show m_codec_reader_value_l2 _ _ _ _ _ _ _ _ _ = _
          rw [ih, List.append_assoc]
          rfl
    · rw [bif_neg (dec_f (by show ¬ (i : Int) < (N : Int); omega)), show N - i = 0 by omega, pvI]
      show some _ = some _
      rw [List.append_nil]
      rfl
theorem n_value_num (b : List UInt8) : Gives (Option.bind (m_codec_reader_number ⟨b, 0⟩) fun x7 => some ((V.mk x7.1.k x7.1.n [] []), x7.2)) (pvN b) := by
  have h := n_number b
  cases hp : pvN b with
  | error e =>
    rw [hp] at h
    obtain ⟨he, v, r, h⟩ := h
    rw [h]
    exact ⟨he, _, _, rfl⟩
  | ok vr =>
    obtain ⟨v, r⟩ := vr
    rw [hp] at h
    have h : m_codec_reader_number ⟨b, 0⟩ = some (v, ⟨r, 0⟩) := h
    rw [h]
    have : v.b = [] ∧ v.l = [] := by
      unfold pvN at hp
      split at hp
      · cases hp
      split at hp
      · cases hp
      split at hp
      · cases hp
      split at hp
      · injection hp with hp; injection hp with h1 _; subst h1; exact ⟨rfl, rfl⟩
      split at hp
      · cases hp
      · injection hp with hp; injection hp with h1 _; subst h1; exact ⟨rfl, rfl⟩
    have e := V.eta v
    rw [this.1, this.2] at e
    show some (V.mk v.k v.n [] [], _) = _
    rw [e]
theorem n_value_raw (b : List UInt8) : Gives (Option.bind (m_codec_reader_count ⟨b, 0⟩ 3) fun x10 =>
    Option.bind (m_codec_reader_take x10.2 x10.1) fun x12 =>
    Option.bind (m_slices_Clone_byte x12.1) fun x14 =>
    Option.bind (m_codec_Raw x14) fun x16 =>
    some ((V.mk x16.k x16.n x16.b []), x12.2)) (pvB b) := by
  unfold pvB
  by_cases h3 : b.length < 3
  · rw [if_pos h3, n_count_endZ 3 (n := 3) rfl h3, Option.bind_some, n_take_bad (by decide), Option.bind_some]
    exact gives_err (by decide) ⟨_, _, rfl⟩
  · rw [if_neg h3, n_count_okZ 3 (n := 3) rfl (by omega) (by omega) (by omega), Option.bind_some]
    by_cases hl : (b.drop 3).length < ofBE (b.take 3)
    · rw [if_pos hl, n_take_end hl, Option.bind_some]
      exact gives_err (by decide) ⟨_, _, rfl⟩
    · rw [if_neg hl, n_take_ok (by omega), Option.bind_some]
      unfold m_slices_Clone_byte
      have hN := ofBE_lt 3 (b.take 3) (by simp; omega)
      rw [appI_ok (by rw [List.length_take]; simp only [List.length_nil]; omega), Option.bind_some]
      rfl
theorem n_value_list (b : List UInt8) (k0 : Nat) (p1 : Int) (sub : Option (List UInt8 → Except Int (V × List UInt8)))
    (h0 : p1 = 0 → sub = none) (h1 : p1 ≠ 0 → ∃ d f, d ≤ 1000 ∧ p1 = ((d + 1 : Nat) : Int) ∧ sub = some f ∧ ∀ b, Gives (m_codec_reader_value k0 ⟨b, 0⟩ (d : Int)) (f b)) :
    Gives (Option.bind (m_codec_reader_count ⟨b, 0⟩ 2) fun x19 =>
    bif (decide (x19.1 > 4096)) then (Option.bind (m_codec_reader_fail x19.2) fun x36 =>
    m_codec_reader_value_j1 x19 (m_codec_reader_value k0) p1 x36.b_ x36.e_) else (bif (p1 == 0) then (Option.bind (m_codec_reader_fail x19.2) fun x39 =>
    m_codec_reader_value_j1 x19 (m_codec_reader_value k0) p1 x39.b_ x39.e_) else (m_codec_reader_value_j1 x19 (m_codec_reader_value k0) p1 x19.2.b_ x19.2.e_)))
    (if b.length < 2 then .error 10 else if 4096 < ofBE (b.take 2) then .error 11 else match sub with
        | none => .error 11
        | some f => pvL (pvI f (ofBE (b.take 2)) (b.drop 2))) := by
  have bad : ∀ (x19 : Int × S_codec_reader) (b : List UInt8) (e : Int), e ≠ 0 → ∃ v r, m_codec_reader_value_j1 x19 (m_codec_reader_value k0) p1 b e = some (v, ⟨r, e⟩) := by
    intro x19 b e he
    unfold m_codec_reader_value_j1
    show ∃ v r, m_codec_reader_value_l2 x19 (m_codec_reader_value k0) p1 (V.mk 3 0 [] []) (Int.toNat x19.1 + 1) b e [] 0 = _
    exact ⟨_, _, loop_bad he⟩
  by_cases h2 : b.length < 2
  · rw [if_pos h2, n_count_endZ 2 (n := 2) rfl h2, Option.bind_some]
    refine gives_err (by decide) ?_
    rw [bif_neg (dec_f (by show ¬ (0 : Int) > 4096; omega))]
    cases hp : (p1 == 0) with
    | true =>
      rw [bif_pos (c := true) rfl]
      show ∃ v r, Option.bind (m_codec_reader_fail ⟨b, 10⟩) _ = _
      rw [n_fail_bad (by decide), Option.bind_some]
      exact bad _ _ 10 (by decide)
    | false => exact bad _ _ 10 (by decide)
  · rw [if_neg h2, n_count_okZ 2 (n := 2) rfl (by omega) (by omega) (by omega), Option.bind_some]
    have hN := ofBE_lt 2 (b.take 2) (by simp; omega)
    generalize ofBE (b.take 2) = N at hN ⊢
    by_cases h4 : 4096 < N
    · rw [if_pos h4, bif_pos (dec_t (by show (N : Int) > 4096; omega))]
      refine gives_err (by decide) ?_
      show ∃ v r, Option.bind (m_codec_reader_fail ⟨b.drop 2, 0⟩) _ = _
      rw [n_fail, Option.bind_some]
      exact bad _ _ 11 (by decide)
    · rw [if_neg h4, bif_neg (dec_f (by show ¬ (N : Int) > 4096; omega))]
      by_cases hp : p1 = 0
      · rw [bif_pos (ieq_t hp), h0 hp]
        refine gives_err (by decide) ?_
        show ∃ v r, Option.bind (m_codec_reader_fail ⟨b.drop 2, 0⟩) _ = _
        rw [n_fail, Option.bind_some]
        exact bad _ _ 11 (by decide)
      · rw [bif_neg (ieq_f hp)]
        obtain ⟨d, f, hd, rfl, rfl, hf⟩ := h1 hp
        show Gives (m_codec_reader_value_l2 ((N : Int), ⟨b.drop 2, 0⟩) (m_codec_reader_value k0) ((d + 1 : Nat) : Int) (V.mk 3 0 [] []) (Int.toNat (N : Int) + 1) (b.drop 2) 0 [] 0) _
        exact n_value_l2 N (by omega) ⟨b.drop 2, 0⟩ f (m_codec_reader_value k0) d hd hf (N + 1) 0 (b.drop 2) [] (Nat.zero_le _) (by omega) rfl
theorem n_value_step (b : List UInt8) (k0 : Nat) (p1 : Int) (sub : Option (List UInt8 → Except Int (V × List UInt8)))
    (h0 : p1 = 0 → sub = none) (h1 : p1 ≠ 0 → ∃ d f, d ≤ 1000 ∧ p1 = ((d + 1 : Nat) : Int) ∧ sub = some f ∧ ∀ b, Gives (m_codec_reader_value k0 ⟨b, 0⟩ (d : Int)) (f b)) :
    Gives (m_codec_reader_value (k0 + 1) ⟨b, 0⟩ p1) (pvK sub b) := by
  unfold m_codec_reader_value
  cases b with
  | nil =>
    rw [n_take_endZ (b := []) 1 (n := 1) rfl (by simp), Option.bind_some, pvK_nil]
    exact gives_err (by decide) ⟨_, _, rfl⟩
  | cons c r =>
    rw [n_take_okZ (b := c :: r) 1 (n := 1) rfl (by simp), Option.bind_some, pvK_cons]
    show Gives (bif ((0 : Int) != 0) then _ else Option.bind (idx [c] 0) _) _
    rw [bif_neg (ine_f rfl), idx_zero, Option.bind_some]
    by_cases c1 : c.toNat = 1
    · rw [if_pos c1, bif_pos (ieq_t (by omega))]
      exact n_value_num r
    rw [if_neg c1, bif_neg (ieq_f (by omega))]
    by_cases c2 : c.toNat = 2
    · rw [if_pos c2, bif_pos (ieq_t (by omega))]
      exact n_value_raw r
    rw [if_neg c2, bif_neg (ieq_f (by omega))]
    by_cases c3 : c.toNat = 3
    · rw [if_pos c3, bif_pos (ieq_t (by omega))]
      exact n_value_list r k0 p1 sub h0 h1
    rw [if_neg c3, bif_neg (ieq_f (by omega))]
    exact gives_err (by decide) ⟨_, _, rfl⟩
theorem n_value : ∀ (d : Nat) (b : List UInt8), d ≤ 1000 → Gives (m_codec_reader_value (d + 1) ⟨b, 0⟩ (d : Int)) (pv d b)
  | 0, b, _ => n_value_step b 0 0 none (fun _ => rfl) (fun h => absurd rfl h)
  | d + 1, b, h => n_value_step b (d + 1) ((d + 1 : Nat) : Int) (some (pv d)) (fun h => by omega) (fun _ => ⟨d, pv d, by omega, rfl, rfl, fun b => n_value d b (by omega)⟩)
/-- What Decode answers. -/
def decA (b : List UInt8) : V × Int := match decS b with
  | .ok v => (v, 0)
  | .error e => (.mk 0 0 [] [], e)
theorem n_Decode (b : List UInt8) : m_codec_Decode b = some (decA b) := by
  unfold m_codec_Decode decA decS
  by_cases hl : 1048576 < b.length
  · rw [bif_pos (dec_t (by omega)), if_pos hl]
  · rw [bif_neg (dec_f (by omega)), if_neg hl]
    have h := n_value 16 b (by omega)
    have e : m_codec_reader_value (Int.toNat 16 + 1) ⟨b, 0⟩ 16 = m_codec_reader_value (16 + 1) ⟨b, 0⟩ ((16 : Nat) : Int) := rfl
    rw [e]
    cases hp : pv 16 b with
    | error e =>
      rw [hp] at h
      obtain ⟨he, v, r, h⟩ := h
      rw [h, Option.bind_some]
      show (bif e == 0 then _ else m_codec_Decode_j1 _ e) = _
      rw [bif_neg (c := e == 0) (ieq_f he)]
      unfold m_codec_Decode_j1
      rw [bif_pos (ine_t he)]
    | ok vr =>
      obtain ⟨v, r⟩ := vr
      rw [hp] at h
      have h : m_codec_reader_value (16 + 1) ⟨b, 0⟩ ((16 : Nat) : Int) = some (v, ⟨r, 0⟩) := h
      rw [h, Option.bind_some]
      show (bif ((0 : Int) == 0) then (bif decide ((r.length : Int) > 0) then _ else _) else _) = some (match (if r.isEmpty = true then Except.ok v else Except.error 12 : Except Int V) with | .ok v => (v, 0) | .error e => (V.mk 0 0 [] [], e))
      rw [bif_pos (ieq_t rfl)]
      cases r with
      | nil => rfl
      | cons c r => rw [bif_pos (dec_t (by simp))]; rfl
end Go.Proofs.YteopjhakjeknaaaDoor
