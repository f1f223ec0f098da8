/-
  Decoding, plain: the value of bytes, or why not; it inverts encoding, and is inverted by it.
-/
import Derived.Test.YteopjhakjeknaaaDoorNum
import Derived.Test.YteopjhakjeknaaaDoorEnc
namespace Go.Proofs.YteopjhakjeknaaaDoor
set_option linter.unusedVariables false
set_option linter.unusedSimpArgs false

def pvN : List UInt8 → Except Int (V × List UInt8)
  | [] => .error 10
  | c :: r => if 8 < c.toNat then .error 11 else if r.length < c.toNat then .error 10 else if c.toNat = 0 then .ok (.mk 1 0 [] [], r)
    else if 4611686018427387904 < ofBE (r.take c.toNat) ∨ r.head? = some 0 then .error 11 else .ok (.mk 1 (ofBE (r.take c.toNat)) [] [], r.drop c.toNat)
theorem pvN_nil : pvN [] = .error 10 := rfl
theorem pvN_cons (c : UInt8) (r : List UInt8) : pvN (c :: r) = if 8 < c.toNat then .error 11 else if r.length < c.toNat then .error 10 else if c.toNat = 0 then .ok (.mk 1 0 [] [], r)
    else if 4611686018427387904 < ofBE (r.take c.toNat) ∨ r.head? = some 0 then .error 11 else .ok (.mk 1 (ofBE (r.take c.toNat)) [] [], r.drop c.toNat) := rfl
def pvB (b : List UInt8) : Except Int (V × List UInt8) :=
  if b.length < 3 then .error 10 else if (b.drop 3).length < ofBE (b.take 3) then .error 10 else .ok (.mk 2 0 ((b.drop 3).take (ofBE (b.take 3))) [], (b.drop 3).drop (ofBE (b.take 3)))
def pvI (f : List UInt8 → Except Int (V × List UInt8)) : Nat → List UInt8 → Except Int (List V × List UInt8)
  | 0, b => .ok ([], b)
  | n + 1, b => match f b with
    | .error e => .error e
    | .ok (v, r) => match pvI f n r with
      | .error e => .error e
      | .ok (l, r') => .ok (v :: l, r')
def pvL (x : Except Int (List V × List UInt8)) : Except Int (V × List UInt8) := match x with
  | .error e => .error e
  | .ok (l, r) => .ok (.mk 3 0 [] l, r)
def pvK (sub : Option (List UInt8 → Except Int (V × List UInt8))) : List UInt8 → Except Int (V × List UInt8)
  | [] => .error 10
  | k :: b => if k.toNat = 1 then pvN b else if k.toNat = 2 then pvB b else if k.toNat = 3 then
      (if b.length < 2 then .error 10 else if 4096 < ofBE (b.take 2) then .error 11 else match sub with
        | none => .error 11
        | some f => pvL (pvI f (ofBE (b.take 2)) (b.drop 2)))
    else .error 11
def pv : Nat → List UInt8 → Except Int (V × List UInt8)
  | 0 => pvK none
  | d + 1 => pvK (some (pv d))
theorem pvK_nil (sub : Option (List UInt8 → Except Int (V × List UInt8))) : pvK sub [] = .error 10 := rfl
theorem pvK_cons (sub : Option (List UInt8 → Except Int (V × List UInt8))) (k : UInt8) (b : List UInt8) : pvK sub (k :: b) = if k.toNat = 1 then pvN b else if k.toNat = 2 then pvB b else if k.toNat = 3 then
      (if b.length < 2 then .error 10 else if 4096 < ofBE (b.take 2) then .error 11 else match sub with
        | none => .error 11
        | some f => pvL (pvI f (ofBE (b.take 2)) (b.drop 2)))
    else .error 11 := rfl
/-- The value of bytes, or why not. -/
def decS (b : List UInt8) : Except Int V := if 1048576 < b.length then .error 3 else match pv 16 b with
  | .error e => .error e
  | .ok (v, r) => if r.isEmpty = true then .ok v else .error 12

theorem pvI_err {f : List UInt8 → Except Int (V × List UInt8)} (hf : ∀ b e, f b = .error e → e = 10 ∨ e = 11) : ∀ (n : Nat) (b : List UInt8) (e : Int), pvI f n b = .error e → e = 10 ∨ e = 11
  | 0, b, e, h => by cases h
  | n + 1, b, e, h => by
    rw [pvI] at h
    split at h
    · rename_i e' he
      injection h with h
      subst h
      exact hf _ _ he
    · rename_i v r hv
      split at h
      · rename_i e' he
        injection h with h
        subst h
        exact pvI_err hf n r _ he
      · cases h
theorem pvK_err {sub : Option (List UInt8 → Except Int (V × List UInt8))} (hs : ∀ f, sub = some f → ∀ b e, f b = .error e → e = 10 ∨ e = 11) : ∀ (b : List UInt8) (e : Int), pvK sub b = .error e → e = 10 ∨ e = 11
  | [], e, h => by rw [pvK_nil] at h; injection h with h; omega
  | k :: b, e, h => by
    rw [pvK_cons] at h
    split at h
    · unfold pvN at h
      split at h
      · injection h with h; omega
      · split at h
        · injection h with h; omega
        split at h
        · injection h with h; omega
        split at h
        · cases h
        split at h
        · injection h with h; omega
        · cases h
    split at h
    · unfold pvB at h
      split at h
      · injection h with h; omega
      split at h
      · injection h with h; omega
      · cases h
    split at h
    · split at h
      · injection h with h; omega
      split at h
      · injection h with h; omega
      split at h
      · injection h with h; omega
      · rename_i f
        unfold pvL at h
        split at h
        · rename_i e' he
          injection h with h
          subst h
          exact pvI_err (hs f rfl) _ _ _ he
        · cases h
    · injection h with h; omega
theorem pv_err : ∀ (d : Nat) (b : List UInt8) (e : Int), pv d b = .error e → e = 10 ∨ e = 11
  | 0 => pvK_err fun f h => by cases h
  | d + 1 => pvK_err fun f h => by injection h with h; subst h; exact pv_err d
theorem rpure_num {n : Int} (h0 : 0 ≤ n) (h1 : n ≤ 4611686018427387904) : V.rpure (.mk 1 n [] []) = true := by simp [V.rpure, V.flat, V.k, V.n, V.b, V.l, h0, h1]
theorem rpure_list {l : List V} (h : l.length ≤ 4096) (hl : ∀ x ∈ l, x.rpure = true) : V.rpure (.mk 3 0 [] l) = true := by
  rw [V.rpure, if_pos rfl, (V.all_iff l).2 hl]
  simp [V.flat, V.k, V.n, V.b, V.l, h]
theorem byte_of {k : UInt8} {n : Nat} (h : k.toNat = n) : k = UInt8.ofNat n := by rw [← h]; simp
/-- What is decoded is what is encoded. -/
theorem pvN_sound {b : List UInt8} {v : V} {r : List UInt8} (h : pvN b = .ok (v, r)) : 1 :: b = v.enc ++ r ∧ v.rpure = true ∧ v.deep = 0 := by
  unfold pvN at h
  split at h
  · cases h
  rename_i c r0
  split at h
  · cases h
  rename_i h8
  split at h
  · cases h
  rename_i hl
  split at h
  · rename_i h0
    injection h with h
    injection h with h1 h2
    subst h1 h2
    refine ⟨?_, by simp [V.rpure, V.flat, V.k, V.n, V.b, V.l], by simp [V.deep]⟩
    rw [V.enc, if_pos rfl, byte_of h0]
    simp [plainB, wid_zero, be, le]
  rename_i h0
  split at h
  · cases h
  rename_i hc
  injection h with h
  injection h with h1 h2
  subst h1 h2
  have hne : r0.take c.toNat ≠ [] := by
    intro e
    have := congrArg List.length e
    rw [List.length_take, List.length_nil] at this
    omega
  have hlen : (r0.take c.toNat).length = c.toNat := by simp; omega
  obtain ⟨x, y, hxy⟩ : ∃ x y, r0.take c.toNat = x :: y := by
    cases ht : r0.take c.toNat with
    | nil => exact absurd ht hne
    | cons x y => exact ⟨x, y, rfl⟩
  have hx : x ≠ 0 := by
    intro e
    subst e
    apply hc
    right
    cases r0 with
    | nil => simp at hxy
    | cons z w =>
      cases hcn : c.toNat with
      | zero => omega
      | succ j => rw [hcn] at hxy; simp at hxy; simp [hxy.1]
  have hw : wid (ofBE (r0.take c.toNat)) = c.toNat := by
    have h1 := ofBE_lt c.toNat _ hlen
    have h2 := (lt_wid c.toNat _).1 h1
    rcases Nat.lt_or_ge (wid (ofBE (r0.take c.toNat))) c.toNat with h3 | h3
    · exfalso
      have h4 := be_ofBE c.toNat _ hlen
      obtain ⟨j, hj⟩ : ∃ j, c.toNat = j + 1 := ⟨c.toNat - 1, by omega⟩
      have h5 := be_zero j (ofBE (r0.take c.toNat)) (by omega)
      rw [← hj, h4, hxy] at h5
      injection h5 with h5 _
      exact hx h5
    · omega
  refine ⟨?_, ?_, by simp [V.deep]⟩
  · rw [V.enc, if_pos rfl]
    simp only [Int.toNat_natCast]
    unfold plainB
    rw [hw, be_ofBE _ _ hlen]
    simp
  · exact rpure_num (by omega) (by have : ofBE (r0.take c.toNat) ≤ 4611686018427387904 := Nat.le_of_not_lt fun h => hc (.inl h)
                                   omega)
theorem pvI_sound {f : List UInt8 → Except Int (V × List UInt8)} {d : Nat} (hf : ∀ b v r, f b = .ok (v, r) → b = v.enc ++ r ∧ v.rpure = true ∧ v.deep ≤ d) : ∀ (n : Nat) (b : List UInt8) (l : List V) (r : List UInt8), pvI f n b = .ok (l, r) → b = V.enc.encs l ++ r ∧ l.length = n ∧ ∀ x ∈ l, x.rpure = true ∧ x.deep ≤ d
  | 0, b, l, r, h => by
    rw [pvI] at h
    injection h with h
    injection h with h1 h2
    subst h1 h2
    exact ⟨rfl, rfl, fun x hx => by cases hx⟩
  | n + 1, b, l, r, h => by
    rw [pvI] at h
    split at h
    · cases h
    rename_i v r1 hv
    split at h
    · cases h
    rename_i l1 r2 hl
    injection h with h
    injection h with h1 h2
    subst h1 h2
    obtain ⟨a1, a2, a3⟩ := hf _ _ _ hv
    obtain ⟨b1, b2, b3⟩ := pvI_sound hf n _ _ _ hl
    refine ⟨by rw [a1, b1, V.enc.encs, List.append_assoc], by simp [b2], fun x hx => ?_⟩
    rcases List.mem_cons.1 hx with rfl | hx
    · exact ⟨a2, a3⟩
    · exact b3 x hx
theorem pvK_sound {d : Nat} {sub : Option (List UInt8 → Except Int (V × List UInt8))} (hs : ∀ f, sub = some f → ∃ d', d = d' + 1 ∧ ∀ b v r, f b = .ok (v, r) → b = v.enc ++ r ∧ v.rpure = true ∧ v.deep ≤ d') : ∀ (b : List UInt8) (v : V) (r : List UInt8), pvK sub b = .ok (v, r) → b = v.enc ++ r ∧ v.rpure = true ∧ v.deep ≤ d
  | [], v, r, h => by rw [pvK_nil] at h; cases h
  | k :: b, v, r, h => by
    rw [pvK_cons] at h
    split at h
    · rename_i hk
      obtain ⟨a1, a2, a3⟩ := pvN_sound h
      exact ⟨by rw [byte_of hk]; exact a1, a2, by omega⟩
    split at h
    · rename_i hk
      unfold pvB at h
      split at h
      · cases h
      rename_i h3
      split at h
      · cases h
      rename_i hl
      injection h with h
      injection h with h1 h2
      subst h1 h2
      refine ⟨?_, by simp [V.rpure, V.flat, V.k, V.n, V.b, V.l], by simp [V.deep]⟩
      have hlen : ((b.drop 3).take (ofBE (b.take 3))).length = ofBE (b.take 3) := by rw [List.length_take]; omega
      rw [V.enc, if_neg (by decide), if_pos rfl, hlen, be_ofBE 3 _ (by simp; omega), byte_of hk, List.cons_append, List.append_assoc, List.take_append_drop, List.take_append_drop]
      rfl
    split at h
    · rename_i hk
      split at h
      · cases h
      rename_i h2
      split at h
      · cases h
      rename_i hn
      split at h
      · cases h
      rename_i f
      obtain ⟨d', rfl, hf⟩ := hs f rfl
      unfold pvL at h
      split at h
      · cases h
      rename_i l r1 hl
      injection h with h
      injection h with h1 h3
      subst h1 h3
      obtain ⟨a1, a2, a3⟩ := pvI_sound hf _ _ _ _ hl
      refine ⟨?_, ?_, ?_⟩
      · rw [V.enc, if_neg (by decide), if_neg (by decide), a2, be_ofBE 2 _ (by simp; omega), byte_of hk]
        rw [List.cons_append, List.append_assoc, ← a1, List.take_append_drop]
        rfl
      · exact rpure_list (by omega) fun x hx => (a3 x hx).1
      · rw [V.deep, if_pos rfl]
        exact V.dm_le l 1 _ (fun x hx => by have := (a3 x hx).2; omega) (by omega)
    · cases h
theorem pv_sound : ∀ (d : Nat) (b : List UInt8) (v : V) (r : List UInt8), pv d b = .ok (v, r) → b = v.enc ++ r ∧ v.rpure = true ∧ v.deep ≤ d
  | 0 => pvK_sound fun f h => by cases h
  | d + 1 => pvK_sound fun f h => by injection h with h; subst h; exact ⟨d, rfl, pv_sound d⟩

/-- What is encoded is decoded. -/
theorem pvI_full {f : List UInt8 → Except Int (V × List UInt8)} : ∀ (l : List V) (r : List UInt8), (∀ x ∈ l, ∀ r, f (x.enc ++ r) = .ok (x, r)) → pvI f l.length (V.enc.encs l ++ r) = .ok (l, r)
  | [], r, _ => rfl
  | x :: l, r, h => by
    rw [List.length_cons, pvI, V.enc.encs, List.append_assoc, h x List.mem_cons_self]
    simp only
    rw [pvI_full l r fun y hy => h y (List.mem_cons_of_mem _ hy)]
theorem pvN_full (n : Int) (h0 : 0 ≤ n) (h1 : n ≤ 4611686018427387904) (r : List UInt8) : pvN (UInt8.ofNat (wid n.toNat) :: plainB n.toNat ++ r) = .ok (.mk 1 n [] [], r) := by
  have hw := wid_le8 (n := n.toNat) (by omega)
  have hc : (UInt8.ofNat (wid n.toNat)).toNat = wid n.toNat := by simp; omega
  have hl : (plainB n.toNat).length = wid n.toNat := plainB_length _
  have hlt := (lt_wid (wid n.toNat) n.toNat).2 (Nat.le_refl _)
  rw [List.cons_append, pvN, hc, if_neg (by omega), if_neg (by simp [hl])]
  by_cases hz : wid n.toNat = 0
  · rw [if_pos hz]
    have : n.toNat = 0 := by
      rw [hz] at hlt
      simpa using hlt
    have hn : n = 0 := by omega
    have hp : plainB n.toNat = [] := List.eq_nil_of_length_eq_zero (by rw [hl, hz])
    rw [hp, hn]
    rfl
  · obtain ⟨k, hk⟩ : ∃ k, wid n.toNat = k + 1 := ⟨wid n.toNat - 1, by omega⟩
    obtain ⟨c, hcc, hne⟩ := be_first k n.toNat hk
    have ht : (plainB n.toNat ++ r).take (wid n.toNat) = plainB n.toNat := by rw [← hl, List.take_left]
    have hd : (plainB n.toNat ++ r).drop (wid n.toNat) = r := by rw [← hl, List.drop_left]
    have ho : ofBE (plainB n.toNat) = n.toNat := by unfold plainB; rw [ofBE_be, Nat.mod_eq_of_lt hlt]
    rw [if_neg hz, ht, hd, ho, if_neg]
    · rw [Int.toNat_of_nonneg h0]
    · rintro (h | h)
      · omega
      · unfold plainB at h
        rw [hk, hcc] at h
        simp at h
        exact hne h
theorem pv_full : ∀ (d : Nat) (v : V) (r : List UInt8), v.rpure = true → v.deep ≤ d → v.sz ≤ 1048576 → pv d (v.enc ++ r) = .ok (v, r) := by
  intro d
  induction d with
  | zero =>
    intro v r hp hd hs
    have hf := V.rpure_flat hp
    have he := V.enc_eq v
    have hlen := V.enc_length v
    rw [he]
    by_cases h1 : v.k = 1
    · rw [if_pos h1, List.cons_append, pv, pvK_cons, if_pos (by decide)]
      unfold V.flat at hf
      rw [if_pos h1] at hf
      simp at hf
      rw [pvN_full v.n (by omega) (by omega) r]
      have := V.eta v
      rw [h1, hf.1.2, hf.2] at this
      rw [this]
    · rw [if_neg h1]
      by_cases h2 : v.k = 2
      · exact raw_full none v r h2 hf hs he hlen h1
      · obtain ⟨h3, _, _, _⟩ := V.flat_kind hf h1 h2
        exfalso
        rw [V.deep_eq v h3] at hd
        have := dm_ge1 v.l 1
        omega
  | succ d ih =>
    intro v r hp hd hs
    have hf := V.rpure_flat hp
    have he := V.enc_eq v
    have hlen := V.enc_length v
    rw [he]
    by_cases h1 : v.k = 1
    · rw [if_pos h1, List.cons_append, pv, pvK_cons, if_pos (by decide)]
      unfold V.flat at hf
      rw [if_pos h1] at hf
      simp at hf
      rw [pvN_full v.n (by omega) (by omega) r]
      have := V.eta v
      rw [h1, hf.1.2, hf.2] at this
      rw [this]
    · rw [if_neg h1]
      by_cases h2 : v.k = 2
      · exact raw_full (some (pv d)) v r h2 hf hs he hlen h1
      · obtain ⟨h3, hn, hb, hl⟩ := V.flat_kind hf h1 h2
        have hi := V.rpure_items hp h3
        rw [if_neg h2, List.cons_append, pv, pvK_cons, if_neg (by decide), if_neg (by decide), if_pos (by decide)]
        have ht : (be 2 v.l.length ++ V.enc.encs v.l ++ r).take 2 = be 2 v.l.length := by
          rw [List.append_assoc, List.take_left' (be_length _ _)]
        have hdr : (be 2 v.l.length ++ V.enc.encs v.l ++ r).drop 2 = V.enc.encs v.l ++ r := by
          rw [List.append_assoc, List.drop_left' (be_length _ _)]
        rw [ht, hdr, ofBE_be, Nat.mod_eq_of_lt (by omega), if_neg (by simp [be_length]), if_neg (by omega)]
        show pvL (pvI (pv d) v.l.length (V.enc.encs v.l ++ r)) = _
        have hz : V.sz.szs v.l + 3 = v.sz := by
          cases v with
          | mk k n b l =>
            have h1 : ¬ k = 1 := h1
            have h2 : ¬ k = 2 := h2
            rw [V.sz, if_neg h1, if_neg h2]
            show V.sz.szs l + 3 = _
            omega
        rw [V.deep_eq v h3] at hd
        rw [pvI_full v.l r fun x hx r => ih x r (hi x hx) (by have := dm_mem v.l 1 x hx; omega) (by have := V.sz_le_szs v.l x hx; omega)]
        have := V.eta v
        rw [h3, hn, hb] at this
        show Except.ok (V.mk 3 0 [] v.l, r) = _
        rw [this]
where
  dm_ge1 : ∀ (l : List V) (e : Nat), e ≤ V.deep.dm l e
    | [], _ => Nat.le_refl _
    | x :: r, e => Nat.le_trans (Nat.le_max_left _ _) (by rw [V.deep.dm]; exact dm_ge1 r _)
  dm_mem : ∀ (l : List V) (e : Nat) (x : V), x ∈ l → x.deep + 1 ≤ V.deep.dm l e
    | y :: r, e, x, h => by
      rw [V.deep.dm]
      rcases List.mem_cons.1 h with rfl | h
      · exact Nat.le_trans (Nat.le_max_right _ _) (dm_ge1 r _)
      · exact dm_mem r _ x h
  raw_full (sub : Option (List UInt8 → Except Int (V × List UInt8))) (v : V) (r : List UInt8) (h2 : v.k = 2) (hf : v.flat = true) (hs : v.sz ≤ 1048576) (he : v.enc = if v.k = 1 then 1 :: UInt8.ofNat (wid v.n.toNat) :: plainB v.n.toNat else if v.k = 2 then 2 :: (be 3 v.b.length ++ v.b) else 3 :: (be 2 v.l.length ++ V.enc.encs v.l)) (hlen : v.enc.length = v.sz) (h1 : ¬ v.k = 1) : pvK sub ((if v.k = 2 then 2 :: (be 3 v.b.length ++ v.b) else 3 :: (be 2 v.l.length ++ V.enc.encs v.l)) ++ r) = .ok (v, r) := by
    rw [if_neg h1, if_pos h2] at he
    rw [if_pos h2, List.cons_append, pvK_cons, if_neg (by decide), if_pos (by decide)]
    have hb : v.b.length ≤ 1048576 := by
      rw [he] at hlen
      simp [be_length] at hlen
      omega
    have ht : (be 3 v.b.length ++ v.b ++ r).take 3 = be 3 v.b.length := by
      rw [List.append_assoc, List.take_left' (be_length _ _)]
    have hdr : (be 3 v.b.length ++ v.b ++ r).drop 3 = v.b ++ r := by
      rw [List.append_assoc, List.drop_left' (be_length _ _)]
    unfold pvB
    rw [ht, hdr, ofBE_be, Nat.mod_eq_of_lt (by omega), if_neg (by simp [be_length]), if_neg (by simp), List.take_left, List.drop_left]
    unfold V.flat at hf
    rw [if_neg h1, if_pos h2] at hf
    simp at hf
    have := V.eta v
    rw [h2, hf.1, hf.2] at this
    rw [this]
theorem decS_enc {v : V} (h : v.rpure = true ∧ v.deep ≤ 16 ∧ v.sz ≤ 1048576) : decS v.enc = .ok v := by
  have := pv_full 16 v [] h.1 h.2.1 h.2.2
  rw [List.append_nil] at this
  unfold decS
  rw [if_neg (by rw [V.enc_length]; omega), this]
  rfl
theorem decS_ok {b : List UInt8} {v : V} (h : decS b = .ok v) : b = v.enc ∧ v.rpure = true ∧ v.deep ≤ 16 ∧ v.sz ≤ 1048576 := by
  unfold decS at h
  split at h
  · cases h
  rename_i hl
  split at h
  · cases h
  rename_i v' r hv
  split at h
  · rename_i hr
    injection h with h
    subst h
    obtain ⟨a1, a2, a3⟩ := pv_sound 16 _ _ _ hv
    have : r = [] := by simpa using hr
    subst this
    rw [List.append_nil] at a1
    exact ⟨a1, a2, a3, by rw [← V.enc_length, ← a1]; omega⟩
  · cases h
theorem decS_err {b : List UInt8} {e : Int} (h : decS b = .error e) : e = 3 ∨ e = 10 ∨ e = 11 ∨ e = 12 := by
  unfold decS at h
  split at h
  · injection h with h; omega
  split at h
  · rename_i e' he
    injection h with h
    subst h
    have := pv_err _ _ _ he
    omega
  · split at h
    · cases h
    · injection h with h; omega
end Go.Proofs.YteopjhakjeknaaaDoor
