/-
  What the models of codec compute, plain: encoding.
-/
import Derived.Test.YteopjhakjeknaaaDoorCbM
import Derived.Test.YteopjhakjeknaaaDoorNum
import Derived.Test.YteopjhakjeknaaaDoorEnc
namespace Go.Proofs.YteopjhakjeknaaaDoor
open Go Go.RowKit
set_option linter.unusedVariables false
set_option linter.unusedSimpArgs false

/-! ### Same of bytes -/
theorem n_R01_Same_l1 (a b : List UInt8) (hl : a.length = b.length) (hb : a.length < 4611686018427387904) : ∀ (n i : Nat), i ≤ a.length → a.length - i < n → m_R01_Same_l1 a b n (i : Int) = some (a.drop i == b.drop i)
  | 0, i, _, h => by omega
  | n + 1, i, hi, h => by
    unfold m_R01_Same_l1
    by_cases hlt : i < a.length
    · have hlb : i < b.length := by omega
      rw [bif_pos (dec_t (by omega)), idx_nat hlt, Option.bind_some, idx_nat hlb, Option.bind_some, wi_succ (by omega), n_R01_Same_l1 a b hl hb n (i + 1) (by omega) (by omega)]
      have ha : a.drop i = a[i] :: a.drop (i + 1) := List.drop_eq_getElem_cons hlt
      have hb : b.drop i = b[i] :: b.drop (i + 1) := List.drop_eq_getElem_cons hlb
      rw [ha, hb]
      generalize a[i] = x
      generalize b[i] = y
      by_cases he : x = y
      · subst he
        rw [bif_neg (ine_f rfl)]
        simp
      · rw [bif_pos (ine_t (fun h => he (UInt8.toNat_inj.1 (by omega))))]
        simp [he]
    · rw [bif_neg (dec_f (by omega)), List.drop_eq_nil_of_le (by omega), List.drop_eq_nil_of_le (by omega)]
      rfl
theorem n_R01_Same (a b : List UInt8) (hb : a.length < 4611686018427387904) : m_R01_Same a b = some (a == b) := by
  unfold m_R01_Same
  by_cases hl : a.length = b.length
  · rw [bif_neg (ine_f (by omega))]
    exact n_R01_Same_l1 a b hl hb _ 0 (Nat.zero_le _) (by omega)
  · rw [bif_pos (ine_t (by omega))]
    congr 1
    symm
    rw [beq_eq_false_iff_ne]
    exact fun e => hl (by rw [e])

/-! ### Encoding -/
theorem n_plain_l1 (m : Nat) : ∀ (n k : Nat), k < n → wid m ≤ k → m_codec_plain_l1 n (be k m) = some (plainB m)
  | 0, k, h, _ => by omega
  | n + 1, k, h, hw => by
    unfold m_codec_plain_l1
    rw [be_length]
    by_cases h0 : k = wid m
    · subst h0
      cases hk : wid m with
      | zero => rw [bif_neg (dec_f (by omega))]; unfold plainB; rw [hk]
      | succ j =>
        obtain ⟨c, hc, hne⟩ := be_first j m hk
        rw [bif_pos (dec_t (by omega)), hc, idx_zero, Option.bind_some]
        rw [bif_neg (ieq_f (fun e => hne (UInt8.toNat_inj.1 (by rw [show (0 : UInt8).toNat = 0 from rfl]; omega))))]
        unfold plainB
        rw [hk, hc]
    · obtain ⟨j, rfl⟩ : ∃ j, k = j + 1 := ⟨k - 1, by omega⟩
      rw [bif_pos (dec_t (by omega)), be_zero j m (by omega), idx_zero, Option.bind_some, bif_pos (ieq_t (a := ((0 : UInt8).toNat : Int)) (b := 0) rfl)]
      have := cutI_drop (l := 0 :: be j m) (n := 1) (by simp)
      rw [show (0 :: be j m).length = j + 1 by simp [be_length]] at this
      rw [show ((j + 1 : Nat) : Int) = ((j + 1 : Nat) : Int) from rfl] at this
      rw [show cutI (0 :: be j m) 1 ((j + 1 : Nat) : Int) = some (be j m) from this, Option.bind_some]
      exact n_plain_l1 m n j (by omega) (by omega)
theorem n_plain (n : Int) (h0 : 0 ≤ n) (h1 : n ≤ 4611686018427387904) : m_codec_plain n = some (plainB n.toNat) := by
  have hw := wid_le8 (n := n.toNat) (by omega)
  unfold m_codec_plain m_word_Put
  rw [if_pos ⟨h0, h1, by omega, by omega, (lt_wid 8 n.toNat).2 hw⟩, Option.bind_some]
  show m_codec_plain_l1 ((be 8 n.toNat).length + 1) (be 8 n.toNat) = _
  rw [be_length]
  exact n_plain_l1 n.toNat 9 8 (by omega) hw
theorem n_pure_j1 (a b c : Bool) : m_codec_pure_j1 a b c = some (a && (b && c)) := by unfold m_codec_pure_j1; rw [bif_and, bif_and]
theorem n_pure (v : V) : m_codec_pure v = some v.pureB := by
  unfold m_codec_pure V.pureB
  simp only [n_pure_j1, len_zero]
  by_cases h1 : v.k = 1
  · rw [bif_pos (ieq_t h1), if_pos h1]
    cases h2 : decide (v.n ≥ 0)
    · have : ¬ 0 ≤ v.n := by simpa using h2
      simp [this]
    · have : 0 ≤ v.n := by simpa using h2
      simp [this, Bool.and_assoc]
  · rw [bif_neg (ieq_f h1), if_neg h1]
    by_cases h2 : v.k = 2
    · rw [bif_pos (ieq_t h2), if_pos h2, show decide ((v.b.length : Int) ≤ 1048576) = decide (v.b.length ≤ 1048576) from len_le v.b 1048576, Bool.and_assoc]
      rfl
    · rw [bif_neg (ieq_f h2), if_neg h2]
      by_cases h3 : v.k = 3
      · rw [bif_pos (ieq_t h3), if_pos h3, show decide ((v.l.length : Int) ≤ 4096) = decide (v.l.length ≤ 4096) from len_le v.l 4096, Bool.and_assoc]
        rfl
      · rw [bif_neg (ieq_f h3), if_neg h3]

/-! ### How many bytes -/
theorem plainB_len (n : Nat) : (plainB n).length = wid n := be_length _ _
theorem pure_num {v : V} (h : v.pureB = true) (hk : v.k = 1) : 0 ≤ v.n ∧ v.n ≤ 4611686018427387904 := by
  unfold V.pureB at h
  rw [if_pos hk] at h
  simp at h
  omega
theorem pure_len {v : V} (h : v.pureB = true) : v.b.length ≤ 1048576 ∧ v.l.length ≤ 4096 := by
  unfold V.pureB at h
  split at h
  · simp at h; simp [h]
  split at h
  · simp at h; simp [h]
  split at h
  · simp at h; simp [h]
  · cases h
def msO : Option Nat → Int × Bool
  | some s => ((s : Int), true)
  | none => (0, false)
theorem mloop_bd (d : Nat) (ih : ∀ (v : V) (room : Int) (s : Nat), V.mF v room d = some s → 0 ≤ room ∧ (s : Int) ≤ room + 1048580) : ∀ (l : List V) (room : Int) (a s : Nat), (a : Int) ≤ room + 1048580 → V.mF.mloop l room d a = some s → (s : Int) ≤ room + 1048580
  | [], room, a, s, ha, h => by rw [V.mF.mloop] at h; injection h with h; omega
  | x :: r, room, a, s, ha, h => by
    rw [V.mF.mloop] at h
    split at h
    · cases h
    · rename_i m hm
      have := (ih x (room - a) m hm).2
      exact mloop_bd d ih r room (a + m) s (by omega) h
theorem mF_bd : ∀ (d : Nat) (v : V) (room : Int) (s : Nat), V.mF v room d = some s → 0 ≤ room ∧ (s : Int) ≤ room + 1048580 := by
  intro d
  induction d with
  | zero =>
    intro v room s h
    rw [V.mF_eq] at h
    split at h
    · cases h
    rename_i hc
    have hp : v.pureB = true := by cases hb : v.pureB <;> simp [hb] at hc ⊢
    have hr : 0 ≤ room := by omega
    have hl := pure_len hp
    refine ⟨hr, ?_⟩
    split at h
    · rename_i hk
      have := wid_le8 (n := v.n.toNat) (by have := pure_num hp hk; omega)
      injection h with h
      omega
    · split at h
      · injection h with h; omega
      · simp at h
  | succ d ih =>
    intro v room s h
    rw [V.mF_eq] at h
    split at h
    · cases h
    rename_i hc
    have hp : v.pureB = true := by cases hb : v.pureB <;> simp [hb] at hc ⊢
    have hr : 0 ≤ room := by omega
    have hl := pure_len hp
    refine ⟨hr, ?_⟩
    split at h
    · rename_i hk
      have := wid_le8 (n := v.n.toNat) (by have := pure_num hp hk; omega)
      injection h with h
      omega
    · split at h
      · injection h with h; omega
      · rw [if_neg (by omega)] at h
        exact mloop_bd d ih v.l room 3 s (by omega) h
theorem n_measure_l2 (v : V) (room : Int) (d : Nat) (hroom : room ≤ 1048576) (hr0 : 0 ≤ room) (hv : v.l.length ≤ 4096) (self : V → Int → Int → Option (Int × Bool)) (hd : d ≤ 1000)
    (hself : ∀ x ∈ v.l, ∀ rm : Int, rm ≤ 1048576 → -9000000000 ≤ rm → self x rm (d : Int) = some (msO (x.mF rm d))) :
    ∀ (n i s : Nat), i ≤ v.l.length → v.l.length - i < n → (s : Int) ≤ room + 1048580 → m_codec_measure_l2 v self room ((d + 1 : Nat) : Int) n (s : Int) (i : Int) = some (msO (V.mF.mloop (v.l.drop i) room d s))
  | 0, i, s, _, h, _ => by omega
  | n + 1, i, s, hi, h, hs => by
    unfold m_codec_measure_l2
    by_cases hlt : i < v.l.length
    · have hx := List.getElem_mem hlt
      rw [bif_pos (dec_t (by omega)), idx_nat hlt, Option.bind_some, wi_id (z := room - s) (by omega) (by omega), wi_id (z := ((d + 1 : Nat) : Int) - 1) (by omega) (by omega), show ((d + 1 : Nat) : Int) - 1 = (d : Int) by omega, hself _ hx _ (by omega) (by omega), Option.bind_some, List.drop_eq_getElem_cons hlt, V.mF.mloop]
      cases hm : V.mF v.l[i] (room - s) d with
      | none => rfl
      | some m =>
        have := (mF_bd d _ _ m hm).2
        show m_codec_measure_l2 v self room _ n (wi ((s : Int) + (m : Int))) (wi ((i : Int) + 1)) = _
        rw [wi_succ (by omega), wi_id (by omega) (by omega), show (s : Int) + (m : Int) = ((s + m : Nat) : Int) by omega]
        exact n_measure_l2 v room d hroom hr0 hv self hd hself n (i + 1) (s + m) (by omega) (by omega) (by omega)
    · rw [bif_neg (dec_f (by omega)), List.drop_eq_nil_of_le (by omega), V.mF.mloop]
      rfl
theorem n_measure : ∀ (d : Nat) (v : V) (room : Int), d ≤ 1000 → room ≤ 1048576 → -9000000000 ≤ room → m_codec_measure (d + 1) v room (d : Int) = some (msO (v.mF room d)) := by
  intro d
  induction d with
  | zero =>
    intro v room _ hr hr2
    unfold m_codec_measure
    rw [n_pure, Option.bind_some, V.mF_eq]
    cases hp : v.pureB with
    | false => rfl
    | true =>
      rw [bif_neg (c := !true) rfl]
      by_cases h0 : room < 0
      · rw [bif_pos (dec_t h0), if_pos (.inr h0)]
        rfl
      rw [bif_neg (dec_f h0), if_neg (by simp [h0]), bif_neg (dec_f (by omega))]
      by_cases h1 : v.k = 1
      · obtain ⟨a, b⟩ := pure_num hp h1
        have := wid_le8 (n := v.n.toNat) (by omega)
        rw [bif_pos (ieq_t h1), if_pos h1, n_plain _ a b, Option.bind_some, plainB_len, wi_id (by omega) (by omega)]
        rfl
      · rw [bif_neg (ieq_f h1), if_neg h1]
        by_cases h2 : v.k = 2
        · have := pure_len hp
          rw [bif_pos (ieq_t h2), if_pos h2, wi_id (by omega) (by omega)]
          rfl
        · rw [bif_neg (ieq_f h2), if_neg h2, bif_pos (ieq_t (a := ((0 : Nat) : Int)) (b := 0) rfl), if_pos rfl]
          rfl
  | succ d ih =>
    intro v room hd hr hr2
    unfold m_codec_measure
    rw [n_pure, Option.bind_some, V.mF_eq]
    cases hp : v.pureB with
    | false => rfl
    | true =>
      rw [bif_neg (c := !true) rfl]
      by_cases h0 : room < 0
      · rw [bif_pos (dec_t h0), if_pos (.inr h0)]
        rfl
      rw [bif_neg (dec_f h0), if_neg (by simp [h0]), bif_neg (dec_f (by omega))]
      by_cases h1 : v.k = 1
      · obtain ⟨a, b⟩ := pure_num hp h1
        have := wid_le8 (n := v.n.toNat) (by omega)
        rw [bif_pos (ieq_t h1), if_pos h1, n_plain _ a b, Option.bind_some, plainB_len, wi_id (by omega) (by omega)]
        rfl
      · rw [bif_neg (ieq_f h1), if_neg h1]
        have hl := pure_len hp
        by_cases h2 : v.k = 2
        · rw [bif_pos (ieq_t h2), if_pos h2, wi_id (by omega) (by omega)]
          rfl
        · rw [bif_neg (ieq_f h2), if_neg h2, bif_neg (ieq_f (by omega)), if_neg (by omega)]
          have := n_measure_l2 v room d hr (by omega) hl.2 (m_codec_measure (d + 1)) (by omega) (fun x _ rm h1 h2 => ih x rm (by omega) h1 h2) (v.l.length + 1) 0 3 (Nat.zero_le _) (by omega) (by omega)
          exact this
theorem n_Size (v : V) : m_codec_Size v = some (if v.right = true then ((v.sz : Int), true) else (0, false)) := by
  unfold m_codec_Size
  have h := n_measure 16 v 1048576 (by omega) (by omega) (by omega)
  have h : m_codec_measure (Int.toNat 16 + 1) v 1048576 16 = some (msO (v.mF 1048576 16)) := h
  rw [h, Option.bind_some]
  have hz := V.sizeF_eq v
  unfold V.sizeF at hz
  cases hm : V.mF v 1048576 16 with
  | none =>
    rw [hm] at hz
    have hn : ¬ v.right = true := fun e => by rw [if_pos e] at hz; cases hz
    rw [if_neg hn]
    rfl
  | some s =>
    rw [hm] at hz
    have hz : (if s ≤ 1048576 then some s else none) = if v.right = true then some v.sz else none := hz
    show (bif !true then _ else bif decide ((s : Int) > 1048576) then _ else some ((s : Int), true)) = _
    rw [bif_neg (c := !true) rfl]
    by_cases hs : s ≤ 1048576
    · rw [bif_neg (dec_f (by omega))]
      rw [if_pos hs] at hz
      by_cases hr : v.right = true
      · rw [if_pos hr] at hz ⊢
        injection hz with hz
        rw [hz]
      · rw [if_neg hr] at hz; cases hz
    · rw [bif_pos (dec_t (by omega))]
      rw [if_neg hs] at hz
      by_cases hr : v.right = true
      · rw [if_pos hr] at hz; cases hz
      · rw [if_neg hr]

/-! ### Writing -/
theorem U8_nat {k : Nat} (h : k < 256) : U8 (k : Int) = UInt8.ofNat k := by
  unfold U8
  congr 1
  omega
theorem encs_drop (l : List V) (i : Nat) (h : i < l.length) : V.enc.encs (l.drop i) = l[i].enc ++ V.enc.encs (l.drop (i + 1)) := by
  rw [List.drop_eq_getElem_cons h, V.enc.encs]
theorem szs_drop (l : List V) (i : Nat) (h : i < l.length) : V.sz.szs (l.drop i) = l[i].sz + V.sz.szs (l.drop (i + 1)) := by
  rw [List.drop_eq_getElem_cons h, V.sz.szs]
theorem n_put_l1 (v : V) (self : List UInt8 → V → Option (List UInt8)) (hl : v.l.length ≤ 4096) (hself : ∀ x ∈ v.l, ∀ out : List UInt8, out.length + x.sz ≤ 1000000000 → self out x = some (out ++ x.enc)) :
    ∀ (n i : Nat) (out : List UInt8), i ≤ v.l.length → v.l.length - i < n → out.length + V.sz.szs (v.l.drop i) ≤ 1000000000 → m_codec_put_l1 v self n out (i : Int) = some (out ++ V.enc.encs (v.l.drop i))
  | 0, i, out, _, h, _ => by omega
  | n + 1, i, out, hi, h, ho => by
    unfold m_codec_put_l1
    by_cases hlt : i < v.l.length
    · rw [szs_drop _ _ hlt] at ho
      rw [bif_pos (dec_t (by omega)), idx_nat hlt, Option.bind_some, hself _ (List.getElem_mem hlt) out (by omega), Option.bind_some, wi_succ (by omega), n_put_l1 v self hl hself n (i + 1) _ (by omega) (by omega) (by rw [List.length_append, V.enc_length]; omega), encs_drop _ _ hlt, List.append_assoc]
    · rw [bif_neg (dec_f (by omega)), List.drop_eq_nil_of_le (by omega), V.enc.encs, List.append_nil]
theorem n_wput {n k : Nat} (h : n < 256 ^ k) (h1 : 1 ≤ k) (h8 : k ≤ 8) (hn : n ≤ 4611686018427387904) : m_word_Put (n : Int) (k : Int) = some (be k n, 0) := by
  unfold m_word_Put
  rw [if_pos ⟨by omega, by omega, by omega, by omega, by simpa using h⟩]
  simp
theorem n_wput3 {n : Nat} (h : n < 16777216) : m_word_Put (n : Int) 3 = some (be 3 n, 0) := n_wput (k := 3) (by omega) (by omega) (by omega) (by omega)
theorem n_wput2 {n : Nat} (h : n < 65536) : m_word_Put (n : Int) 2 = some (be 2 n, 0) := n_wput (k := 2) (by omega) (by omega) (by omega) (by omega)
theorem n_put : ∀ (k : Nat) (v : V) (out : List UInt8), v.ht ≤ k → v.rpure = true → v.sz ≤ 1048576 → out.length + v.sz ≤ 1000000000 → m_codec_put k out v = some (out ++ v.enc)
  | 0, v, out, h, _, _, _ => absurd v.ht_pos (by omega)
  | k + 1, v, out, h, hp, hs, ho => by
    unfold m_codec_put
    have hf := V.rpure_flat hp
    have he := V.enc_eq v
    have hlen := V.enc_length v
    by_cases h1 : v.k = 1
    · rw [bif_pos (ieq_t h1)]
      rw [if_pos h1] at he
      have hn : 0 ≤ v.n ∧ v.n ≤ 4611686018427387904 := by
        unfold V.flat at hf
        rw [if_pos h1] at hf
        simp at hf
        omega
      have hw := wid_le8 (n := v.n.toNat) (by omega)
      rw [n_plain _ hn.1 hn.2, Option.bind_some, appI_ok (by simp; omega), Option.bind_some, appI_ok (by simp [plainB_len]; omega), Option.bind_some, he, plainB_len, U8_nat (by omega)]
      simp
    · rw [bif_neg (ieq_f h1)]
      rw [if_neg h1] at he
      by_cases h2 : v.k = 2
      · rw [bif_pos (ieq_t h2)]
        rw [if_pos h2] at he
        have hb : v.b.length ≤ 1048576 := by
          rw [he] at hlen
          simp [be_length] at hlen
          omega
        rw [n_wput3 (by omega), Option.bind_some, appI_ok (by simp; omega), Option.bind_some, appI_ok (by simp [be_length]; omega), Option.bind_some, appI_ok (by simp [be_length]; omega), Option.bind_some, he]
        simp
      · rw [bif_neg (ieq_f h2)]
        rw [if_neg h2] at he
        obtain ⟨h3, _, _, hl⟩ := V.flat_kind hf h1 h2
        have hi := V.rpure_items hp h3
        rw [n_wput2 (by omega), Option.bind_some, appI_ok (by simp; omega), Option.bind_some, appI_ok (by simp [be_length]; omega), Option.bind_some]
        have hz : V.sz.szs v.l + 3 = v.sz := by
          cases v with
          | mk k n b l =>
            have h1 : ¬ k = 1 := h1
            have h2 : ¬ k = 2 := h2
            rw [V.sz, if_neg h1, if_neg h2]
            show V.sz.szs l + 3 = _
            omega
        have := n_put_l1 v (m_codec_put k) hl (fun x hx o ho => n_put k x o (by have := V.ht_item v x hx; omega) (hi x hx) (by have := V.sz_le_szs v.l x hx; omega) ho) (v.l.length + 1) 0 (out ++ [3] ++ be 2 v.l.length) (Nat.zero_le _) (by omega) (by simp [be_length]; omega)
        rw [show (0 : Int) = ((0 : Nat) : Int) from rfl, this, he]
        simp
theorem n_put_n0_l1_eq (v : V) : ∀ (n : Nat) (o : List UInt8) (i : Int), m_codec_put_n0_l1 v n o i = m_codec_put_l1 v (fun o x => m_codec_put x.ht o x) n o i
  | 0, _, _ => rfl
  | n + 1, o, i => by
    unfold m_codec_put_n0_l1 m_codec_put_l1
    simp only [n_put_n0_l1_eq v n]
theorem n_put_n0 (v : V) (hp : v.rpure = true) (hs : v.sz ≤ 1048576) : m_codec_put_n0 v = some v.enc := by
  have h : m_codec_put_n0 v = m_codec_put (v.ht + 1) [] v := by
    unfold m_codec_put_n0 m_codec_put
    by_cases h1 : v.k = 1
    · rw [bif_pos (ieq_t h1), bif_pos (ieq_t h1)]
    · rw [bif_neg (ieq_f h1), bif_neg (ieq_f h1)]
      by_cases h2 : v.k = 2
      · rw [bif_pos (ieq_t h2), bif_pos (ieq_t h2)]
      · rw [bif_neg (ieq_f h2), bif_neg (ieq_f h2)]
        have hf := V.rpure_flat hp
        obtain ⟨h3, _, _, hl⟩ := V.flat_kind hf h1 h2
        have hi := V.rpure_items hp h3
        have hz : V.sz.szs v.l ≤ 1048576 := by
          cases v with
          | mk k n b l =>
            have h1 : ¬ k = 1 := h1
            have h2 : ¬ k = 2 := h2
            rw [V.sz, if_neg h1, if_neg h2] at hs
            show V.sz.szs l ≤ _
            omega
        rw [n_wput2 (by omega), Option.bind_some, Option.bind_some, appI_ok (by simp), Option.bind_some, Option.bind_some, appI_ok (by simp [be_length]), Option.bind_some, Option.bind_some, n_put_n0_l1_eq]
        have e1 := n_put_l1 v (fun o x => m_codec_put x.ht o x) hl (fun x hx o ho => n_put x.ht x o (Nat.le_refl _) (hi x hx) (by have := V.sz_le_szs v.l x hx; omega) ho) (v.l.length + 1) 0 ([] ++ [3] ++ be 2 v.l.length) (Nat.zero_le _) (by omega) (by simp [be_length]; omega)
        have e2 := n_put_l1 v (m_codec_put v.ht) hl (fun x hx o ho => n_put v.ht x o (by have := V.ht_item v x hx; omega) (hi x hx) (by have := V.sz_le_szs v.l x hx; omega) ho) (v.l.length + 1) 0 ([] ++ [3] ++ be 2 v.l.length) (Nat.zero_le _) (by omega) (by simp [be_length]; omega)
        exact e1.trans e2.symm
  rw [h, n_put (v.ht + 1) v [] (by omega) hp hs (by simp; omega), List.nil_append]
theorem right_iff {v : V} (h : v.right = true) : v.rpure = true ∧ v.deep ≤ 16 ∧ v.sz ≤ 1048576 := by
  unfold V.right at h
  simpa [and_assoc] using h
theorem n_Encode (v : V) : m_codec_Encode v = some (if v.right = true then (v.enc, 0) else ([], 2)) := by
  unfold m_codec_Encode
  try rw [V.eta]
  rw [n_Size, Option.bind_some]
  by_cases h : v.right = true
  · rw [if_pos h, if_pos h]
    rw [bif_neg (c := !true) rfl, n_put_n0 v (right_iff h).1 (right_iff h).2.2]
    rfl
  · rw [if_neg h, if_neg h]
    rfl
end Go.Proofs.YteopjhakjeknaaaDoor
