/-
  The law 'CodecBack', plain: its model answers true.
-/
import Derived.Test.YtimdogdplphmoabCdN
import Derived.Test.YtimdogdplphmoabPfew
import Derived.KernelRfl
namespace Go.Proofs.Ytimdogdplphmoab
open Go Go.RowKit
set_option linter.unusedVariables false
set_option linter.unusedSimpArgs false

theorem V.ext2 {a b : V} (h1 : a.k = b.k) (h2 : a.n = b.n) (h3 : a.b = b.b) (h4 : a.l = b.l) : a = b := by
  rw [← a.eta, ← b.eta, h1, h2, h3, h4]
/-- The model tells whether two are one. -/
def Tells (x : Option Bool) (p : Prop) : Prop := ∃ r, x = some r ∧ (r = true ↔ p)
theorem Tells.yes {x : Option Bool} {p : Prop} (h : Tells x p) (hp : p) : x = some true := by
  obtain ⟨r, h1, h2⟩ := h
  rw [h1, h2.2 hp]
theorem Tells.no {x : Option Bool} {p : Prop} (h : Tells x p) (hp : ¬ p) : x = some false := by
  obtain ⟨r, h1, h2⟩ := h
  cases r with
  | false => exact h1
  | true => exact absurd (h2.1 rfl) hp
theorem n_codec_Same : ∀ (k : Nat) (a b : V), a.ht ≤ k → a.wt ≤ 1000000000000 → Tells (m_codec_Same k a b) (a = b)
  | 0, a, b, h, _ => absurd a.ht_pos (by omega)
  | k + 1, a, b, h, hw => by
    unfold m_codec_Same
    by_cases h1 : a.k = b.k
    · rw [bif_pos (ieq_t h1)]
      by_cases h2 : a.n = b.n
      · rw [bif_pos (ieq_t h2)]
        unfold m_bytes_Equal
        rw [Option.bind_some]
        by_cases h3 : a.b = b.b
        · rw [bif_pos (by rw [h3]; simp)]
          unfold m_slices_EqualFunc_Value
          by_cases h4 : a.l.length = b.l.length
          · rw [bif_neg (ine_f (by omega))]
            have hal := a.len_l
            obtain ⟨r, hr, hri⟩ := pair_loop a.l b.l h4 (by omega) (m_codec_Same k) (m_slices_EqualFunc_Value_l1 a.l b.l (m_codec_Same k)) (fun n z => rfl) (fun x hx y => n_codec_Same k x y (by have := V.ht_item a x hx; omega) (by have := V.wt_item a x hx; omega)) (a.l.length + 1) 0 (Nat.zero_le _) (by omega)
            refine ⟨r, ?_, hri.trans ⟨fun e => V.ext2 h1 h2 h3 e, fun e => by rw [e]⟩⟩
            show Option.bind (m_slices_EqualFunc_Value_l1 a.l b.l (m_codec_Same k) (a.l.length + 1) ((0 : Nat) : Int)) _ = _
            rw [hr]
            rfl
          · rw [bif_pos (ine_t (by omega))]
            exact ⟨false, rfl, ⟨fun h => Bool.noConfusion h, fun e => absurd (by rw [e]) h4⟩⟩
        · rw [bif_neg (by rw [beq_eq_false_iff_ne]; exact h3)]
          exact ⟨false, rfl, ⟨fun h => Bool.noConfusion h, fun e => absurd (by rw [e]) h3⟩⟩
      · rw [bif_neg (ieq_f h2)]
        exact ⟨false, rfl, ⟨fun h => Bool.noConfusion h, fun e => absurd (by rw [e]) h2⟩⟩
    · rw [bif_neg (ieq_f h1)]
      exact ⟨false, rfl, ⟨fun h => Bool.noConfusion h, fun e => absurd (by rw [e]) h1⟩⟩
theorem n_R02_Same : ∀ (k : Nat) (a b : V), a.ht ≤ k → a.wt ≤ 1000000000000 → Tells (m_R02_Same k a b) (a = b)
  | 0, a, b, h, _ => absurd a.ht_pos (by omega)
  | k + 1, a, b, h, hw => by
    unfold m_R02_Same
    by_cases h1 : a.k = b.k
    · rw [bif_neg (ine_f h1)]
      by_cases h2 : a.n = b.n
      · rw [bif_neg (ine_f h2)]
        have hab := a.len_b
        rw [n_R01_Same _ _ (by omega), Option.bind_some]
        by_cases h3 : a.b = b.b
        · rw [bif_neg (by rw [h3]; simp)]
          by_cases h4 : a.l.length = b.l.length
          · rw [bif_neg (ine_f (by omega))]
            have hal := a.len_l
            obtain ⟨r, hr, hri⟩ := pair_loop a.l b.l h4 (by omega) (m_R02_Same k) (m_R02_Same_l1 a b (m_R02_Same k)) (fun n z => rfl) (fun x hx y => n_R02_Same k x y (by have := V.ht_item a x hx; omega) (by have := V.wt_item a x hx; omega)) (a.l.length + 1) 0 (Nat.zero_le _) (by omega)
            exact ⟨r, hr, hri.trans ⟨fun e => V.ext2 h1 h2 h3 e, fun e => by rw [e]⟩⟩
          · rw [bif_pos (ine_t (by omega))]
            exact ⟨false, rfl, ⟨fun h => Bool.noConfusion h, fun e => absurd (by rw [e]) h4⟩⟩
        · rw [bif_pos (by simp [h3])]
          exact ⟨false, rfl, ⟨fun h => Bool.noConfusion h, fun e => absurd (by rw [e]) h3⟩⟩
      · rw [bif_pos (ine_t h2)]
        exact ⟨false, rfl, ⟨fun h => Bool.noConfusion h, fun e => absurd (by rw [e]) h2⟩⟩
    · rw [bif_pos (ine_t h1)]
      exact ⟨false, rfl, ⟨fun h => Bool.noConfusion h, fun e => absurd (by rw [e]) h1⟩⟩
theorem n_parts_l1 (v : V) (self : V → Int → Int → Option Int) (d : Nat) (hd : d ≤ 1000) (hself : ∀ x ∈ v.l, ∀ r : Int, 0 ≤ r → r ≤ 1000 → self x r (d : Int) = some (partsF d x r)) (hl : v.l.length ≤ 9223372036854775807) :
    ∀ (n i : Nat) (r : Int), i ≤ v.l.length → v.l.length - i < n → -1 ≤ r → r ≤ 1000 → m_L02_parts_l1 v self ((d + 1 : Nat) : Int) n r (i : Int) = some (ploop (partsF d) (v.l.drop i) r)
  | 0, i, r, _, h, _, _ => by omega
  | n + 1, i, r, hi, h, h0, h1 => by
    unfold m_L02_parts_l1
    by_cases hlt : i < v.l.length
    · rw [bif_pos (dec_t (by omega)), idx_nat hlt, Option.bind_some, ploop_drop _ _ _ _ hlt]
      by_cases hr : r < 0
      · rw [bif_pos (dec_t hr), if_pos hr]
      · have hb := partsF_bd d v.l[i] r (by omega)
        rw [bif_neg (dec_f hr), if_neg hr, wi_id (z := ((d + 1 : Nat) : Int) - 1) (by omega) (by omega), show ((d + 1 : Nat) : Int) - 1 = (d : Int) by omega, hself _ (List.getElem_mem hlt) r (by omega) h1, Option.bind_some, wi_succ (by omega)]
        exact n_parts_l1 v self d hd hself hl n (i + 1) _ (by omega) (by omega) (by omega) (by omega)
    · rw [bif_neg (dec_f (by omega)), List.drop_eq_nil_of_le (by omega), ploop]
theorem n_parts : ∀ (d : Nat) (v : V) (r : Int), d ≤ 1000 → 0 ≤ r → r ≤ 1000 → v.Fit → m_L02_parts (d + 1) v r (d : Int) = some (partsF d v r)
  | 0, v, r, _, _, _, _ => rfl
  | d + 1, v, r, hd, h0, h1, hw => by
    unfold m_L02_parts
    have hal := hw.len
    rw [bif_neg (ieq_f (by omega)), partsF]
    by_cases hb : 2000 < v.b.length
    · rw [bif_pos (dec_t (by omega)), if_pos hb]
    · rw [bif_neg (dec_f (by omega)), if_neg hb, wi_id (z := r - 1) (by omega) (by omega)]
      exact n_parts_l1 v (m_L02_parts (d + 1)) d (by omega) (fun x hx r h0 h1 => n_parts d x r (by omega) h0 h1 (hw.item hx)) hal (v.l.length + 1) 0 (r - 1) (Nat.zero_le _) (by omega) (by omega) (by omega)
theorem awake02 : m_L02_awake = some true := by kernel_rfl
theorem n_Few {v : V} (hv : v.Fit) : m_L02_Few v = some (few v) := by
  unfold m_L02_Few few
  have h : m_L02_parts (Int.toNat 30 + 1) v 200 30 = some (partsF 30 v 200) := n_parts 30 v 200 (by omega) (by omega) (by omega) hv
  rw [h]
  rfl
theorem n_CodecBack_j1 (b : List UInt8) : m_L02_CodecBack_j1 b = some true := by
  unfold m_L02_CodecBack_j1
  rw [n_Decode, Option.bind_some]
  unfold decA
  cases hd : decS b with
  | error e =>
    have he := decS_err hd
    show (bif e != 0 then _ else _) = _
    rw [bif_pos (ine_t (by omega))]
    show Option.bind (m_codec_Same (V.ht (.mk 0 0 [] [])) (.mk 0 0 [] []) (.mk 0 0 [] [])) _ = _
    rw [(n_codec_Same _ _ _ (Nat.le_refl _) (by simp [V.wt, V.wt.wts])).yes rfl]
    rfl
  | ok v =>
    obtain ⟨h1, h2, h3, h4⟩ := decS_ok hd
    show (bif (0 : Int) != 0 then _ else _) = _
    rw [bif_neg (ine_f rfl)]
    show Option.bind (m_codec_Encode v) _ = _
    have hr : v.right = true := by unfold V.right; simp [h2, h3, h4]
    rw [n_Encode, if_pos hr, Option.bind_some]
    show (bif (0 : Int) == 0 then _ else _) = _
    rw [bif_pos (ieq_t rfl)]
    show Option.bind (m_R01_Same v.enc b) _ = _
    rw [n_R01_Same _ _ (by rw [V.enc_length]; omega), h1]
    simp
/-- The law: it answers true. -/
theorem n_CodecBack {v : V} (hv : v.Fit) (b : List UInt8) : m_L02_CodecBack v b = some true := by
  unfold m_L02_CodecBack
  rw [awake02, Option.bind_some, bif_neg (c := !true) rfl, n_Few hv, Option.bind_some]
  cases hf : few v with
  | false => rfl
  | true =>
    have hw := few_wt hf
    rw [bif_neg (c := !true) rfl]
    by_cases hb : b.length > 3000
    · rw [bif_pos (dec_t (by omega))]
    · rw [bif_neg (dec_f (by omega)), n_Encode, Option.bind_some]
      by_cases hr : v.right = true
      · rw [if_pos hr]
        show (bif (0 : Int) == 0 then Option.bind (m_codec_Decode v.enc) _ else _) = _
        rw [bif_pos (ieq_t rfl), n_Decode, Option.bind_some]
        unfold decA
        rw [decS_enc (right_iff hr)]
        show (bif (0 : Int) != 0 then _ else Option.bind (m_codec_Same v.ht v v) _) = _
        rw [bif_neg (ine_f rfl), (n_codec_Same _ _ _ (Nat.le_refl _) (by omega)).yes rfl, Option.bind_some, bif_neg (c := !true) rfl]
        show Option.bind (m_R02_Same v.ht v v) _ = _
        rw [(n_R02_Same _ _ _ (Nat.le_refl _) (by omega)).yes rfl, Option.bind_some, bif_neg (c := !true) rfl]
        exact n_CodecBack_j1 b
      · rw [if_neg hr]
        exact n_CodecBack_j1 b
end Go.Proofs.Ytimdogdplphmoab
