/-
  What the models of the document's codec compute, plain: Bytes is enc, Decode is decA.
-/
import Derived.Test.YteopjhakjeknaaaDoorCbN
import Derived.Test.YteopjhakjeknaaaDoorPdec
import Derived.Test.YteopjhakjeknaaaDoorCdN
import Derived.Test.YteopjhakjeknaaaDoorLoop
namespace Go.Proofs.YteopjhakjeknaaaDoor
open Go Go.RowKit
set_option linter.unusedVariables false
set_option linter.unusedSimpArgs false

theorem drop_cons {α : Type} {b r : List α} {c : α} {i : Nat} (h : b.drop i = c :: r) : i < b.length ∧ idx b (i : Int) = some c ∧ b.drop (i + 1) = r := by
  have hlt : i < b.length := by
    by_cases hlt : i < b.length
    · exact hlt
    · rw [List.drop_eq_nil_of_le (by omega)] at h; cases h
  rw [List.drop_eq_getElem_cons hlt] at h
  injection h with h1 h2
  exact ⟨hlt, by rw [idx_nat hlt, h1], h2⟩
theorem drop_nil {α : Type} {b : List α} {i : Nat} (h : b.drop i = []) : b.length ≤ i := by
  have := congrArg List.length h
  simp at this
  omega
theorem cutI_mid {α : Type} {l : List α} {lo n : Nat} (h : lo + n ≤ l.length) (z : Int) (hz : z = ((lo + n : Nat) : Int)) : cutI l (lo : Int) z = some ((l.drop lo).take n) := by
  subst hz
  unfold cutI
  rw [if_pos ⟨by omega, by omega, by omega⟩, Int.toNat_natCast, Int.toNat_natCast, List.drop_take]
  simp
theorem ofBE_le (x y : List UInt8) : ofBE x ≤ ofBE (x ++ y) := by
  unfold ofBE
  rw [List.foldl_append]
  generalize List.foldl (fun x c => x * 256 + c.toNat) 0 x = a
  induction y generalizing a with
  | nil => exact Nat.le_refl _
  | cons c r ih => exact Nat.le_trans (by omega) (ih (a * 256 + UInt8.toNat c))
theorem n_R01_Get_l2 (b : List UInt8) (hb : b.length ≤ 8) : ∀ (n i : Nat), i ≤ b.length → b.length - i < n → ofBE (b.take i) ≤ 4611686018427387904 → m_R01_Get_l2 b n (ofBE (b.take i) : Int) (i : Int) = some (if 4611686018427387904 < ofBE b then (0, 11) else ((ofBE b : Int), 0))
  | 0, i, _, h, _ => by omega
  | n + 1, i, hi, h, ho => by
    unfold m_R01_Get_l2
    by_cases hlt : i < b.length
    · rw [bif_pos (dec_t (by omega)), idx_nat hlt, Option.bind_some]
      have ht : ofBE (b.take (i + 1)) = ofBE (b.take i) * 256 + b[i].toNat := by rw [← List.take_append_getElem hlt, ofBE_snoc]
      have hm : ofBE (b.take (i + 1)) ≤ ofBE b := by
        have := ofBE_le (b.take (i + 1)) (b.drop (i + 1))
        rwa [List.take_append_drop] at this
      have hc := b[i].toNat_lt
      have hgo : ofBE (b.take (i + 1)) ≤ 4611686018427387904 → ∀ y, m_R01_Get_j3 (m_R01_Get_l2 b n) (ofBE (b.take i) : Int) b[i] (i : Int) y = some (if 4611686018427387904 < ofBE b then (0, 11) else ((ofBE b : Int), 0)) := by
        intro hle y
        unfold m_R01_Get_j3
        rw [wi_succ (by omega), wi_id (z := 256 * (ofBE (b.take i) : Int)) (by omega) (by omega), wi_id (by omega) (by omega)]
        rw [show (256 * (ofBE (b.take i) : Int) + (b[i].toNat : Int)) = ((ofBE (b.take (i + 1)) : Nat) : Int) by rw [ht]; omega]
        exact n_R01_Get_l2 b hb n (i + 1) (by omega) (by omega) hle
      by_cases h1 : 18014398509481984 < ofBE (b.take i)
      · rw [bif_pos (dec_t (by omega)), if_pos (by omega)]
      · rw [bif_neg (dec_f (by omega))]
        by_cases h2 : ofBE (b.take i) = 18014398509481984
        · rw [bif_pos (ieq_t (by omega))]
          by_cases h3 : 0 < b[i].toNat
          · rw [bif_pos (dec_t (by omega)), if_pos (by omega)]
          · rw [bif_neg (dec_f (by omega))]
            exact hgo (by omega) _
        · rw [bif_neg (ieq_f (by omega))]
          exact hgo (by omega) _
    · have e : i = b.length := by omega
      subst e
      rw [bif_neg (dec_f (by omega))]
      rw [List.take_length] at ho ⊢
      rw [if_neg (by omega)]
      rfl
theorem n_R01_Get (b : List UInt8) : m_R01_Get b = some (getN b, getE b) := by
  unfold m_R01_Get getN getE
  by_cases h0 : b.length = 0
  · rw [bif_pos (ieq_t (by omega)), if_pos (.inl h0), if_pos h0]
  · rw [bif_neg (ieq_f (by omega)), if_neg h0]
    by_cases h8 : 8 < b.length
    · rw [bif_pos (dec_t (by omega)), if_pos (.inr (.inl h8)), if_pos h8]
    · rw [bif_neg (dec_f (by omega)), if_neg h8]
      have h := n_R01_Get_l2 b (by omega) (b.length + 1) 0 (by omega) (by omega) (by simp [ofBE])
      have e : m_R01_Get_l2 b (b.length + 1) 0 0 = m_R01_Get_l2 b (b.length + 1) ((ofBE (b.take 0) : Nat) : Int) ((0 : Nat) : Int) := rfl
      rw [e, h]
      by_cases hx : 4611686018427387904 < ofBE b
      · rw [if_pos hx, if_pos hx, if_pos (.inr (.inr hx))]
      · rw [if_neg hx, if_neg hx, if_neg (by omega)]

/-! ### Reading -/
def Gv (x : Option (V × Int × Int)) (b : List UInt8) (y : Except Int (V × List UInt8)) : Prop := match y with
  | .ok (v, r) => ∃ i : Nat, x = some (v, (i : Int), 0) ∧ i ≤ b.length ∧ b.drop i = r
  | .error e => e ≠ 0 ∧ x = some (.mk 0 0 [] [], 0, e)
theorem gv10 {b : List UInt8} {x : Option (V × Int × Int)} (h : x = some (.mk 0 0 [] [], 0, 10)) : Gv x b (.error 10) := ⟨by decide, h⟩
theorem gv11 {b : List UInt8} {x : Option (V × Int × Int)} (h : x = some (.mk 0 0 [] [], 0, 11)) : Gv x b (.error 11) := ⟨by decide, h⟩
theorem n_R02_Read_l2 (N : Nat) (hN : N ≤ 65536) (q0 : Int) (f : List UInt8 → Except Int (V × List UInt8)) (b : List UInt8) (self : List UInt8 → Int → Int → Option (V × Int × Int)) (d : Nat) (hd : d ≤ 1000)
    (hself : ∀ j, j ≤ b.length → Gv (self b (j : Int) (d : Int)) b (f (b.drop j))) :
    ∀ (n q j : Nat) (l : List V), q ≤ N → N - q < n → j ≤ b.length → l.length = q → Gv (m_R02_Read_l2 ((N : Int), q0) self b ((d + 1 : Nat) : Int) n (j : Int) l (q : Int)) b (match pvI f (N - q) (b.drop j) with | .error e => .error e | .ok (l', r) => .ok (.mk 3 0 [] (l ++ l'), r))
  | 0, q, j, l, _, h, _, _ => by omega
  | n + 1, q, j, l, hq, h, hj, hl => by
    unfold m_R02_Read_l2
    by_cases hlt : q < N
    · rw [bif_pos (dec_t (by show (q : Int) < (N : Int); omega))]
      obtain ⟨k, hk⟩ : ∃ k, N - q = k + 1 := ⟨N - q - 1, by omega⟩
      rw [wi_id (z := ((d + 1 : Nat) : Int) - 1) (by omega) (by omega), show ((d + 1 : Nat) : Int) - 1 = (d : Int) by omega, hk, pvI]
      have hs := hself j hj
      cases hf : f (b.drop j) with
      | error e =>
        rw [hf] at hs
        obtain ⟨he, hs⟩ := hs
        rw [hs, Option.bind_some, bif_pos (c := e != 0) (ine_t he)]
        exact ⟨he, rfl⟩
      | ok vr =>
        obtain ⟨v, r⟩ := vr
        rw [hf] at hs
        obtain ⟨i, hs, hi, hr⟩ := hs
        rw [hs, Option.bind_some, bif_neg (c := (0 : Int) != 0) rfl, appI_ok (by simp; omega), Option.bind_some, wi_succ (by omega)]
        have ih := n_R02_Read_l2 N hN q0 f b self d hd hself n (q + 1) i (l ++ [v]) (by omega) (by omega) hi (by simp [hl])
        rw [show N - (q + 1) = k by omega, hr] at ih
        show Gv (m_R02_Read_l2 ((N : Int), q0) self b ((d + 1 : Nat) : Int) n (i : Int) (l ++ [v]) ((q + 1 : Nat) : Int)) b (match (match pvI f k r with | .error e => (.error e : Except Int (List V × List UInt8)) | .ok (l', r') => .ok (v :: l', r')) with | .error e => .error e | .ok (l', r') => .ok (.mk 3 0 [] (l ++ l'), r'))
        generalize pvI f k r = z at ih ⊢
        cases z with
        | error e => exact ih
        | ok lr =>
          obtain ⟨l', r'⟩ := lr
          show Gv _ b (.ok (.mk 3 0 [] (l ++ v :: l'), r'))
          rw [show l ++ v :: l' = l ++ [v] ++ l' by simp]
          exact ih
    · have e : N - q = 0 := by omega
      rw [bif_neg (dec_f (by show ¬ (q : Int) < (N : Int); omega)), e, pvI]
      show Gv _ b (.ok (.mk 3 0 [] (l ++ []), b.drop j))
      rw [List.append_nil]
      exact ⟨j, rfl, hj, rfl⟩
theorem n_R02_Read_step (b : List UInt8) (hb : b.length ≤ 1048576) (i : Nat) (hi : i ≤ b.length) (k0 : Nat) (p2 : Int) (sub : Option (List UInt8 → Except Int (V × List UInt8)))
    (h0 : p2 = 0 → sub = none) (h1 : p2 ≠ 0 → ∃ d f, d ≤ 1000 ∧ p2 = ((d + 1 : Nat) : Int) ∧ sub = some f ∧ ∀ j, j ≤ b.length → Gv (m_R02_Read k0 b (j : Int) (d : Int)) b (f (b.drop j))) :
    Gv (m_R02_Read (k0 + 1) b (i : Int) p2) b (pvK sub (b.drop i)) := by
  unfold m_R02_Read
  cases hx : b.drop i with
  | nil =>
    have := drop_nil hx
    rw [bif_pos (dec_t (by omega)), pvK_nil]
    exact gv10 rfl
  | cons k r =>
    obtain ⟨hlt, hk, hr⟩ := drop_cons hx
    have hrl : r.length = b.length - (i + 1) := by rw [← hr]; simp
    rw [bif_neg (dec_f (by omega)), hk, Option.bind_some, wi_succ (by omega), pvK_cons]
    by_cases k1 : k.toNat = 1
    · rw [bif_pos (ieq_t (by omega)), if_pos k1]
      cases hy : r with
      | nil =>
        rw [hy] at hrl
        simp only [List.length_nil] at hrl
        rw [bif_pos (dec_t (by omega)), pvN_nil]
        exact gv10 rfl
      | cons c s =>
        rw [hy] at hr
        obtain ⟨hlt2, hc, hs⟩ := drop_cons hr
        have hsl : s.length = b.length - (i + 2) := by rw [← hs]; simp
        rw [bif_neg (dec_f (by omega)), hc, Option.bind_some, wi_succ (n := i + 1) (by omega), pvN_cons]
        by_cases c8 : 8 < c.toNat
        · rw [bif_pos (dec_t (by omega)), if_pos c8]
          exact gv11 rfl
        · rw [bif_neg (dec_f (by omega)), if_neg c8, wi_id (z := (b.length : Int) - ((i + 1 + 1 : Nat) : Int)) (by omega) (by omega)]
          by_cases hsh : s.length < c.toNat
          · rw [bif_pos (dec_t (by omega)), if_pos hsh]
            exact gv10 rfl
          · rw [bif_neg (dec_f (by omega)), if_neg hsh]
            by_cases c0 : c.toNat = 0
            · rw [bif_pos (ieq_t (by omega)), if_pos c0]
              exact ⟨i + 1 + 1, rfl, by omega, hs⟩
            · rw [bif_neg (ieq_f (by omega)), if_neg c0, wi_id (z := ((i + 1 + 1 : Nat) : Int) + (c.toNat : Int)) (by omega) (by omega), cutI_mid (n := c.toNat) (by omega) _ (by omega), Option.bind_some, n_R01_Get, Option.bind_some, hs]
              have hl : (s.take c.toNat).length = c.toNat := by simp; omega
              obtain ⟨x, s', hs'⟩ : ∃ x s', s = x :: s' := by
                cases hsx : s with
                | nil => rw [hsx] at hsh; simp at hsh; omega
                | cons x s' => exact ⟨x, s', rfl⟩
              rw [hs'] at hs
              obtain ⟨_, hx0, _⟩ := drop_cons hs
              rw [hx0, Option.bind_some]
              by_cases hbig : 4611686018427387904 < ofBE (s.take c.toNat)
              · have he : getE (s.take c.toNat) = 11 := by unfold getE; rw [hl, if_neg c0, if_neg c8, if_pos hbig]
                rw [he, bif_pos (c := (11 : Int) != 0) rfl, if_pos (.inl hbig)]
                exact gv11 rfl
              · have he : getE (s.take c.toNat) = 0 := by unfold getE; rw [hl, if_neg c0, if_neg c8, if_neg hbig]
                have hn : getN (s.take c.toNat) = ofBE (s.take c.toNat) := by unfold getN; rw [hl, if_neg (by omega)]
                rw [he, hn, bif_neg (c := (0 : Int) != 0) rfl]
                by_cases hx00 : x.toNat = 0
                · have hx1 : x = 0 := by have := byte_of hx00; simpa using this
                  rw [bif_pos (ieq_t (by omega)), if_pos (.inr (by rw [hs', hx1]; rfl))]
                  exact gv11 rfl
                · rw [bif_neg (ieq_f (by omega)), if_neg (by
                    rintro (h | h)
                    · exact hbig h
                    · rw [hs'] at h
                      injection h with h
                      rw [h] at hx00
                      exact hx00 rfl)]
                  refine ⟨i + 1 + 1 + c.toNat, ?_, by omega, ?_⟩
                  · rw [show ((i + 1 + 1 : Nat) : Int) + (c.toNat : Int) = ((i + 1 + 1 + c.toNat : Nat) : Int) by omega]
                  · rw [← List.drop_drop, hs, ← hs']
    · rw [bif_neg (ieq_f (by omega)), if_neg k1]
      by_cases k2 : k.toNat = 2
      · rw [bif_pos (ieq_t (by omega)), if_pos k2, wi_id (z := (b.length : Int) - ((i + 1 : Nat) : Int)) (by omega) (by omega)]
        unfold pvB
        by_cases h3 : r.length < 3
        · rw [bif_pos (dec_t (by omega)), if_pos h3]
          exact gv10 rfl
        · rw [bif_neg (dec_f (by omega)), if_neg h3, wi_id (z := ((i + 1 : Nat) : Int) + 3) (by omega) (by omega), cutI_mid (n := 3) (by omega) _ (by omega), Option.bind_some, n_R01_Get, Option.bind_some, hr]
          have hl3 : (r.take 3).length = 3 := by simp; omega
          rw [getN_small (by omega) (by omega)]
          have hlt3 := ofBE_lt 3 _ hl3
          rw [wi_id (z := (b.length : Int) - (((i + 1 : Nat) : Int) + 3)) (by omega) (by omega)]
          by_cases hsh : (r.drop 3).length < ofBE (r.take 3)
          · rw [bif_pos (dec_t (by simp at hsh; show ((ofBE (r.take 3) : Nat) : Int) > _; omega)), if_pos hsh]
            exact gv10 rfl
          · rw [bif_neg (dec_f (by simp at hsh; show ¬ ((ofBE (r.take 3) : Nat) : Int) > _; omega)), if_neg hsh]
            have hd3 : b.drop (i + 1 + 3) = r.drop 3 := by rw [← List.drop_drop, hr]
            have hlen : ofBE (r.take 3) ≤ b.length - (i + 1 + 3) := by simp at hsh; omega
            show Gv (Option.bind (cutI b (((i + 1 : Nat) : Int) + 3) (wi (((i + 1 : Nat) : Int) + 3 + ((ofBE (r.take 3) : Nat) : Int)))) _) b _
            rw [wi_id (by omega) (by omega), show ((i + 1 : Nat) : Int) + 3 = ((i + 1 + 3 : Nat) : Int) by omega, cutI_mid (n := ofBE (r.take 3)) (by omega) _ (by omega), Option.bind_some, hd3]
            refine ⟨i + 1 + 3 + ofBE (r.take 3), ?_, by omega, ?_⟩
            · rw [show ((i + 1 + 3 : Nat) : Int) + ((ofBE (r.take 3) : Nat) : Int) = ((i + 1 + 3 + ofBE (r.take 3) : Nat) : Int) by omega]
            · rw [← List.drop_drop, hd3]
      · rw [bif_neg (ieq_f (by omega)), if_neg k2]
        by_cases k3 : k.toNat = 3
        · rw [bif_neg (ine_f (by omega)), if_pos k3, wi_id (z := (b.length : Int) - ((i + 1 : Nat) : Int)) (by omega) (by omega)]
          by_cases h2 : r.length < 2
          · rw [bif_pos (dec_t (by omega)), if_pos h2]
            exact gv10 rfl
          · rw [bif_neg (dec_f (by omega)), if_neg h2, wi_id (z := ((i + 1 : Nat) : Int) + 2) (by omega) (by omega), cutI_mid (n := 2) (by omega) _ (by omega), Option.bind_some, n_R01_Get, Option.bind_some, hr]
            have hl2 : (r.take 2).length = 2 := by simp; omega
            rw [getN_small (by omega) (by omega)]
            have hlt2 := ofBE_lt 2 _ hl2
            have hd2 : b.drop (i + 1 + 2) = r.drop 2 := by rw [← List.drop_drop, hr]
            by_cases hbig : 4096 < ofBE (r.take 2)
            · rw [bif_pos (dec_t (by show ((ofBE (r.take 2) : Nat) : Int) > _; omega)), if_pos hbig]
              exact gv11 rfl
            · rw [bif_neg (dec_f (by show ¬ ((ofBE (r.take 2) : Nat) : Int) > _; omega)), if_neg hbig]
              by_cases hp : p2 = 0
              · rw [bif_pos (ieq_t hp), h0 hp]
                exact gv11 rfl
              · obtain ⟨d, f, hd, e, hs, hself⟩ := h1 hp
                rw [bif_neg (ieq_f hp), hs]
                subst e
                have h := n_R02_Read_l2 (ofBE (r.take 2)) (by omega) (getE (r.take 2)) f b (m_R02_Read k0) d hd hself (ofBE (r.take 2) + 1) 0 (i + 1 + 2) [] (by omega) (by omega) (by omega) rfl
                rw [Nat.sub_zero, hd2] at h
                show Gv (m_R02_Read_l2 (((ofBE (r.take 2) : Nat) : Int), getE (r.take 2)) (m_R02_Read k0) b ((d + 1 : Nat) : Int) (ofBE (r.take 2) + 1) (((i + 1 : Nat) : Int) + 2) [] ((0 : Nat) : Int)) b _
                rw [show ((i + 1 : Nat) : Int) + 2 = ((i + 1 + 2 : Nat) : Int) by omega]
                show Gv _ b (pvL (pvI f (ofBE (r.take 2)) (r.drop 2)))
                generalize pvI f (ofBE (r.take 2)) (r.drop 2) = z at h ⊢
                cases z with
                | error e => exact h
                | ok lr => exact h
        · rw [bif_pos (ine_t (by omega)), if_neg k3]
          exact gv11 rfl
theorem n_R02_Read (b : List UInt8) (hb : b.length ≤ 1048576) : ∀ (d i : Nat), d ≤ 1000 → i ≤ b.length → Gv (m_R02_Read (d + 1) b (i : Int) (d : Int)) b (pv d (b.drop i))
  | 0, i, _, hi => n_R02_Read_step b hb i hi 0 0 none (fun _ => rfl) (fun h => absurd rfl h)
  | d + 1, i, hd, hi => n_R02_Read_step b hb i hi (d + 1) ((d + 1 : Nat) : Int) (some (pv d)) (fun h => by omega) (fun _ => ⟨d, pv d, by omega, rfl, rfl, fun j hj => n_R02_Read b hb d j (by omega) hj⟩)
theorem n_R02_Decode (b : List UInt8) : m_R02_Decode b = some (decA b) := by
  unfold m_R02_Decode decA decS
  by_cases hl : 1048576 < b.length
  · rw [bif_pos (dec_t (by omega)), if_pos hl]
  · rw [bif_neg (dec_f (by omega)), if_neg hl]
    have h := n_R02_Read b (by omega) 16 0 (by omega) (by omega)
    have e : m_R02_Read (Int.toNat 16 + 1) b 0 16 = m_R02_Read (16 + 1) b ((0 : Nat) : Int) ((16 : Nat) : Int) := rfl
    rw [List.drop_zero] at h
    rw [e]
    cases hp : pv 16 b with
    | error e =>
      rw [hp] at h
      obtain ⟨he, h⟩ := h
      rw [h, Option.bind_some]
      show (bif e != 0 then some (V.mk 0 0 [] [], e) else _) = _
      rw [bif_pos (ine_t he)]
    | ok vr =>
      obtain ⟨v, r⟩ := vr
      rw [hp] at h
      obtain ⟨i, h, hi, hr⟩ := h
      rw [h, Option.bind_some]
      show (bif (0 : Int) != 0 then _ else bif decide ((i : Int) < (b.length : Int)) then _ else some (v, 0)) = some (match (if r.isEmpty = true then Except.ok v else Except.error 12 : Except Int V) with | .ok v => (v, 0) | .error e => (V.mk 0 0 [] [], e))
      rw [bif_neg (ine_f rfl)]
      have hrl : r.length = b.length - i := by rw [← hr]; simp
      cases r with
      | nil =>
        simp only [List.length_nil] at hrl
        rw [bif_neg (dec_f (by omega))]
        rfl
      | cons c r =>
        simp only [List.length_cons] at hrl
        rw [bif_pos (dec_t (by omega))]
        rfl

/-! ### Bytes -/
theorem n_R01_Low_l2 (k : Nat) (hk : k ≤ 8) : ∀ (n i m : Nat) (out : List UInt8), i ≤ k → k - i < n → out.length = i → m ≤ 4611686018427387904 → m_R01_Low_l2 (k : Int) n (m : Int) out (i : Int) = some (if 0 < m / 256 ^ (k - i) then ([], 2) else (out ++ le (k - i) m, 0))
  | 0, i, m, out, _, h, _, _ => by omega
  | n + 1, i, m, out, hi, h, ho, hm => by
    unfold m_R01_Low_l2
    by_cases hlt : i < k
    · rw [bif_pos (dec_t (by omega)), appI_ok (by simp; omega), Option.bind_some, wi_succ (by omega)]
      have e1 : Int.tdiv (m : Int) 256 = ((m / 256 : Nat) : Int) := rfl
      have e2 : Int.tmod (m : Int) 256 = ((m % 256 : Nat) : Int) := rfl
      rw [e1, e2, wi_id (by omega) (by omega), U8_nat (by omega), n_R01_Low_l2 k hk n (i + 1) (m / 256) _ (by omega) (by omega) (by simp [ho]) (by omega)]
      obtain ⟨j, hj⟩ : ∃ j, k - i = j + 1 := ⟨k - i - 1, by omega⟩
      rw [show k - (i + 1) = j by omega, hj, Nat.div_div_eq_div_mul, ← Nat.pow_succ', le]
      simp
    · have e : k - i = 0 := by omega
      rw [bif_neg (dec_f (by omega)), e]
      unfold m_R01_Low_j1
      by_cases h0 : 0 < m
      · rw [bif_pos (dec_t (by omega)), if_pos (by simpa using h0)]
      · rw [bif_neg (dec_f (by omega)), if_neg (by simpa using h0)]
        simp [le]
theorem n_R01_Turned_l1 (b : List UInt8) (hb : b.length ≤ 4611686018427387904) : ∀ (n i : Nat) (out : List UInt8), i ≤ b.length → i < n → out.length + i ≤ 1000000000 → m_R01_Turned_l1 b n out ((i : Int) - 1) = some (out ++ (b.take i).reverse)
  | 0, i, out, _, h, _ => by omega
  | n + 1, i, out, hi, h, ho => by
    unfold m_R01_Turned_l1
    cases i with
    | zero =>
      rw [bif_neg (dec_f (by omega))]
      simp
    | succ i =>
      rw [bif_pos (dec_t (by omega)), show ((i + 1 : Nat) : Int) - 1 = (i : Int) by omega, idx_nat (by omega), Option.bind_some, appI_ok (by simp; omega), Option.bind_some, wi_id (by omega) (by omega),
        n_R01_Turned_l1 b hb n i _ (by omega) (by omega) (by simp; omega), ← List.take_append_getElem (by omega : i < b.length), List.reverse_append]
      simp
theorem n_R01_Put {n k : Nat} (h : n < 256 ^ k) (h1 : 1 ≤ k) (h8 : k ≤ 8) (hn : n ≤ 4611686018427387904) : m_R01_Put (n : Int) (k : Int) = some (be k n, 0) := by
  unfold m_R01_Put m_R01_Low
  rw [bif_neg (dec_f (by omega)), bif_neg (dec_f (by omega)), bif_neg (dec_f (by omega)), bif_neg (dec_f (by omega)), Int.toNat_natCast]
  have hl := n_R01_Low_l2 k h8 (k + 1) 0 n [] (by omega) (by omega) rfl hn
  rw [Nat.sub_zero, if_neg (by rw [Nat.div_eq_of_lt h]; omega)] at hl
  show Option.bind (m_R01_Low_l2 (k : Int) (k + 1) (n : Int) [] ((0 : Nat) : Int)) _ = _
  rw [hl, Option.bind_some]
  show Option.bind (m_R01_Turned (le k n)) _ = _
  unfold m_R01_Turned
  rw [le_length, wi_id (by omega) (by omega)]
  have ht := n_R01_Turned_l1 (le k n) (by rw [le_length]; omega) (Int.toNat ((k : Int) - 1) + 2) k [] (by rw [le_length]; exact Nat.le_refl _) (by omega) (by simp; omega)
  rw [ht, Option.bind_some, show (le k n).take k = le k n from List.take_of_length_le (by rw [le_length]; exact Nat.le_refl _)]
  rfl
theorem n_R01_PutZ {z : Int} {w : Int} {n k : Nat} (hz : z = n) (hw : w = k) (h : n < 256 ^ k) (h1 : 1 ≤ k) (h8 : k ≤ 8) (hn : n ≤ 4611686018427387904) : m_R01_Put z w = some (be k n, 0) := by
  rw [hz, hw, n_R01_Put h h1 h8 hn]
theorem n_R02_Bytes_l2 (v : V) : ∀ (n : Nat) (i m : Nat), wid m < n → i + wid m ≤ 100 → m ≤ 4611686018427387904 → m_R02_Bytes_l2 v n (i : Int) (m : Int) = m_R02_Bytes_j1 v ((i + wid m : Nat) : Int)
  | 0, i, m, h, _, _ => by omega
  | n + 1, i, m, h, hi, hm => by
    unfold m_R02_Bytes_l2
    by_cases h0 : 0 < m
    · have hw' := wid_pos h0
      have e1 : Int.tdiv (m : Int) 256 = ((m / 256 : Nat) : Int) := rfl
      rw [bif_pos (dec_t (by omega)), e1, wi_succ (by omega), wi_id (by omega) (by omega), n_R02_Bytes_l2 v n (i + 1) (m / 256) (by omega) (by omega) (by omega), hw']
      rw [show i + 1 + wid (m / 256) = i + (wid (m / 256) + 1) by omega]
    · have e : m = 0 := by omega
      subst e
      rw [bif_neg (dec_f (by omega)), wid_zero, Nat.add_zero]
theorem n_R02_Bytes_l3 (v : V) (self : V → Option (List UInt8)) (hl : v.l.length ≤ 4096) (hself : ∀ x ∈ v.l, self x = some x.enc) : ∀ (n i : Nat) (out : List UInt8), i ≤ v.l.length → v.l.length - i < n → out.length + V.sz.szs (v.l.drop i) ≤ 1000000000 → m_R02_Bytes_l3 v self n out (i : Int) = some (out ++ V.enc.encs (v.l.drop i))
  | 0, i, out, _, h, _ => by omega
  | n + 1, i, out, hi, h, ho => by
    unfold m_R02_Bytes_l3
    by_cases hlt : i < v.l.length
    · rw [szs_drop _ _ hlt] at ho
      rw [bif_pos (dec_t (by omega)), idx_nat hlt, Option.bind_some, hself _ (List.getElem_mem hlt), Option.bind_some, appI_ok (by rw [V.enc_length]; omega), Option.bind_some, wi_succ (by omega),
        n_R02_Bytes_l3 v self hl hself n (i + 1) _ (by omega) (by omega) (by rw [List.length_append, V.enc_length]; omega), encs_drop _ _ hlt]
      simp
    · rw [bif_neg (dec_f (by omega)), List.drop_eq_nil_of_le (by omega)]
      simp [V.enc.encs]
theorem n_R02_Bytes : ∀ (k : Nat) (v : V), v.ht ≤ k → v.rpure = true → v.sz ≤ 1048576 → m_R02_Bytes k v = some v.enc
  | 0, v, h, _, _ => absurd v.ht_pos (by omega)
  | k + 1, v, h, hp, hs => by
    unfold m_R02_Bytes
    have hfl := V.rpure_flat hp
    by_cases k1 : v.k = 1
    · have hn : 0 ≤ v.n ∧ v.n ≤ 4611686018427387904 := by
        unfold V.flat at hfl
        rw [if_pos k1] at hfl
        simp at hfl
        omega
      obtain ⟨m, hm⟩ := Int.eq_ofNat_of_zero_le hn.1
      have hw : wid m ≤ 8 := wid_le8 (by omega)
      rw [bif_pos (ieq_t k1), hm]
      show m_R02_Bytes_l2 v 70 ((0 : Nat) : Int) (m : Int) = _
      rw [n_R02_Bytes_l2 v 70 0 m (by omega) (by omega) (by omega), Nat.zero_add, V.enc_eq, if_pos k1]
      unfold m_R02_Bytes_j1
      rw [U8_nat (by omega), hm, Int.toNat_natCast]
      by_cases hw0 : 0 < wid m
      · rw [bif_pos (dec_t (by omega)), n_R01_Put ((lt_wid _ _).2 (Nat.le_refl _)) (by omega) hw (by omega), Option.bind_some]
        show Option.bind (appI 1 [1, UInt8.ofNat (wid m)] (be (wid m) m)) _ = _
        rw [appI_ok (by rw [be_length]; simp; omega)]
        rfl
      · have e : wid m = 0 := by omega
        rw [bif_neg (dec_f (by omega))]
        unfold plainB
        rw [e]
        rfl
    · rw [bif_neg (ieq_f k1)]
      by_cases k2 : v.k = 2
      · have hsz : v.b.length ≤ 1048576 := by
          have : v.sz = 4 + v.b.length := by rw [← v.eta]; simp [V.sz, k2]; simp [V.b]
          omega
        rw [bif_pos (ieq_t k2), n_R01_PutZ (z := (v.b.length : Int)) (w := 3) (n := v.b.length) (k := 3) rfl rfl (by omega) (by omega) (by omega) (by omega), Option.bind_some]
        show Option.bind (appI 1 [2] (be 3 v.b.length)) _ = _
        rw [appI_ok (by rw [be_length]; simp), Option.bind_some, appI_ok (by simp [be_length]; omega), Option.bind_some, V.enc_eq, if_neg k1, if_pos k2]
        rfl
      · obtain ⟨k3, _, _, hll⟩ := V.flat_kind hfl k1 k2
        have hsz : V.sz.szs v.l ≤ 1048576 := by
          have : v.sz = 3 + V.sz.szs v.l := by
            cases v with
            | mk a b c d => simp [V.k] at k1 k2; simp [V.sz, V.l, k1, k2]
          omega
        have hself : ∀ x ∈ v.l, m_R02_Bytes k x = some x.enc := fun x hx =>
          n_R02_Bytes k x (by have := V.ht_item v x hx; omega) (V.rpure_items hp k3 x hx) (by have := V.sz_le_szs v.l x hx; omega)
        rw [bif_neg (ieq_f k2), n_R01_PutZ (z := (v.l.length : Int)) (w := 2) (n := v.l.length) (k := 2) rfl rfl (by omega) (by omega) (by omega) (by omega), Option.bind_some]
        show Option.bind (appI 1 [3] (be 2 v.l.length)) _ = _
        rw [appI_ok (by rw [be_length]; simp), Option.bind_some]
        show m_R02_Bytes_l3 v (m_R02_Bytes k) (v.l.length + 1) ([3] ++ be 2 v.l.length) ((0 : Nat) : Int) = _
        rw [n_R02_Bytes_l3 v (m_R02_Bytes k) hll hself (v.l.length + 1) 0 _ (by omega) (by omega) (by simp [be_length]; omega), V.enc_eq, if_neg k1, if_neg k2]
        rfl
end Go.Proofs.YteopjhakjeknaaaDoor
