/-
  Texts joined: see the remark at the head of each part.
-/
import Derived.Test.YtjomnccladjpgaaA13
import Derived.Test.YtjomnccladjpgaaA19
import Derived.Test.YtjomnccladjpgaaA18
set_option linter.unusedVariables false
set_option linter.unusedSimpArgs false
/-
  Plain: what a transaction does.
-/
namespace Go.Proofs.Ytjomnccladjpgaa
open Go Go.RowKit
set_option linter.unusedVariables false
set_option linter.unusedSimpArgs false

/-! ### Maps told by their entries -/
section
variable {ν : Type}
theorem mf_nil (k : Int) : mfind ([] : List (Int × ν)) k = none := rfl
theorem mf_cons (a : Int × ν) (l : List (Int × ν)) (k : Int) : mfind (a :: l) k = if k = a.1 then some a.2 else mfind l k := by
  unfold mfind mpos
  rw [List.findIdx?_cons]
  by_cases h : k = a.1
  · rw [if_pos (by simpa using h), if_pos h]
    rfl
  · rw [if_neg (by simpa using h), if_neg h]
    cases List.findIdx? (fun p : Int × ν => k == p.1) l <;> rfl
theorem ms_nil (k : Int) (v : ν) : mset [] k v = [(k, v)] := rfl
theorem ms_cons (a : Int × ν) (l : List (Int × ν)) (k : Int) (v : ν) : mset (a :: l) k v = if k = a.1 then (k, v) :: l else a :: mset l k v := by
  unfold mset mpos
  rw [List.findIdx?_cons]
  by_cases h : k = a.1
  · rw [if_pos (by simpa using h), if_pos h]
    rfl
  · rw [if_neg (by simpa using h), if_neg h]
    cases List.findIdx? (fun p : Int × ν => k == p.1) l <;> rfl
theorem mf_ms (l : List (Int × ν)) (k q : Int) (v : ν) : mfind (mset l k v) q = if q = k then some v else mfind l q := by
  induction l with
  | nil => rw [ms_nil, mf_cons, mf_nil]
  | cons a l ih =>
    rw [ms_cons]
    by_cases h : k = a.1
    · rw [if_pos h, mf_cons, mf_cons]
      by_cases h2 : q = k
      · rw [if_pos h2, if_pos h2]
      · rw [if_neg h2, if_neg h2, if_neg (by rw [← h]; exact h2)]
    · rw [if_neg h, mf_cons, mf_cons, ih]
      by_cases h2 : q = k
      · rw [if_pos h2, if_pos h2, if_neg (by rw [h2]; exact h)]
      · rw [if_neg h2, if_neg h2]
theorem ms_len (l : List (Int × ν)) (k : Int) (v : ν) : (mset l k v).length = if mfind l k = none then l.length + 1 else l.length := by
  induction l with
  | nil => rfl
  | cons a l ih =>
    rw [ms_cons, mf_cons]
    by_cases h : k = a.1
    · rw [if_pos h, if_pos h, if_neg (by simp)]
      rfl
    · rw [if_neg h, if_neg h, List.length_cons, ih]
      split <;> rfl
end

/-- A transaction: what its homes are (hs), and what was written (mp). -/
structure TIn (H : Hp) (t : Nat) (hs : List (List UInt8)) (mp : List (Int × List UInt8)) : Prop where
  at_ : ∃ i j d s b sl us com m, LIn H i j d s b sl us com ∧ H.tx[t]? = some ⟨some j, com, false, m⟩ ∧ H.mp[m]? = some mp ∧ hs.length = d.now.length - 2 - s ∧
    ∀ (k : Nat) (r : List UInt8), hs[k]? = some r → mfind mp (k : Int) = some r ∨ mfind mp (k : Int) = none ∧ d.now[2 + s + k]? = some r
  row : ∀ r ∈ hs, r.length = 64
  keys : ∀ (q : Int) (r : List UInt8), mfind mp q = some r → 0 ≤ q ∧ q < (hs.length : Int)

section
variable {H : Hp} {t : Nat} {hs : List (List UInt8)} {mp : List (Int × List UInt8)}
theorem TIn.low (h : TIn H t hs mp) : hs.length ≤ 16384 := by
  obtain ⟨⟨i, j, d, s, b, sl, us, com, m, h1, h2, h3, h4, h5⟩, _, _⟩ := h
  have := h1.ln
  omega
theorem TIn.wide (h : TIn H t hs mp) {k : Nat} {r : List UInt8} (hk : hs[k]? = some r) : r.length = 64 := h.row r (List.mem_of_getElem? hk)
theorem TIn.ht (h : TIn H t hs mp) : t < H.tx.length := by
  obtain ⟨⟨i, j, d, s, b, sl, us, com, m, h1, h2, h3, h4, h5⟩, _, _⟩ := h
  exact (List.getElem?_eq_some_iff.1 h2).1
theorem TIn.tell {H' : Hp} (h : TIn H t hs mp) (e1 : H'.dk = H.dk) (e2 : H'.sec = H.sec) (e3 : H'.lg = H.lg) (e4 : H'.tx = H.tx) (e5 : H'.mp = H.mp) : TIn H' t hs mp := by
  obtain ⟨⟨i, j, d, s, b, sl, us, com, m, h1, h2, h3, h4, h5⟩, h6, h7⟩ := h
  exact ⟨⟨i, j, d, s, b, sl, us, com, m, ⟨h1.dsk.lg e1 e2, h1.off, by rw [e3]; exact h1.lg, h1.s3, h1.sl, h1.ln, h1.bs⟩, by rw [e4]; exact h2, by rw [e5]; exact h3, h4, h5⟩, h6, h7⟩
theorem n_TAlive (h : TIn H t hs mp) : m_wal_Txn_alive (some t) H = some 0 := by
  obtain ⟨⟨i, j, d, s, b, sl, us, com, m, h1, h2, h3, h4, h5⟩, h6, h7⟩ := h
  unfold m_wal_Txn_alive
  show Option.bind (H.tx[t]?) _ = _
  rw [h2, Option.bind_some]
  show Option.bind (m_wal_Log_alive (some j) H) _ = _
  rw [n_alive h1, Option.bind_some, bif_neg (ine_f rfl)]
  show Option.bind (H.lg[j]?) _ = _
  rw [h1.lg, Option.bind_some]
  show (bif com != com then some 34 else some 0) = _
  rw [bif_neg (ine_f rfl)]
theorem n_TRead (h : TIn H t hs mp) {k : Nat} {r : List UInt8} (hr : hs[k]? = some r) : m_wal_Txn_Read (some t) (k : Int) H = some (r, 0) := by
  have ha := n_TAlive h
  have hw := h.wide hr
  obtain ⟨⟨i, j, d, s, b, sl, us, com, m, h1, h2, h3, h4, h5⟩, h6, h7⟩ := h
  unfold m_wal_Txn_Read
  rw [ha, Option.bind_some, bif_neg (ine_f rfl)]
  show Option.bind (H.tx[t]?) _ = _
  rw [h2, Option.bind_some]
  show Option.bind (H.mp[m]?) _ = _
  rw [h3, Option.bind_some]
  rcases h5 k r hr with h8 | ⟨h8, h9⟩
  · rw [h8, bif_pos (by rfl)]
    show Option.bind (m_slices_Clone_byte r) _ = _
    unfold m_slices_Clone_byte
    rw [appI_ok (by rw [List.length_nil]; omega), Option.bind_some]
    rfl
  · rw [h8, bif_neg (by rfl)]
    show Option.bind (m_wal_Log_Read (some j) (k : Int) H) _ = _
    rw [n_LRead h1 h9]
    rfl
theorem n_TWrite (h : TIn H t hs mp) {k : Nat} (hk : k < hs.length) {x : List UInt8} (hx : x.length = 64) :
    ∃ H', m_wal_Txn_Write (some t) (k : Int) x H = some (0, H') ∧ TIn H' t (hs.set k x) (mset mp (k : Int) x) ∧ ∃ m v, H' = H.st_mp m v := by
  have ha := n_TAlive h
  obtain ⟨⟨i, j, d, s, b, sl, us, com, m, h1, h2, h3, h4, h5⟩, h6, h7⟩ := h
  have hm : m < H.mp.length := (List.getElem?_eq_some_iff.1 h3).1
  refine ⟨H.st_mp m (mset mp (k : Int) x), ?_, ⟨⟨i, j, d, s, b, sl, us, com, m, ⟨h1.dsk.lg rfl rfl, h1.off, h1.lg, h1.s3, h1.sl, h1.ln, h1.bs⟩, h2, List.getElem?_set_self hm, by rw [List.length_set]; exact h4, fun q r hq => ?_⟩, fun r hr => ?_, fun q r hq => ?_⟩, m, _, rfl⟩
  · unfold m_wal_Txn_Write
    rw [ha, Option.bind_some, bif_neg (ine_f rfl), bif_neg (dec_f (by omega))]
    show Option.bind (H.tx[t]?) _ = _
    rw [h2, Option.bind_some]
    show Option.bind (m_wal_Log_Homes (some j) H) _ = _
    rw [n_Homes h1, Option.bind_some, bif_neg (dec_f (by omega)), bif_neg (ine_f (by omega))]
    unfold m_slices_Clone_byte
    rw [appI_ok (by rw [List.length_nil]; omega), Option.bind_some]
    show Option.bind (H.mp[m]?) _ = _
    rw [h3, Option.bind_some]
    rfl
  · rw [mf_ms]
    by_cases e : q = k
    · subst e
      rw [List.getElem?_set_self hk] at hq
      rw [if_pos rfl]
      exact .inl hq
    · rw [List.getElem?_set_ne (by omega)] at hq
      rw [if_neg (by omega)]
      exact h5 q r hq
  · rcases List.mem_or_eq_of_mem_set hr with hr | rfl
    · exact h6 r hr
    · exact hx
  · rw [List.length_set]
    rw [mf_ms] at hq
    by_cases e : q = k
    · omega
    · rw [if_neg e] at hq
      exact h7 q r hq
theorem n_TWriteOut (h : TIn H t hs mp) {z : Int} (hz : ¬ (0 ≤ z ∧ z < (hs.length : Int))) (x : List UInt8) : m_wal_Txn_Write (some t) z x H = some (31, H) := by
  have ha := n_TAlive h
  obtain ⟨⟨i, j, d, s, b, sl, us, com, m, h1, h2, h3, h4, h5⟩, h6, h7⟩ := h
  unfold m_wal_Txn_Write
  rw [ha, Option.bind_some, bif_neg (ine_f rfl)]
  by_cases h0 : z < 0
  · rw [bif_pos (dec_t h0)]
  · rw [bif_neg (dec_f h0)]
    show Option.bind (H.tx[t]?) _ = _
    rw [h2, Option.bind_some]
    show Option.bind (m_wal_Log_Homes (some j) H) _ = _
    rw [n_Homes h1, Option.bind_some, bif_pos (dec_t (by omega))]
theorem n_TWeight (h : TIn H t hs mp) : m_wal_Txn_Weight (some t) H = some (mp.length : Int) := by
  obtain ⟨⟨i, j, d, s, b, sl, us, com, m, h1, h2, h3, h4, h5⟩, h6, h7⟩ := h
  unfold m_wal_Txn_Weight
  show Option.bind (H.tx[t]?) _ = _
  rw [h2, Option.bind_some]
  show Option.bind (H.mp[m]?) _ = _
  rw [h3, Option.bind_some]
end

/-! ### A disk made anew, a log on it, a transaction of it -/
theorem z_badA {st : Nat} (h1 : 0 < st) (h2 : st < 18446744073709551616) : ¬ Valid st Z64 := by
  intro h
  have := congrArg ofBE (valid_end h)
  rw [ofBE_be, Nat.mod_eq_of_lt (by omega), show ofBE (Z64.drop 56) = 0 by decide +kernel] at this
  omega
/-- The homes of a log just made: noughts. -/
theorem open_new (w1 : Hp) {n s : Nat} (hn : n ≤ 16384) (hs : 3 ≤ s) (h2 : 2 + s < n) : ∃ H1 H2 H3 i j d, m_disk_New (n : Int) w1 = some (some i, 0, H1) ∧ m_wal_Format (some i) (s : Int) H1 = some (0, H2) ∧ m_wal_Open (some i) H2 = some (some j, 0, H3) ∧ WIn H3 i j d s (1 + s) 1 0 0 ∧ d.wait = [] ∧ d.now = ((List.replicate n Z64).set 0 (slotB 1 s)).set 1 (slotB (1 + s) s) := by
  obtain ⟨H1, e1, e2, e3⟩ := n_New (H := w1) (n := n) (by omega) (by omega)
  obtain ⟨H2, d2, f1, f2, f3, f4, f5, f6, f7, f8, f9⟩ := n_Format (n := n) (s := s) e2 rfl (by show (-1 : Int) < 0; omega) rfl rfl (by omega) (by omega) (by omega)
  have hl : d2.now.length = n := by rw [f5]; simp
  obtain ⟨K, g1, g2⟩ := n_Open_l5 (b := 1) (s := s) f2 f3 f4 hl (by omega) (by omega) (by omega) (by omega) (by omega) (by rw [f5, List.getElem?_set_self (by simp; omega)]) 0 (.inl ⟨by rw [f5, List.getElem?_set_ne (by omega), List.getElem?_replicate, if_pos (by omega)], rfl⟩)
  rw [if_pos rfl, if_pos rfl] at g2
  have hr : d2.now[2 + 0]? = some Z64 := by rw [f5, List.getElem?_set_ne (by omega), List.getElem?_replicate, if_pos (by omega)]
  have hs2 := n_says_none g2.toLIn ⟨_, n_at g2.toLIn (p := 0) (by omega) hr, atE_bad (z_badA (by omega) (by omega)) (by simp)⟩
  obtain ⟨H3, d3, k1, k2, k3, k4, k5, k6⟩ := n_Open_j4 (H := H2) g2 (by omega) (by omega) (by omega) hs2 (fun w hw => absurd hw List.not_mem_nil) (by simp) (by rw [f7]; simp)
  refine ⟨H1, H2, H3, w1.dk.length, H2.lg.length, d3, e1, f1, ?_, k2, k5, ?_⟩
  · rw [g1, k1]
  · rw [k3, f5]
    rfl
theorem n_Begin {H : Hp} {i j : Nat} {d : Dsk} {s b sl us : Nat} {com : Int} (h : LIn H i j d s b sl us com) : ∃ H', m_wal_Log_Begin (some j) H = some (some H.tx.length, 0, H') ∧ TIn H' H.tx.length (d.now.drop (2 + s)) [] ∧ H'.ix = H.ix := by
  have hsl := h.sl
  let X : S_wal_Txn := ⟨some j, com, false, H.mp.length⟩
  have e1 : ((H.nw_mp []).nw_tx X).tx[H.tx.length]? = some X := by
    show (H.tx ++ [X])[H.tx.length]? = _
    exact List.getElem?_concat_length
  have e2 : ((H.nw_mp []).nw_tx X).mp[H.mp.length]? = some [] := by
    show (H.mp ++ [[]])[H.mp.length]? = _
    exact List.getElem?_concat_length
  refine ⟨(H.nw_mp []).nw_tx X, ?_, ⟨⟨i, j, d, s, b, sl, us, com, H.mp.length, ⟨h.dsk.lg rfl rfl, h.off, h.lg, h.s3, h.sl, h.ln, h.bs⟩, e1, e2, by rw [List.length_drop]; omega, fun k r hk => .inr ⟨rfl, by rw [List.getElem?_drop] at hk; exact hk⟩⟩, fun r hr => ?_, fun q r hq => by cases hq⟩, rfl⟩
  · unfold m_wal_Log_Begin
    rw [n_alive h, Option.bind_some, bif_neg (ine_f rfl)]
    show Option.bind (H.lg[j]?) _ = _
    rw [h.lg, Option.bind_some]
    rfl
  · obtain ⟨k, hk⟩ := List.getElem?_of_mem hr
    rw [List.getElem?_drop] at hk
    exact h.dsk.row hk
end Go.Proofs.Ytjomnccladjpgaa

/-
  Plain: the bytes of an index's entries, and what the document says of them.
-/
namespace Go.Proofs.Ytjomnccladjpgaa
open Go Go.RowKit
set_option linter.unusedVariables false
set_option linter.unusedSimpArgs false

/-! ### Numbers as bytes, as the document has them -/
theorem U8_nat {n : Nat} (h : n < 256) : U8 (n : Int) = UInt8.ofNat n := by
  unfold U8
  congr 1
  omega
theorem ofBE_le (x y : List UInt8) : ofBE x ≤ ofBE (x ++ y) := by
  unfold ofBE
  rw [List.foldl_append]
  generalize List.foldl (fun x c => x * 256 + c.toNat) 0 x = a
  induction y generalizing a with
  | nil => exact Nat.le_refl _
  | cons c r ih => exact Nat.le_trans (by omega) (ih (a * 256 + UInt8.toNat c))
theorem n_R01_Get_l2 (b : List UInt8) (hb : b.length ≤ 8) : ∀ (n i : Nat), i ≤ b.length → b.length - i < n → ofBE (b.take i) ≤ 4611686018427387904 → m_R01_Get_l2 b n (ofBE (b.take i) : Int) (i : Int) = some (if 4611686018427387904 < ofBE b then (0, 11) else ((ofBE b : Int), 0))
  | 0, i, _, h, _ => by omega
  | n + 1, i, hi, h, ho => by
    unfold m_R01_Get_l2
    by_cases hlt : i < b.length
    · rw [bif_pos (dec_t (by omega)), idx_nat hlt, Option.bind_some]
      have ht : ofBE (b.take (i + 1)) = ofBE (b.take i) * 256 + b[i].toNat := by rw [← List.take_append_getElem hlt, ofBE_snoc]
      have hm : ofBE (b.take (i + 1)) ≤ ofBE b := by
        have := ofBE_le (b.take (i + 1)) (b.drop (i + 1))
        rwa [List.take_append_drop] at this
      have hc := b[i].toNat_lt
      have hgo : ofBE (b.take (i + 1)) ≤ 4611686018427387904 → ∀ y, m_R01_Get_j3 (m_R01_Get_l2 b n) (ofBE (b.take i) : Int) b[i] (i : Int) y = some (if 4611686018427387904 < ofBE b then (0, 11) else ((ofBE b : Int), 0)) := by
        intro hle y
        unfold m_R01_Get_j3
        rw [wi_succ (by omega), wi_id (z := 256 * (ofBE (b.take i) : Int)) (by omega) (by omega), wi_id (by omega) (by omega)]
        rw [show (256 * (ofBE (b.take i) : Int) + (b[i].toNat : Int)) = ((ofBE (b.take (i + 1)) : Nat) : Int) by rw [ht]; omega]
        exact n_R01_Get_l2 b hb n (i + 1) (by omega) (by omega) hle
      by_cases h1 : 18014398509481984 < ofBE (b.take i)
      · rw [bif_pos (dec_t (by omega)), if_pos (by omega)]
      · rw [bif_neg (dec_f (by omega))]
        by_cases h2 : ofBE (b.take i) = 18014398509481984
        · rw [bif_pos (ieq_t (by omega))]
          by_cases h3 : 0 < b[i].toNat
          · rw [bif_pos (dec_t (by omega)), if_pos (by omega)]
          · rw [bif_neg (dec_f (by omega))]
            exact hgo (by omega) _
        · rw [bif_neg (ieq_f (by omega))]
          exact hgo (by omega) _
    · have e : i = b.length := by omega
      subst e
      rw [bif_neg (dec_f (by omega))]
      rw [List.take_length] at ho ⊢
      rw [if_neg (by omega)]
      rfl
theorem n_R01_Get (b : List UInt8) : m_R01_Get b = some (getN b, getE b) := by
  unfold m_R01_Get getN getE
  by_cases h0 : b.length = 0
  · rw [bif_pos (ieq_t (by omega)), if_pos (.inl h0), if_pos h0]
  · rw [bif_neg (ieq_f (by omega)), if_neg h0]
    by_cases h8 : 8 < b.length
    · rw [bif_pos (dec_t (by omega)), if_pos (.inr (.inl h8)), if_pos h8]
    · rw [bif_neg (dec_f (by omega)), if_neg h8]
      have h := n_R01_Get_l2 b (by omega) (b.length + 1) 0 (by omega) (by omega) (by simp [ofBE])
      have e : m_R01_Get_l2 b (b.length + 1) 0 0 = m_R01_Get_l2 b (b.length + 1) ((ofBE (b.take 0) : Nat) : Int) ((0 : Nat) : Int) := rfl
      rw [e, h]
      by_cases hx : 4611686018427387904 < ofBE b
      · rw [if_pos hx, if_pos hx, if_pos (.inr (.inr hx))]
      · rw [if_neg hx, if_neg hx, if_neg (by omega)]

theorem n_R01_Low_l2 (k : Nat) (hk : k ≤ 8) : ∀ (n i m : Nat) (out : List UInt8), i ≤ k → k - i < n → out.length = i → m ≤ 4611686018427387904 → m_R01_Low_l2 (k : Int) n (m : Int) out (i : Int) = some (if 0 < m / 256 ^ (k - i) then ([], 2) else (out ++ le (k - i) m, 0))
  | 0, i, m, out, _, h, _, _ => by omega
  | n + 1, i, m, out, hi, h, ho, hm => by
    unfold m_R01_Low_l2
    by_cases hlt : i < k
    · rw [bif_pos (dec_t (by omega)), appI_ok (by simp; omega), Option.bind_some, wi_succ (by omega)]
      have e1 : Int.tdiv (m : Int) 256 = ((m / 256 : Nat) : Int) := rfl
      have e2 : Int.tmod (m : Int) 256 = ((m % 256 : Nat) : Int) := rfl
      rw [e1, e2, wi_id (by omega) (by omega), U8_nat (by omega), n_R01_Low_l2 k hk n (i + 1) (m / 256) _ (by omega) (by omega) (by simp [ho]) (by omega)]
      obtain ⟨j, hj⟩ : ∃ j, k - i = j + 1 := ⟨k - i - 1, by omega⟩
      rw [show k - (i + 1) = j by omega, hj, Nat.div_div_eq_div_mul, ← Nat.pow_succ', le]
      simp
    · have e : k - i = 0 := by omega
      rw [bif_neg (dec_f (by omega)), e]
      unfold m_R01_Low_j1
      by_cases h0 : 0 < m
      · rw [bif_pos (dec_t (by omega)), if_pos (by simpa using h0)]
      · rw [bif_neg (dec_f (by omega)), if_neg (by simpa using h0)]
        simp [le]
theorem n_R01_Turned_l1 (b : List UInt8) (hb : b.length ≤ 4611686018427387904) : ∀ (n i : Nat) (out : List UInt8), i ≤ b.length → i < n → out.length + i ≤ 1000000000 → m_R01_Turned_l1 b n out ((i : Int) - 1) = some (out ++ (b.take i).reverse)
  | 0, i, out, _, h, _ => by omega
  | n + 1, i, out, hi, h, ho => by
    unfold m_R01_Turned_l1
    cases i with
    | zero =>
      rw [bif_neg (dec_f (by omega))]
      simp
    | succ i =>
      rw [bif_pos (dec_t (by omega)), show ((i + 1 : Nat) : Int) - 1 = (i : Int) by omega, idx_nat (by omega), Option.bind_some, appI_ok (by simp; omega), Option.bind_some, wi_id (by omega) (by omega),
        n_R01_Turned_l1 b hb n i _ (by omega) (by omega) (by simp; omega), ← List.take_append_getElem (by omega : i < b.length), List.reverse_append]
      simp
theorem n_R01_Put {n k : Nat} (h : n < 256 ^ k) (h1 : 1 ≤ k) (h8 : k ≤ 8) (hn : n ≤ 4611686018427387904) : m_R01_Put (n : Int) (k : Int) = some (be k n, 0) := by
  unfold m_R01_Put m_R01_Low
  rw [bif_neg (dec_f (by omega)), bif_neg (dec_f (by omega)), bif_neg (dec_f (by omega)), bif_neg (dec_f (by omega)), Int.toNat_natCast]
  have hl := n_R01_Low_l2 k h8 (k + 1) 0 n [] (by omega) (by omega) rfl hn
  rw [Nat.sub_zero, if_neg (by rw [Nat.div_eq_of_lt h]; omega)] at hl
  show Option.bind (m_R01_Low_l2 (k : Int) (k + 1) (n : Int) [] ((0 : Nat) : Int)) _ = _
  rw [hl, Option.bind_some]
  show Option.bind (m_R01_Turned (le k n)) _ = _
  unfold m_R01_Turned
  rw [le_length, wi_id (by omega) (by omega)]
  have ht := n_R01_Turned_l1 (le k n) (by rw [le_length]; omega) (Int.toNat ((k : Int) - 1) + 2) k [] (by rw [le_length]; exact Nat.le_refl _) (by omega) (by simp; omega)
  rw [ht, Option.bind_some, show (le k n).take k = le k n from List.take_of_length_le (by rw [le_length]; exact Nat.le_refl _)]
  rfl

theorem n_number {n k : Nat} (h : n < 256 ^ k) (h1 : 1 ≤ k) (h8 : k ≤ 8) (hn : n ≤ 4611686018427387904) : m_R20_number (n : Int) (k : Int) = some (be k n) := by
  unfold m_R20_number
  rw [n_R01_Put h h1 h8 hn]
  rfl
theorem n_R01_Same_l1 (a b : List UInt8) (hl : a.length = b.length) (hb : a.length < 4611686018427387904) : ∀ (n i : Nat), i ≤ a.length → a.length - i < n → m_R01_Same_l1 a b n (i : Int) = some (a.drop i == b.drop i)
  | 0, i, _, h => by omega
  | n + 1, i, hi, h => by
    unfold m_R01_Same_l1
    by_cases hlt : i < a.length
    · have hlb : i < b.length := by omega
      rw [bif_pos (dec_t (by omega)), idx_nat hlt, Option.bind_some, idx_nat hlb, Option.bind_some, wi_succ (by omega), n_R01_Same_l1 a b hl hb n (i + 1) (by omega) (by omega)]
      have ha : a.drop i = a[i] :: a.drop (i + 1) := List.drop_eq_getElem_cons hlt
      have hb : b.drop i = b[i] :: b.drop (i + 1) := List.drop_eq_getElem_cons hlb
      rw [ha, hb]
      generalize a[i] = x
      generalize b[i] = y
      by_cases he : x = y
      · subst he
        rw [bif_neg (ine_f rfl)]
        simp
      · rw [bif_pos (ine_t (fun h => he (UInt8.toNat_inj.1 (by omega))))]
        simp [he]
    · rw [bif_neg (dec_f (by omega)), List.drop_eq_nil_of_le (by omega), List.drop_eq_nil_of_le (by omega)]
      rfl
theorem n_R01_Same (a b : List UInt8) (hb : a.length < 4611686018427387904) : m_R01_Same a b = some (a == b) := by
  unfold m_R01_Same
  by_cases hl : a.length = b.length
  · rw [bif_neg (ine_f (by omega))]
    exact n_R01_Same_l1 a b hl hb _ 0 (Nat.zero_le _) (by omega)
  · rw [bif_pos (ine_t (by omega))]
    congr 1
    symm
    rw [beq_eq_false_iff_ne]
    exact fun e => hl (by rw [e])
/-! ### Keys -/
def okc (c : UInt8) : Bool := decide (33 ≤ c.toNat) && decide (c.toNat ≤ 126)
def keyB (k : List UInt8) : Bool := decide (1 ≤ k.length) && (decide (k.length ≤ 40) && k.all okc)
def bkt : Nat → List UInt8 → Nat
  | h, [] => h
  | h, c :: r => bkt ((31 * h + c.toNat) % 4294967296) r
def buckN (k : List UInt8) : Nat := bkt 0 k % 64
def mayB (e : S_api_Entry) : Bool := keyB e.Key && (decide (e.Version ≥ 0) && (decide (e.Version ≤ 4611686018427387904) && (decide (e.Len ≥ 0) && (decide (e.Len ≤ 1024) && (decide (e.First ≥ 0) && decide (e.First ≤ 16384))))))
/-! ### An entry's bytes -/
def nodeB (e : S_api_Entry) (n : Nat) : List UInt8 := be 4 n ++ (be 8 e.Version.toNat ++ (be 4 e.Len.toNat ++ (be 4 e.First.toNat ++ (UInt8.ofNat e.Key.length :: (e.Key ++ List.replicate (43 - e.Key.length) 0)))))
theorem lenI_ok {a b : Nat} (h : a = b) : lenI a b = some () := by unfold lenI; rw [if_pos h]
/-! ### The entry of bytes -/
def fE (b : List UInt8) : S_api_Entry := ⟨(b.drop 21).take (b.getD 20 0).toNat, getN ((b.drop 4).take 8), (ofBE ((b.drop 12).take 4) : Int), (ofBE ((b.drop 16).take 4) : Int)⟩
def fN (b : List UInt8) : Nat := ofBE ((b.drop 0).take 4)
instance : DecidableEq (List UInt8) := inferInstance
def ent (b : List UInt8) : Option (S_api_Entry × Nat) := if getE ((b.drop 4).take 8) = 0 ∧ (b.getD 20 0).toNat ≤ 40 ∧ mayB (fE b) = true ∧ nodeB (fE b) (fN b) = b then some (fE b, fN b) else none
end Go.Proofs.Ytjomnccladjpgaa

/-
  Plain: an index' buckets, as the code and the document go through them.
-/
namespace Go.Proofs.Ytjomnccladjpgaa
open Go Go.RowKit
set_option linter.unusedVariables false
set_option linter.unusedSimpArgs false

/-- The number that stands at a place of a home. -/
def num (hs : List (List UInt8)) (h o : Nat) : Nat := ofBE (((hs.getD h []).drop o).take 4)
/-- Its bytes with another number there. -/
def wr4 (b : List UInt8) (o n : Nat) : List UInt8 := b.take o ++ (be 4 n ++ b.drop (o + 4))
theorem wr4_len {b : List UInt8} {o n : Nat} (h : o + 4 ≤ b.length) : (wr4 b o n).length = b.length := by
  simp [wr4, be_length]
  omega
def stp (hs : List (List UInt8)) (bk at_ : Nat) : Option (S_api_Entry × Nat) := Option.bind hs[at_]? fun b => Option.bind (ent b) fun x => if buckN x.1.Key = bk then some x else none
def chn (hs : List (List UInt8)) (bk : Nat) : Nat → Nat → List (Nat × S_api_Entry) × Bool
  | 0, at_ => ([], at_ == 0)
  | n + 1, at_ => if at_ = 0 then ([], true) else match stp hs bk at_ with
    | none => ([], false)
    | some (e, nx) => ((at_, e) :: (chn hs bk n nx).1, (chn hs bk n nx).2)
theorem chn_some {hs : List (List UInt8)} {bk at_ nx n : Nat} {e : S_api_Entry} (h0 : at_ ≠ 0) (h : stp hs bk at_ = some (e, nx)) : chn hs bk (n + 1) at_ = ((at_, e) :: (chn hs bk n nx).1, (chn hs bk n nx).2) := by
  conv => lhs; unfold chn
  rw [if_neg h0, h]
section
variable {hs : List (List UInt8)} (hw : ∀ r ∈ hs, r.length = 64) (hl : hs.length ≤ 16384)
include hw hl
omit hl in
theorem n_cut4 {h o : Nat} (hh : h < hs.length) (ho : o + 4 ≤ 64) : ∃ b, idx hs (h : Int) = some b ∧ hs[h]? = some b ∧ b.length = 64 ∧ cutI b (o : Int) (wi ((o : Int) + 4)) = some ((b.drop o).take 4) ∧ ofBE ((b.drop o).take 4) = num hs h o ∧ ((b.drop o).take 4).length = 4 := by
  have hb : hs[h]? = some hs[h] := List.getElem?_eq_getElem hh
  have h64 := hw hs[h] (List.getElem_mem hh)
  refine ⟨hs[h], idx_nat hh, hb, h64, ?_, ?_, by simp; omega⟩
  · rw [wi_id (by omega) (by omega)]
    exact cutI_mid (by omega) _ (by omega)
  · unfold num
    rw [List.getD_eq_getElem?_getD, hb]
    rfl
omit hl in
/-! ### What names a home, names another one -/
omit hl in
theorem n_name_hit {h o p4 w : Nat} (hh : h < hs.length) (ho : o + 4 ≤ 64) (he : num hs h o = w) (hp : p4 < 4294967296) (f : Nat) : m_R20_name_v0_l1 hs (w : Int) (p4 : Int) (f + 1) (h : Int) (o : Int) = some (hs.set h (wr4 (hs.getD h []) o p4)) := by
  obtain ⟨b, k1, k2, k3, k4, k5, k6⟩ := n_cut4 hw hh ho
  have hb : hs.getD h [] = b := by rw [List.getD_eq_getElem?_getD, k2]; rfl
  unfold m_R20_name_v0_l1
  rw [k1, Option.bind_some, k4, Option.bind_some, n_R01_Get, Option.bind_some, (getN_4 k6).1, k5, bif_pos (ieq_t (by omega)), Option.bind_some]
  have hne : b.isEmpty = false := by cases b with | nil => simp at k3 | cons _ _ => rfl
  rw [hne, bif_neg rfl, appI_ok (by rw [List.length_nil]; omega), Option.bind_some, List.nil_append]
  have ev : vcut b.length (o : Int) (wi ((o : Int) + 4)) = some () := by
    rw [wi_id (by omega) (by omega)]
    unfold vcut
    rw [if_pos ⟨by omega, by omega, by omega⟩]
  rw [ev, Option.bind_some]
  have en := n_number (n := p4) (k := 4) (by omega) (by omega) (by omega) (by omega)
  show Option.bind (m_R20_number (p4 : Int) ((4 : Nat) : Int)) _ = _
  rw [en, Option.bind_some, hne, bif_neg rfl, wi_id (by omega) (by omega), Int.toNat_natCast, show Int.toNat ((o : Int) + 4) - o = 4 by omega, show 0 + o * 1 = o by omega]
  have ec : cpyI b o 4 (be 4 p4) = some (wr4 b o p4) := by
    unfold cpyI
    rw [if_pos (by omega)]
    unfold cpyL wr4
    rw [be_length, Nat.min_self, List.take_of_length_le (l := be 4 p4) (by rw [be_length]; omega)]
  rw [ec, Option.bind_some, lenI_ok (wr4_len (by omega)), Option.bind_some, Option.bind_some, hb, Int.toNat_natCast]
omit hl in
end
end Go.Proofs.Ytjomnccladjpgaa

/-
  Plain: what an index does, held against what the document says.
-/
namespace Go.Proofs.Ytjomnccladjpgaa
open Go Go.RowKit
set_option linter.unusedVariables false
set_option linter.unusedSimpArgs false

/-- An index at a table of a transaction. -/
structure XIn (H : Hp) (x t tb : Nat) (hs : List (List UInt8)) (mp : List (Int × List UInt8)) : Prop where
  tn : TIn H t hs mp
  ix : H.ix[x]? = some ⟨some t, (tb : Int)⟩
  tbl : tb + 4 ≤ hs.length
section
variable {H : Hp} {x t tb : Nat} {hs : List (List UInt8)} {mp : List (Int × List UInt8)}
/-- What going through a bucket, up to a key, answers. -/
def EachR (hs : List (List UInt8)) (bk : Nat) (key : List UInt8) (n at_ sh so : Nat) (res : Option (S_index_spot × Int × S_index_node × Int)) : Prop := match (chn hs bk n at_).1.find? (fun y => y.2.Key == key) with
  | none => res = some (⟨0, 0⟩, 0, ⟨⟨[], 0, 0, 0⟩, 0⟩, if (chn hs bk n at_).2 then 35 else 11)
  | some y => ∃ a o nx, res = some (⟨((a : Nat) : Int), ((o : Nat) : Int)⟩, (y.1 : Int), ⟨y.2, ((nx : Nat) : Int)⟩, 0) ∧ stp hs bk y.1 = some (y.2, nx) ∧ y.2.Key = key ∧ a < hs.length ∧ o + 4 ≤ 64 ∧ num hs a o = y.1 ∧
        ∀ (p4 : Nat), p4 < 4294967296 → ∀ f, n < f → m_R20_name_v0_l1 hs (y.1 : Int) (p4 : Int) f (sh : Int) (so : Int) = some (hs.set a (wr4 (hs.getD a []) o p4))
theorem EachR.none {bk : Nat} {key : List UInt8} {n at_ sh so : Nat} {b : Bool} (hc : chn hs bk n at_ = ([], b)) : EachR hs bk key n at_ sh so (some (⟨0, 0⟩, 0, ⟨⟨[], 0, 0, 0⟩, 0⟩, if b then 35 else 11)) := by
  unfold EachR
  rw [hc]
  rfl
theorem EachR.hit (hw : ∀ r ∈ hs, r.length = 64) {bk : Nat} {key : List UInt8} {n at_ sh so nx : Nat} {e : S_api_Entry} (h0 : at_ ≠ 0) (hn : stp hs bk at_ = some (e, nx)) (hk : e.Key = key) (h1 : sh < hs.length) (h2 : so + 4 ≤ 64) (h3 : num hs sh so = at_) : EachR hs bk key (n + 1) at_ sh so (some (⟨(sh : Int), (so : Int)⟩, (at_ : Int), ⟨e, (nx : Int)⟩, 0)) := by
  unfold EachR
  rw [chn_some h0 hn, List.find?_cons_of_pos (by simpa using hk)]
  refine ⟨sh, so, nx, rfl, hn, hk, h1, h2, h3, fun p4 hp g hg => ?_⟩
  obtain ⟨g, rfl⟩ : ∃ g', g = g' + 1 := ⟨g - 1, by omega⟩
  exact n_name_hit hw h1 h2 h3 hp g
end
end Go.Proofs.Ytjomnccladjpgaa

/-
  Plain: put, set, drop and find are the document's.
-/
namespace Go.Proofs.Ytjomnccladjpgaa
open Go Go.RowKit
set_option linter.unusedVariables false
set_option linter.unusedSimpArgs false

end Go.Proofs.Ytjomnccladjpgaa

/-
  Plain: IndexDoes is true.
-/
namespace Go.Proofs.Ytjomnccladjpgaa
open Go Go.RowKit
set_option linter.unusedVariables false
set_option linter.unusedSimpArgs false

/-! ### The homes, and the transaction that has them -/
theorem n_Begun_l1 {t : Nat} {y : (Option Nat) × Int × Hp} (hy : y.1 = some t) (p : List (List UInt8)) (hpl : p.length ≤ 20) (hp : ∀ r ∈ p, r.length = 64) : ∀ (n i : Nat) (H : Hp) (hs : List (List UInt8)) (mp : List (Int × List UInt8)), i ≤ p.length → p.length - i < n → TIn H t hs mp → hs.length = 20 → (∀ k, k < i → hs[k]? = p[k]?) →
    ∃ H' hs' mp', m_L20_Begun_l1 p y n (i : Int) H = some (some t, H') ∧ TIn H' t hs' mp' ∧ hs'.length = 20 ∧ (∀ k, k < p.length → hs'[k]? = p[k]?) ∧ (∀ k, p.length ≤ k → hs'[k]? = hs[k]?)
  | 0, i, H, hs, mp, _, h, _, _, _ => by omega
  | n + 1, i, H, hs, mp, hi, h, hT, hl, hk => by
    unfold m_L20_Begun_l1
    by_cases hlt : i < p.length
    · obtain ⟨H1, w1, w2, m, v, w3⟩ := n_TWrite hT (k := i) (by omega) (x := p[i]) (hp _ (List.getElem_mem hlt))
      rw [bif_pos (dec_t (by omega)), idx_nat hlt, Option.bind_some, hy, w1, Option.bind_some, wi_succ (by omega)]
      obtain ⟨H', hs', mp', q1, q2, q3, q4, q5⟩ := n_Begun_l1 hy p hpl hp n (i + 1) H1 (hs.set i p[i]) _ (by omega) (by omega) w2 (by rw [List.length_set]; exact hl) (fun k hki => by
        by_cases e : k = i
        · subst e
          rw [List.getElem?_set_self (by omega), List.getElem?_eq_getElem hlt]
        · rw [List.getElem?_set_ne (by omega)]
          exact hk k (by omega))
      exact ⟨H', hs', mp', q1, q2, q3, q4, fun k hpk => by rw [q5 k hpk, List.getElem?_set_ne (by omega)]⟩
    · have e : i = p.length := by omega
      subst e
      rw [bif_neg (dec_f (by omega)), hy]
      exact ⟨H, hs, mp, rfl, hT, hl, hk, fun _ _ => rfl⟩
/-- Twenty homes that are noughts, or what is told first. -/
theorem n_Begun (p : List (List UInt8)) (hpl : p.length ≤ 20) (hp : ∀ r ∈ p, r.length = 64) (w1 : Hp) : ∃ t H' hs mp, m_L20_Begun p w1 = some (some t, H') ∧ TIn H' t hs mp ∧ hs.length = 20 ∧ (∀ k, k < p.length → hs[k]? = p[k]?) ∧ (∀ k, p.length ≤ k → k < 20 → hs[k]? = some Z64) ∧ (p = [] → mp = []) := by
  obtain ⟨H1, H2, H3, i, j, d, e1, e2, e3, e4, e5, e6⟩ := open_new w1 (n := 30) (s := 8) (by omega) (by omega) (by omega)
  obtain ⟨H4, b1, b2, b3⟩ := n_Begin e4.toLIn
  have hl : d.now.length = 30 := by rw [e6]; simp
  have hz : ∀ k, k < 20 → (d.now.drop (2 + 8))[k]? = some Z64 := fun k hk => by
    rw [List.getElem?_drop, e6, List.getElem?_set_ne (by omega), List.getElem?_set_ne (by omega), List.getElem?_replicate, if_pos (by omega)]
  unfold m_L20_Begun
  rw [show ((30 : Nat) : Int) = 30 from rfl] at e1
  rw [e1, Option.bind_some]
  show ∃ t H' hs mp, Option.bind (m_wal_Format (some i) ((8 : Nat) : Int) H1) _ = _ ∧ _
  rw [e2, Option.bind_some]
  show ∃ t H' hs mp, Option.bind (m_wal_Open (some i) H2) _ = _ ∧ _
  rw [e3, Option.bind_some]
  show ∃ t H' hs mp, Option.bind (m_wal_Log_Begin (some j) H3) _ = _ ∧ _
  rw [b1, Option.bind_some]
  by_cases hp0 : p = []
  · subst hp0
    exact ⟨H3.tx.length, H4, _, [], rfl, b2, by rw [List.length_drop, hl], fun k h => absurd h (Nat.not_lt_zero _), fun k _ h => hz k h, fun _ => rfl⟩
  · obtain ⟨H', hs', mp', q1, q2, q3, q4, q5⟩ := n_Begun_l1 (t := H3.tx.length) (y := (some H3.tx.length, 0, H4)) rfl p hpl hp (p.length + 1) 0 H4 _ [] (by omega) (by omega) b2 (by rw [List.length_drop, hl]) (fun k h => absurd h (Nat.not_lt_zero _))
    exact ⟨H3.tx.length, H', hs', mp', q1, q2, q3, q4, fun k h1 h2 => by rw [q5 k h1, hz k h2], fun e => absurd e hp0⟩
/-! ### The play -/
end Go.Proofs.Ytjomnccladjpgaa

/-
  Plain: what is put over homes, and what is got.
-/
namespace Go.Proofs.Ytjomnccladjpgaa
open Go Go.RowKit
set_option linter.unusedVariables false
set_option linter.unusedSimpArgs false

/-! ### How many homes -/
def cntN (n : Nat) : Nat := (n + 59) / 60
theorem n_may21 (z : Int) : m_blob_may z = some (decide (0 ≤ z) && decide (z ≤ 1024)) := by
  unfold m_blob_may
  by_cases h : z ≥ 0
  · rw [bif_pos (dec_t h), dec_t (p := 0 ≤ z) h]; rfl
  · rw [bif_neg (dec_f h), dec_f (p := 0 ≤ z) h]; rfl
theorem n_Count {n : Nat} (h : n ≤ 1024) : m_blob_Count (n : Int) = some (cntN n : Int) := by
  unfold m_blob_Count
  rw [n_may21, Option.bind_some, dec_t (p := (0 : Int) ≤ n) (by omega), dec_t (p := (n : Int) ≤ 1024) (by omega), bif_neg (by rfl)]
  rw [wi_id (z := (n : Int) + 60) (by omega) (by omega), wi_id (z := (n : Int) + 60 - 1) (by omega) (by omega)]
  have e : ((n : Int) + 60 - 1) = ((n + 59 : Nat) : Int) := by omega
  rw [e, Int.tdiv_eq_ediv_of_nonneg (by omega), show ((60 : Int)) = ((60 : Nat) : Int) from rfl, ← Int.natCast_ediv]
  have : (n + 59) / 60 ≤ n + 59 := Nat.div_le_self _ _
  rw [wi_id (by omega) (by omega)]
  rfl
theorem cnt_step {n : Nat} (h : 0 < n) : cntN n = cntN (n - 60) + 1 := by unfold cntN; omega
theorem n_RCount_l1 : ∀ (f n k : Nat), n < f → n ≤ 1000000 → k + n ≤ 2000000 → m_R21_Count_l1 f ((n : Int)) (k : Int) = some ((k + cntN n : Nat) : Int)
  | 0, n, k, h, _, _ => by omega
  | f + 1, n, k, h, hn, hk => by
    unfold m_R21_Count_l1
    by_cases h0 : 0 < n
    · rw [bif_pos (dec_t (by omega)), wi_id (by omega) (by omega), wi_succ (by omega)]
      by_cases h60 : 60 ≤ n
      · rw [show (n : Int) - 60 = ((n - 60 : Nat) : Int) by omega, n_RCount_l1 f (n - 60) (k + 1) (by omega) (by omega) (by omega), cnt_step h0]
        congr 2
        omega
      · have hc : cntN n = 1 := by unfold cntN; omega
        obtain ⟨f', rfl⟩ : ∃ f', f = f' + 1 := ⟨f - 1, by omega⟩
        unfold m_R21_Count_l1
        rw [bif_neg (dec_f (by omega)), hc]
    · have h0 : n = 0 := by omega
      subst h0
      rw [bif_neg (dec_f (by omega))]
      rfl
theorem n_RCount {n : Nat} (h : n ≤ 1000000) : m_R21_Count (n : Int) = some (cntN n : Int) := by
  unfold m_R21_Count
  have := n_RCount_l1 (Int.toNat (n : Int) + 2) n 0 (by omega) h (by omega)
  rw [Nat.zero_add] at this
  exact this

/-! ### Which homes may be -/
def RtP (p : List Int) : Prop := ∀ i x, p[i]? = some x → (1 ≤ x ∧ x ≤ 16384) ∧ x ∉ p.take i
theorem n_Index_l1 (p : List Int) (x : Int) (hp : p.length < 1000000000) : ∀ (f i : Nat), i ≤ p.length → p.length - i < f → ∃ z, m_slices_Index_int_l1 p x f (i : Int) = some z ∧ (z ≥ 0 ↔ x ∈ p.drop i)
  | 0, i, _, h => by omega
  | f + 1, i, hi, h => by
    unfold m_slices_Index_int_l1
    by_cases hlt : i < p.length
    · rw [bif_pos (dec_t (by omega)), idx_nat hlt, Option.bind_some]
      have hd := List.drop_eq_getElem_cons hlt
      by_cases e : x = p[i]
      · rw [bif_pos (ieq_t e)]
        exact ⟨_, rfl, ⟨fun _ => by rw [hd, e]; exact List.mem_cons_self, fun _ => by omega⟩⟩
      · rw [bif_neg (ieq_f e), wi_succ (by omega)]
        obtain ⟨z, h1, h2⟩ := n_Index_l1 p x hp f (i + 1) (by omega) (by omega)
        exact ⟨z, h1, by rw [h2, hd, List.mem_cons]; exact ⟨.inr, fun h => h.resolve_left e⟩⟩
    · rw [bif_neg (dec_f (by omega))]
      exact ⟨_, rfl, by rw [List.drop_eq_nil_of_le (by omega)]; simp⟩
theorem n_Contains {p : List Int} (x : Int) (hp : p.length < 1000000000) : m_slices_Contains_int p x = some (decide (x ∈ p)) := by
  unfold m_slices_Contains_int m_slices_Index_int
  obtain ⟨z, h1, h2⟩ := n_Index_l1 p x hp (p.length + 1) 0 (by omega) (by omega)
  rw [show ((0 : Nat) : Int) = 0 from rfl] at h1
  rw [h1, Option.bind_some]
  congr 1
  rw [List.drop_zero] at h2
  exact decide_eq_decide.2 h2
theorem n_right {p : List Int} (hp : p.length < 1000000000) : ∃ b, m_blob_right p = some b ∧ (b = true ↔ RtP p) := by
  have key : ∀ (f i : Nat), i ≤ p.length → p.length - i < f → (∀ j x, j < i → p[j]? = some x → (1 ≤ x ∧ x ≤ 16384) ∧ x ∉ p.take j) → ∃ b, m_blob_right_l1 p f (i : Int) = some b ∧ (b = true ↔ RtP p) := by
    intro f
    induction f with
    | zero => intro i _ h; omega
    | succ f ih =>
      intro i hi h hb
      unfold m_blob_right_l1
      by_cases hlt : i < p.length
      · have hx := List.getElem?_eq_getElem hlt
        rw [bif_pos (dec_t (by omega)), idx_nat hlt, Option.bind_some]
        by_cases h1 : p[i] < 1
        · rw [bif_pos (dec_t h1)]
          exact ⟨false, rfl, fun e => Bool.noConfusion e, fun hr => by have := (hr i _ hx).1; omega⟩
        · rw [bif_neg (dec_f h1)]
          by_cases h2 : p[i] > 16384
          · rw [bif_pos (dec_t h2)]
            exact ⟨false, rfl, fun e => Bool.noConfusion e, fun hr => by have := (hr i _ hx).1; omega⟩
          · rw [bif_neg (dec_f h2), cutI_take (by omega), Option.bind_some, n_Contains _ (by rw [List.length_take]; omega), Option.bind_some]
            by_cases h3 : p[i] ∈ p.take i
            · rw [bif_pos (dec_t h3)]
              exact ⟨false, rfl, fun e => Bool.noConfusion e, fun hr => absurd h3 (hr i _ hx).2⟩
            · rw [bif_neg (dec_f h3), wi_succ (by omega)]
              refine ih (i + 1) (by omega) (by omega) fun j x hj hjx => ?_
              by_cases e : j = i
              · subst e
                rw [hx] at hjx
                injection hjx with hjx
                subst hjx
                exact ⟨⟨by omega, by omega⟩, h3⟩
              · exact hb j x (by omega) hjx
      · rw [bif_neg (dec_f (by omega))]
        exact ⟨true, rfl, fun _ j x hj => hb j x (by have := (List.getElem?_eq_some_iff.1 hj).1; omega) hj, fun _ => rfl⟩
  exact key _ 0 (by omega) (by omega) fun j x h => absurd h (Nat.not_lt_zero _)
theorem n_RRight_l1 {p : List Int} (hp : p.length < 1000000000) : ∃ z, m_R21_Right_l1 p (p.length + 1) 0 = some z ∧ (RtP p → z = 0) ∧ (¬ RtP p → z = 2) := by
  have in3 : ∀ (f : Nat) (kl : Int → Option Int) (i : Nat) (hlt : i < p.length) (n k : Nat), k ≤ i → i - k < n → p[i] ∉ p.take k → (p[i] ∈ p.take i ∧ m_R21_Right_l3 kl (i : Int) p p[i] n (k : Int) = some 2) ∨ (p[i] ∉ p.take i ∧ m_R21_Right_l3 kl (i : Int) p p[i] n (k : Int) = kl ((i + 1 : Nat) : Int)) := by
    intro _ kl i hlt n
    induction n with
    | zero => intro k _ h; omega
    | succ n ih =>
      intro k hk hn hno
      unfold m_R21_Right_l3
      by_cases hki : k < i
      · rw [bif_pos (dec_t (by omega)), idx_nat hlt, Option.bind_some, idx_nat (show k < p.length by omega), Option.bind_some]
        by_cases e : p[i] = p[k]
        · rw [bif_pos (ieq_t e)]
          exact .inl ⟨by
            rw [e]
            exact List.mem_of_getElem? (i := k) (by rw [List.getElem?_take, if_pos hki, List.getElem?_eq_getElem]), rfl⟩
        · rw [bif_neg (ieq_f e), wi_succ (by omega)]
          refine ih (k + 1) (by omega) (by omega) fun hm => ?_
          rw [List.take_add_one, List.getElem?_eq_getElem (show k < p.length by omega)] at hm
          rcases List.mem_append.1 hm with hm | hm
          · exact hno hm
          · simp at hm
            exact e hm
      · have : k = i := by omega
        subst this
        rw [bif_neg (dec_f (by omega))]
        unfold m_R21_Right_j2
        rw [wi_succ (by omega)]
        exact .inr ⟨hno, rfl⟩
  have key : ∀ (f i : Nat), i ≤ p.length → p.length - i < f → (∀ j x, j < i → p[j]? = some x → (1 ≤ x ∧ x ≤ 16384) ∧ x ∉ p.take j) → ∃ z, m_R21_Right_l1 p f (i : Int) = some z ∧ (RtP p → z = 0) ∧ (¬ RtP p → z = 2) := by
    intro f
    induction f with
    | zero => intro i _ h; omega
    | succ f ih =>
      intro i hi h hb
      unfold m_R21_Right_l1
      by_cases hlt : i < p.length
      · have hx := List.getElem?_eq_getElem hlt
        rw [bif_pos (dec_t (by omega)), idx_nat hlt, Option.bind_some]
        by_cases h1 : p[i] < 1
        · rw [bif_pos (dec_t h1)]
          exact ⟨2, rfl, fun hr => by have := (hr i _ hx).1; omega, fun _ => rfl⟩
        · rw [bif_neg (dec_f h1), Option.bind_some]
          by_cases h2 : p[i] > 16384
          · rw [bif_pos (dec_t h2)]
            exact ⟨2, rfl, fun hr => by have := (hr i _ hx).1; omega, fun _ => rfl⟩
          · rw [bif_neg (dec_f h2)]
            rcases in3 f (m_R21_Right_l1 p f) i hlt (Int.toNat (i : Int) + 1) 0 (by omega) (by omega) (by simp) with ⟨e1, e2⟩ | ⟨e1, e2⟩
            · rw [show ((0 : Nat) : Int) = 0 from rfl] at e2
              rw [e2]
              exact ⟨2, rfl, fun hr => absurd e1 (hr i _ hx).2, fun _ => rfl⟩
            · rw [show ((0 : Nat) : Int) = 0 from rfl] at e2
              rw [e2]
              refine ih (i + 1) (by omega) (by omega) fun j x hj hjx => ?_
              by_cases e : j = i
              · subst e
                rw [hx] at hjx
                injection hjx with hjx
                subst hjx
                exact ⟨⟨by omega, by omega⟩, e1⟩
              · exact hb j x (by omega) hjx
      · rw [bif_neg (dec_f (by omega))]
        exact ⟨0, rfl, fun _ => rfl, fun hn => absurd (fun j x hj => hb j x (by have := (List.getElem?_eq_some_iff.1 hj).1; omega) hj) hn⟩
  exact key _ 0 (by omega) (by omega) fun j x h => absurd h (Nat.not_lt_zero _)

/-! ### A home's bytes -/
def nxt (p : List Int) (i : Nat) : Nat := (p.getD (i + 1) 0).toNat
def pcs (b : List UInt8) (i : Nat) : List UInt8 := (b.drop (60 * i)).take 60
def rowP (p : List Int) (b : List UInt8) (i : Nat) : List UInt8 := be 4 (nxt p i) ++ (pcs b i ++ List.replicate (60 - (pcs b i).length) 0)
theorem pcs_len (b : List UInt8) (i : Nat) : (pcs b i).length ≤ 60 := by unfold pcs; rw [List.length_take]; omega
theorem rowP_len (p : List Int) (b : List UInt8) (i : Nat) : (rowP p b i).length = 64 := by
  have := pcs_len b i
  simp [rowP, be_length]
  omega
theorem rt_nxt {p : List Int} (h : RtP p) (i : Nat) : nxt p i ≤ 16384 := by
  unfold nxt
  cases hq : p[i + 1]? with
  | none => rw [List.getD_eq_getElem?_getD, hq]; show (0 : Int).toNat ≤ _; omega
  | some x =>
    rw [List.getD_eq_getElem?_getD, hq]
    have := (h _ _ hq).1
    show x.toNat ≤ _
    omega
/-- (reckoned byte by byte) -/
theorem n_RSector_l2 (b : List UInt8) (i : Nat) (hb : b.length ≤ 3000) (hi : i ≤ 1000) : ∀ (f k : Nat) (out : List UInt8), k ≤ 60 → 60 - k < f → out.length = 4 + k → m_R21_Sector_l2 (i : Int) b f ((60 * i + k : Nat) : Int) out = some (out ++ (((b.drop (60 * i + k)).take (60 - k)) ++ List.replicate (60 - k - ((b.drop (60 * i + k)).take (60 - k)).length) 0))
  | 0, k, out, _, h, _ => by omega
  | f + 1, k, out, hk, h, ho => by
    unfold m_R21_Sector_l2
    rw [wi_id (z := 60 * (i : Int)) (by omega) (by omega), wi_id (by omega) (by omega)]
    by_cases hlt : k < 60
    · rw [bif_pos (dec_t (by omega))]
      have go : ∀ c : UInt8, m_R21_Sector_j3 (m_R21_Sector_l2 (i : Int) b f) ((60 * i + k : Nat) : Int) (out ++ [c]) = some ((out ++ [c]) ++ (((b.drop (60 * i + (k + 1))).take (60 - (k + 1))) ++ List.replicate (60 - (k + 1) - ((b.drop (60 * i + (k + 1))).take (60 - (k + 1))).length) 0)) := by
        intro c
        unfold m_R21_Sector_j3
        rw [wi_succ (by omega)]
        exact n_RSector_l2 b i hb hi f (k + 1) (out ++ [c]) (by omega) (by omega) (by simp; omega)
      by_cases hlb : 60 * i + k < b.length
      · rw [bif_pos (dec_t (by omega)), idx_nat hlb, Option.bind_some, appI_ok (by simp; omega), Option.bind_some, go]
        congr 1
        rw [List.append_assoc]
        congr 1
        conv => rhs; rw [List.drop_eq_getElem_cons hlb, show 60 - k = (60 - (k + 1)) + 1 by omega, List.take_succ_cons]
        rw [show 60 * i + k + 1 = 60 * i + (k + 1) by omega]
        simp
      · rw [bif_neg (dec_f (by omega)), appI_ok (by simp; omega), Option.bind_some, go]
        congr 1
        rw [List.append_assoc]
        congr 1
        rw [List.drop_eq_nil_of_le (by omega), List.drop_eq_nil_of_le (by omega)]
        simp
        rw [show 60 - k = (59 - k) + 1 by omega, List.replicate_succ]
    · have : k = 60 := by omega
      subst this
      rw [bif_neg (dec_f (by omega))]
      simp
theorem n_R01_Put_r {n k : Nat} (h : n < 256 ^ k) (h1 : 1 ≤ k) (h8 : k ≤ 8) (hn : n ≤ 4611686018427387904) : m_R01_Put_r (n : Int) (k : Int) = some (be k n, 0) := by
  have e := n_R01_Put h h1 h8 hn
  unfold m_R01_Put at e
  unfold m_R01_Put_r
  cases hl : m_R01_Low (n : Int) (k : Int) with
  | none => rw [hl] at e; cases e
  | some x =>
    rw [hl] at e
    rw [Option.bind_some] at e ⊢
    cases ht : m_R01_Turned x.1 with
    | none => rw [ht] at e; cases e
    | some y =>
      rw [ht] at e
      rw [Option.bind_some] at e ⊢
      injection e with e
      injection e with e1 e2
      have hne : y.isEmpty = false := by
        rw [e1]
        cases hq : be k n with
        | nil => have := be_length k n; rw [hq] at this; simp at this; omega
        | cons a r => rfl
      rw [bif_neg hne, e1, e2]
theorem n_RSector {p : List Int} {b : List UInt8} {i : Nat} (hp : RtP p) (hl : p.length ≤ 40) (hb : b.length ≤ 3000) (hi : i < p.length) : m_R21_Sector p b (i : Int) = some (rowP p b i) := by
  have key : m_R21_Sector_j1 (i : Int) b ((nxt p i : Nat) : Int) = some (rowP p b i) := by
    unfold m_R21_Sector_j1
    have := rt_nxt hp i
    rw [show ((4 : Int)) = ((4 : Nat) : Int) from rfl, n_R01_Put_r (by omega) (by omega) (by omega) (by omega), Option.bind_some, wi_id (z := 60 * (i : Int)) (by omega) (by omega), wi_id (by omega) (by omega)]
    have h2 := n_RSector_l2 b i hb (by omega) (Int.toNat (60 * (i : Int) + 60) + 1) 0 (be 4 (nxt p i)) (by omega) (by omega) (by rw [be_length])
    rw [show ((60 * i + 0 : Nat) : Int) = 60 * (i : Int) by omega] at h2
    rw [h2]
    rfl
  unfold m_R21_Sector
  rw [wi_succ (by omega)]
  by_cases h : i + 1 < p.length
  · rw [bif_pos (dec_t (by omega)), idx_nat h, Option.bind_some]
    have hx := (hp _ _ (List.getElem?_eq_getElem h)).1
    rw [show p[i + 1] = ((nxt p i : Nat) : Int) by unfold nxt; rw [List.getD_eq_getElem?_getD, List.getElem?_eq_getElem h]; show _ = ((p[i + 1].toNat : Nat) : Int); omega]
    exact key
  · rw [bif_neg (dec_f (by omega))]
    have : nxt p i = 0 := by unfold nxt; rw [List.getD_eq_getElem?_getD, List.getElem?_eq_none (by omega)]; rfl
    rw [this] at key
    exact key
end Go.Proofs.Ytjomnccladjpgaa

/-
  Plain: Put, Homes and Get.
-/
namespace Go.Proofs.Ytjomnccladjpgaa
open Go Go.RowKit
set_option linter.unusedVariables false
set_option linter.unusedSimpArgs false

/-! ### Put -/
/-- Rows written over homes, from the q-th on. -/
def wrP (p : List Int) (b : List UInt8) : List Int → Nat → List (List UInt8) → List (List UInt8)
  | [], _, hs => hs
  | h :: r, q, hs => wrP p b r (q + 1) (hs.set h.toNat (rowP p b q))
def msP (p : List Int) (b : List UInt8) : List Int → Nat → List (Int × List UInt8) → List (Int × List UInt8)
  | [], _, mp => mp
  | h :: r, q, mp => msP p b r (q + 1) (mset mp h (rowP p b q))
theorem cpyA (x y : List UInt8) {o n : Nat} (h : o + n ≤ x.length) : cpyI x o n y = some (x.take o ++ (y.take n ++ x.drop (o + min y.length n))) := by
  unfold cpyI
  rw [if_pos h]
  rfl
theorem n_word_Put {n : Nat} (h : n ≤ 16384) : m_word_Put (n : Int) 4 = some (be 4 n, 0) := by
  unfold m_word_Put
  rw [if_pos ⟨by omega, by omega, by omega, by omega, by rw [show (256 : Nat) ^ Int.toNat 4 = 4294967296 from rfl]; omega⟩]
  rfl
/-- A round of Put. -/
theorem n_Put_r1 {p : List Int} {b : List UInt8} {t q : Nat} {H : Hp} {hs : List (List UInt8)} {mp : List (Int × List UInt8)} (hp : RtP p) (hl : p.length ≤ 1000) (hq : q < p.length) (hT : TIn H t hs mp) (z : Int) :
    (p[q].toNat < hs.length ∧ ∃ H', m_blob_Put_r1 p t (pcs b q) z (q : Int) H = some (true, (z, ((q + 1 : Nat) : Int)), H') ∧ TIn H' t (hs.set p[q].toNat (rowP p b q)) (mset mp p[q] (rowP p b q)))
    ∨ (hs.length ≤ p[q].toNat ∧ m_blob_Put_r1 p t (pcs b q) z (q : Int) H = some (false, (31, (q : Int)), H)) := by
  have hpq := (hp _ _ (List.getElem?_eq_getElem hq)).1
  have hpl := pcs_len b q
  have low := hT.low
  -- behind the first copy
  have key : ∀ y : List UInt8, y.length = 64 → y.take 4 = be 4 (nxt p q) → y.drop 4 = List.replicate 60 0 →
      (p[q].toNat < hs.length ∧ ∃ H', m_blob_Put_j2 (pcs b q) p (q : Int) t H z y = some (true, (z, ((q + 1 : Nat) : Int)), H') ∧ TIn H' t (hs.set p[q].toNat (rowP p b q)) (mset mp p[q] (rowP p b q)))
      ∨ (hs.length ≤ p[q].toNat ∧ m_blob_Put_j2 (pcs b q) p (q : Int) t H z y = some (false, (31, (q : Int)), H)) := by
    intro y hy h4 h60
    have hr : y.take (0 + Int.toNat 4 * 1) ++ ((pcs b q).take (Int.toNat (y.length : Int) - Int.toNat 4) ++ y.drop ((0 + Int.toNat 4 * 1) + min (pcs b q).length (Int.toNat (y.length : Int) - Int.toNat 4))) = rowP p b q := by
      rw [show 0 + Int.toNat 4 * 1 = 4 from rfl, hy, show Int.toNat ((64 : Nat) : Int) - Int.toNat 4 = 60 from rfl, h4, List.take_of_length_le hpl, Nat.min_eq_left hpl, ← List.drop_drop, h60, List.drop_replicate]
      rfl
    unfold m_blob_Put_j2
    rw [show vcut y.length 4 (y.length : Int) = some () by unfold vcut; rw [if_pos ⟨by omega, by omega, by omega⟩], Option.bind_some, cpyA _ _ (by rw [hy]; decide), hr, Option.bind_some, lenI_ok (by rw [rowP_len, hy]), Option.bind_some, idx_nat hq, Option.bind_some]
    rcases Nat.lt_or_ge p[q].toNat hs.length with hlt | hge
    · obtain ⟨H', w1, w2, _⟩ := n_TWrite hT hlt (x := rowP p b q) (rowP_len _ _ _)
      rw [show ((p[q].toNat : Nat) : Int) = p[q] by omega] at w1 w2
      rw [w1, Option.bind_some, bif_neg (by rfl), wi_succ (by omega)]
      exact .inl ⟨hlt, H', rfl, w2⟩
    · rw [n_TWriteOut hT (by omega), Option.bind_some, bif_pos (by rfl)]
      exact .inr ⟨hge, rfl⟩
  unfold m_blob_Put_r1
  rw [show mkI 1 64 = some 64 from rfl, Option.bind_some, wi_succ (by omega)]
  by_cases h : q + 1 < p.length
  · have hx := (hp _ _ (List.getElem?_eq_getElem h)).1
    have en : p[q + 1] = ((nxt p q : Nat) : Int) := by unfold nxt; rw [List.getD_eq_getElem?_getD, List.getElem?_eq_getElem h]; show _ = ((p[q + 1].toNat : Nat) : Int); omega
    rw [bif_pos (dec_t (by omega)), idx_nat h, Option.bind_some, en, n_word_Put (rt_nxt hp q), Option.bind_some, cpyA _ _ (by simp), Option.bind_some, lenI_ok (by simp [be_length]), Option.bind_some]
    have e64 : (be 4 (nxt p q)).take 64 = be 4 (nxt p q) := List.take_of_length_le (by rw [be_length]; omega)
    exact key _ (by simp [be_length]) (by simp [be_length, e64]) (by simp [be_length])
  · rw [bif_neg (dec_f (by omega))]
    have : nxt p q = 0 := by unfold nxt; rw [List.getD_eq_getElem?_getD, List.getElem?_eq_none (by omega)]; rfl
    exact key _ (by simp) (by rw [this]; rfl) (by simp)
def rndP (p : List Int) (t : Nat) : List UInt8 → Int × Int → Hp → Option (Bool × (Int × Int) × Hp) := fun a b w => m_blob_Put_r1 p t a b.1 b.2 w
/-- The chunks, put. -/
theorem n_chunks {p : List Int} {b : List UInt8} {t : Nat} (hp : RtP p) (hl : p.length ≤ 1000) (hb : b.length ≤ 1024) (hc : p.length = cntN b.length) : ∀ (f q : Nat) (H : Hp) (hs : List (List UInt8)) (mp : List (Int × List UInt8)), q ≤ p.length → b.length - 60 * q < f → 0 < f → TIn H t hs mp →
    ((∀ h ∈ p.drop q, h.toNat < hs.length) ∧ ∃ H' k, m_slices_Chunk_byte_c1_l1 b 60 (lpY (rndP p t)) f ((60 * q : Nat) : Int) ((true, (0, (q : Int))), H) = some ((true, (0, k)), H') ∧ TIn H' t (wrP p b (p.drop q) q hs) (msP p b (p.drop q) q mp))
    ∨ ((∃ h ∈ p.drop q, hs.length ≤ h.toNat) ∧ ∃ H' k hs' mp', m_slices_Chunk_byte_c1_l1 b 60 (lpY (rndP p t)) f ((60 * q : Nat) : Int) ((true, (0, (q : Int))), H) = some ((false, (31, k)), H') ∧ TIn H' t hs' mp')
  | 0, q, H, hs, mp, _, _, h, _ => by omega
  | f + 1, q, H, hs, mp, hq, hf, _, hT => by
    unfold m_slices_Chunk_byte_c1_l1
    by_cases hlt : 60 * q < b.length
    · have hqp : q < p.length := by rw [hc]; unfold cntN; omega
      rw [bif_pos (dec_t (by omega)), cutI_drop (by omega), Option.bind_some]
      have hcut : cutI b ((60 * q : Nat) : Int) (wi (((60 * q : Nat) : Int) + (if (((b.drop (60 * q)).length : Nat) : Int) < 60 then (((b.drop (60 * q)).length : Nat) : Int) else 60))) = some (pcs b q) := by
        rw [List.length_drop]
        by_cases h6 : b.length - 60 * q < 60
        · rw [if_pos (by omega), wi_id (by omega) (by omega)]
          have := cutI_mid (l := b) (lo := 60 * q) (n := b.length - 60 * q) (by omega) (((60 * q : Nat) : Int) + ((b.length - 60 * q : Nat) : Int)) (by omega)
          rw [this]
          unfold pcs
          rw [List.take_of_length_le (by rw [List.length_drop]; exact Nat.le_refl _), List.take_of_length_le (by rw [List.length_drop]; omega)]
        · rw [if_neg (by omega), wi_id (by omega) (by omega)]
          exact cutI_mid (l := b) (lo := 60 * q) (n := 60) (by omega) (((60 * q : Nat) : Int) + 60) (by omega)
      rw [hcut, Option.bind_some]
      have hd := List.drop_eq_getElem_cons hqp
      have hr := n_Put_r1 (b := b) hp hl hqp hT 0
      rcases hr with ⟨h1, H1, h2, h3⟩ | ⟨h1, h2⟩
      · have hy : lpY (rndP p t) (pcs b q) ((true, (0, (q : Int))), H) = some (true, ((true, (0, ((q + 1 : Nat) : Int))), H1)) := by
          unfold lpY rndP
          rw [bif_pos (by rfl), h2]
          rfl
        rw [hy, Option.bind_some, bif_neg (by rfl)]
        have ew : wi (((60 * q : Nat) : Int) + 60) = ((60 * (q + 1) : Nat) : Int) := by rw [wi_id (by omega) (by omega)]; omega
        rw [ew]
        obtain ⟨f', rfl⟩ : ∃ f', f = f' + 1 := ⟨f - 1, by omega⟩
        rcases n_chunks hp hl hb hc (f' + 1) (q + 1) H1 _ _ (by omega) (by omega) (by omega) h3 with ⟨k1, H2, k, k2, k3⟩ | ⟨⟨x, k1, k2⟩, H2, k, hs', mp', k3, k4⟩
        · refine .inl ⟨fun x hx => ?_, H2, k, k2, ?_⟩
          · rw [hd] at hx
            rcases List.mem_cons.1 hx with rfl | hx
            · exact h1
            · have := k1 x hx
              rw [List.length_set] at this
              exact this
          · rw [hd]
            exact k3
        · exact .inr ⟨⟨x, by rw [hd]; exact List.mem_cons_of_mem _ k1, by rw [List.length_set] at k2; exact k2⟩, H2, k, hs', mp', k3, k4⟩
      · have hy : lpY (rndP p t) (pcs b q) ((true, (0, (q : Int))), H) = some (false, ((false, (31, (q : Int))), H)) := by
          unfold lpY rndP
          rw [bif_pos (by rfl), h2]
          rfl
        rw [hy, Option.bind_some, bif_pos (by rfl)]
        exact .inr ⟨⟨p[q], by rw [hd]; exact List.mem_cons_self, h1⟩, H, _, hs, mp, rfl, hT⟩
    · have hqp : q = p.length := by unfold cntN at hc; omega
      rw [bif_neg (dec_f (by omega))]
      refine .inl ⟨fun x hx => ?_, H, _, rfl, ?_⟩
      · rw [List.drop_eq_nil_of_le (by omega)] at hx
        cases hx
      · rw [List.drop_eq_nil_of_le (by omega)]
        exact hT
/-- Bytes over homes. -/
theorem n_Put21 {p : List Int} {b : List UInt8} {t : Nat} {H : Hp} {hs : List (List UInt8)} {mp : List (Int × List UInt8)} (hpl : p.length < 1000000000) (hbl : b.length < 1000000000) (hT : TIn H t hs mp) :
    (1024 < b.length ∧ m_blob_Put (some t) p b H = some (0, 3, H))
    ∨ (b.length ≤ 1024 ∧ ¬ (p.length = cntN b.length ∧ RtP p) ∧ m_blob_Put (some t) p b H = some (0, 2, H))
    ∨ (b.length ≤ 1024 ∧ p.length = cntN b.length ∧ RtP p ∧ (∀ h ∈ p, h.toNat < hs.length) ∧ ∃ H', m_blob_Put (some t) p b H = some (p.getD 0 0, 0, H') ∧ TIn H' t (wrP p b p 0 hs) (msP p b p 0 mp))
    ∨ (b.length ≤ 1024 ∧ p.length = cntN b.length ∧ RtP p ∧ (∃ h ∈ p, hs.length ≤ h.toNat) ∧ ∃ H' hs' mp', m_blob_Put (some t) p b H = some (0, 31, H') ∧ TIn H' t hs' mp') := by
  unfold m_blob_Put
  show _ ∨ _
  have e0 : ∀ k : Nat → Option (Int × Int × Hp), ptM (some t) none k = k t := fun _ => rfl
  rw [e0, n_may21, Option.bind_some, dec_t (p := (0 : Int) ≤ (b.length : Int)) (by omega)]
  rcases Nat.lt_or_ge 1024 b.length with h | h
  · rw [dec_f (p := (b.length : Int) ≤ 1024) (by omega), bif_pos (by rfl)]
    exact .inl ⟨h, rfl⟩
  · rw [dec_t (p := (b.length : Int) ≤ 1024) (by omega), bif_neg (by rfl), n_Count h, Option.bind_some]
    refine .inr ?_
    by_cases hc : p.length = cntN b.length
    · rw [bif_neg (ine_f (by omega))]
      obtain ⟨r, r1, r2⟩ := n_right hpl
      rw [r1, Option.bind_some]
      cases r with
      | false =>
        rw [bif_pos (by rfl)]
        exact .inl ⟨h, (fun e => by have := r2.2 e.2; cases this), rfl⟩
      | true =>
        have hr := r2.1 rfl
        rw [bif_neg (by rfl)]
        refine .inr ?_
        have hl : p.length ≤ 1000 := by rw [hc]; unfold cntN; omega
        by_cases hb0 : b.length = 0
        · have hp0 : p = [] := List.eq_nil_of_length_eq_zero (by rw [hc, hb0]; rfl)
          subst hp0
          rw [bif_pos (ieq_t (by omega))]
          exact .inl ⟨h, hc, hr, (fun _ h => by cases h), H, rfl, hT⟩
        · rw [bif_neg (ieq_f (by omega))]
          have e1 : m_slices_Chunk_byte b 60 = some (b, 60) := rfl
          rw [e1, Option.bind_some]
          have hp0 : 0 < p.length := by rw [hc]; unfold cntN; omega
          unfold m_slices_Chunk_byte_c1
          have hk := n_chunks (b := b) hr hl h hc (b.length + 1) 0 H hs mp (by omega) (by omega) (by omega) hT
          rw [show ((60 * 0 : Nat) : Int) = 0 from rfl, List.drop_zero] at hk
          rcases hk with ⟨k1, H', k, k2, k3⟩ | ⟨k1, H', k, hs', mp', k2, k3⟩
          · refine .inl ⟨h, hc, hr, k1, H', ?_, k3⟩
            show Option.bind (m_slices_Chunk_byte_c1_l1 b 60 (lpY (rndP p t)) (b.length + 1) 0 ((true, (0, 0)), H)) _ = _
            rw [k2, Option.bind_some, bif_pos (by rfl), show (0 : Int) = ((0 : Nat) : Int) from rfl, idx_nat hp0, Option.bind_some, List.getD_eq_getElem?_getD, List.getElem?_eq_getElem hp0]
            rfl
          · refine .inr ⟨h, hc, hr, k1, H', hs', mp', ?_, k3⟩
            show Option.bind (m_slices_Chunk_byte_c1_l1 b 60 (lpY (rndP p t)) (b.length + 1) 0 ((true, (0, 0)), H)) _ = _
            rw [k2, Option.bind_some, bif_neg (by rfl)]
    · rw [bif_pos (ine_t (by omega))]
      exact .inl ⟨h, fun e => hc e.1, rfl⟩

/-! ### Chains -/
end Go.Proofs.Ytjomnccladjpgaa

/-
  Plain: the document's answers on chains; BlobReads is true.
-/
namespace Go.Proofs.Ytjomnccladjpgaa
open Go Go.RowKit
set_option linter.unusedVariables false
set_option linter.unusedSimpArgs false

theorem awake21 : (m_L21_awake Hp.e).map (·.1) = some true := by kernel_rfl
theorem n_awake21 : ∃ w1, m_L21_awake Hp.e = some (true, w1) := by
  have h := awake21
  cases hx : m_L21_awake Hp.e with
  | none => rw [hx] at h; cases h
  | some y =>
    obtain ⟨b, w1⟩ := y
    rw [hx] at h
    injection h with h
    exact ⟨w1, by rw [show b = true from h]⟩
/-! ### The document's chains -/
end Go.Proofs.Ytjomnccladjpgaa

/-
  Plain: BlobWrites and BlobBack are true.
-/
namespace Go.Proofs.Ytjomnccladjpgaa
open Go Go.RowKit
set_option linter.unusedVariables false
set_option linter.unusedSimpArgs false

/-! ### What stands behind rows written -/
theorem rt_nodup {p : List Int} (h : RtP p) : p.Nodup := by
  refine List.pairwise_iff_getElem.2 fun i j hi hj hij e => ?_
  refine (h j _ (List.getElem?_eq_getElem hj)).2 ?_
  rw [← e]
  exact List.mem_of_getElem? (i := i) (by rw [List.getElem?_take, if_pos hij, List.getElem?_eq_getElem])
theorem msP_len (p : List Int) (b : List UInt8) : ∀ (r : List Int) (q : Nat) (mp : List (Int × List UInt8)), r.Nodup → (∀ h ∈ r, mfind mp h = none) → (msP p b r q mp).length = mp.length + r.length
  | [], _, _, _, _ => rfl
  | x :: r, q, mp, hn, hr => by
    rw [List.nodup_cons] at hn
    unfold msP
    rw [msP_len p b r (q + 1) _ hn.2 fun y hy => by
      rw [mf_ms, if_neg (fun e => hn.1 (by rw [← e]; exact hy))]
      exact hr y (List.mem_cons_of_mem _ hy), ms_len, if_pos (hr x List.mem_cons_self), List.length_cons]
    omega

/-! ### BlobWrites -/
theorem twenty_nil : m_L21_twenty_r [] = some (List.replicate 20 Z64) := by kernel_rfl
theorem n_Right {p : List Int} {n : Nat} (hp : p.length < 1000000000) (hn : n ≤ 1000000) : m_R21_Right p (n : Int) = some (if 1024 < n then 3 else if p.length = cntN n then (if decide (∀ i, ∀ (h : i < p.length), (1 ≤ p[i] ∧ p[i] ≤ 16384) ∧ p[i] ∉ p.take i) then 0 else 2) else 2) := by
  unfold m_R21_Right
  by_cases h : 1024 < n
  · rw [bif_pos (dec_t (by omega)), if_pos h]
  · rw [bif_neg (dec_f (by omega)), if_neg h, n_RCount hn, Option.bind_some]
    by_cases hc : p.length = cntN n
    · rw [bif_neg (ine_f (by omega)), if_pos hc]
      obtain ⟨z, e1, e2, e3⟩ := n_RRight_l1 hp
      rw [e1]
      have hiff : RtP p ↔ ∀ i, ∀ (h : i < p.length), (1 ≤ p[i] ∧ p[i] ≤ 16384) ∧ p[i] ∉ p.take i := by
        constructor
        · exact fun hr i hi => hr i _ (List.getElem?_eq_getElem hi)
        · intro hr i x hx
          obtain ⟨hi, rfl⟩ := List.getElem?_eq_some_iff.1 hx
          exact hr i hi
      by_cases hr : RtP p
      · rw [e2 hr, if_pos (by simpa using hiff.1 hr)]
      · rw [e3 hr, if_neg (by simpa using fun h => hr (hiff.2 h))]
    · rw [bif_pos (ine_t (by omega)), if_neg hc]
theorem n_Right_ok {p : List Int} {n : Nat} (hp : p.length < 1000000000) (h1 : n ≤ 1024) (hc : p.length = cntN n) (hr : RtP p) : m_R21_Right p (n : Int) = some 0 := by
  unfold m_R21_Right
  rw [bif_neg (dec_f (by omega)), n_RCount (by omega), Option.bind_some, bif_neg (ine_f (by omega))]
  obtain ⟨z, e1, e2, e3⟩ := n_RRight_l1 hp
  rw [e1, e2 hr]
theorem n_Right_no {p : List Int} {n : Nat} (hp : p.length < 1000000000) (h1 : n ≤ 1024) (hc : ¬ (p.length = cntN n ∧ RtP p)) : m_R21_Right p (n : Int) = some 2 := by
  unfold m_R21_Right
  rw [bif_neg (dec_f (by omega)), n_RCount (by omega), Option.bind_some]
  by_cases h : p.length = cntN n
  · rw [bif_neg (ine_f (by omega))]
    obtain ⟨z, e1, e2, e3⟩ := n_RRight_l1 hp
    rw [e1, e3 fun hr => hc ⟨h, hr⟩]
  · rw [bif_pos (ine_t (by omega))]
section
variable {p : List Int} {b : List UInt8} {t : Nat} {H : Hp} {hs : List (List UInt8)} {mp : List (Int × List UInt8)}
theorem n_BW_l4 (hT : TIn H t hs mp) (e0 : Int) (he : e0 = p.getD 0 0) (hl : p.length ≤ 40) (hw : mp.length = p.length) : ∀ (f i : Nat), i ≤ hs.length → hs.length - i < f → m_L21_BlobWrites_l4 hs t (e0, 0, H) p f (i : Int) = some (true, H)
  | 0, i, _, h => by omega
  | f + 1, i, hi, h => by
    have low := hT.low
    unfold m_L21_BlobWrites_l4
    by_cases hlt : i < hs.length
    · have hb := List.getElem?_eq_getElem hlt
      have h64 := hT.wide hb
      rw [bif_pos (dec_t (by omega)), idx_nat hlt, Option.bind_some, n_TRead hT hb, Option.bind_some, bif_neg (by rfl), n_R01_Same _ _ (by show hs[i].length < _; omega), Option.bind_some, beq_self_eq_true, bif_neg (by rfl), wi_succ (by omega)]
      exact n_BW_l4 hT e0 he hl hw f (i + 1) (by omega) (by omega)
    · rw [bif_neg (dec_f (by omega))]
      unfold m_L21_BlobWrites_j3
      rw [bif_pos (by rfl), n_TWeight hT, Option.bind_some, bif_pos (ieq_t (by omega))]
      cases p with
      | nil =>
        have : e0 = 0 := he
        subst this
        rfl
      | cons x r =>
        have : e0 = x := he
        subst this
        rw [bif_neg (ieq_f (by first | (simp; done) | (simp; omega))), bif_pos (dec_t (by first | (simp; done) | (simp; omega)))]
        show Option.bind (idx (e0 :: r) 0) _ = _
        rw [idx_zero, Option.bind_some]
        simp
theorem n_BW_l5 (hp : RtP p) (hl : p.length ≤ 40) (hb : b.length ≤ 3000) (x : Int × Int × Hp) : ∀ (f i : Nat) (w : List (List UInt8)), i ≤ p.length → p.length - i < f → (∀ h ∈ p, h.toNat < w.length) → m_L21_BlobWrites_l5 p b t x f (i : Int) w = m_L21_BlobWrites_j2 t x p (wrP p b (p.drop i) i w)
  | 0, i, w, _, h, _ => by omega
  | f + 1, i, w, hi, h, hw => by
    unfold m_L21_BlobWrites_l5
    by_cases hlt : i < p.length
    · have hx := (hp _ _ (List.getElem?_eq_getElem hlt)).1
      have hlw := hw _ (List.getElem_mem hlt)
      rw [bif_pos (dec_t (by omega)), idx_nat hlt, Option.bind_some, n_RSector hp hl hb hlt, Option.bind_some]
      have : idx w p[i] = some w[p[i].toNat] := by
        have := idx_nat hlw
        rw [show ((p[i].toNat : Nat) : Int) = p[i] by omega] at this
        exact this
      rw [this, Option.bind_some, wi_succ (by omega), n_BW_l5 hp hl hb x f (i + 1) _ (by omega) (by omega) (fun h hh => by rw [List.length_set]; exact hw h hh), List.drop_eq_getElem_cons hlt]
      rfl
    · rw [bif_neg (dec_f (by omega)), List.drop_eq_nil_of_le (by omega)]
      rfl
theorem n_BW_l6 (x : Int × Int × Hp) (hl : p.length ≤ 40) : ∀ (f i : Nat), i ≤ p.length → p.length - i < f → (∀ j h, j < i → p[j]? = some h → h < 20) →
    ((∀ h ∈ p, h < 20) ∧ m_L21_BlobWrites_l6 p x b t f (i : Int) = m_L21_BlobWrites_j1 p b t x)
    ∨ ((∃ h ∈ p, 20 ≤ h) ∧ m_L21_BlobWrites_l6 p x b t f (i : Int) = if x.2.1 = 31 then some ((x.1 == 0), x.2.2) else some (false, x.2.2))
  | 0, i, _, h, _ => by omega
  | f + 1, i, hi, h, hb => by
    unfold m_L21_BlobWrites_l6
    by_cases hlt : i < p.length
    · have hx := List.getElem?_eq_getElem hlt
      rw [bif_pos (dec_t (by omega)), idx_nat hlt, Option.bind_some]
      by_cases h20 : p[i] ≥ 20
      · rw [bif_pos (dec_t h20)]
        refine .inr ⟨⟨p[i], List.getElem_mem hlt, h20⟩, ?_⟩
        by_cases e : x.2.1 = 31
        · rw [if_pos e, bif_pos (ieq_t e)]
        · rw [if_neg e, bif_neg (ieq_f e)]
      · rw [bif_neg (dec_f h20), wi_succ (by omega)]
        exact n_BW_l6 x hl f (i + 1) (by omega) (by omega) fun j h hj hjx => by
          by_cases e : j = i
          · subst e
            rw [hx] at hjx
            injection hjx with hjx
            omega
          · exact hb j h (by omega) hjx
    · rw [bif_neg (dec_f (by omega))]
      exact .inl ⟨fun h hh => by
        obtain ⟨j, hj⟩ := List.getElem?_of_mem hh
        exact hb j h (by have := (List.getElem?_eq_some_iff.1 hj).1; omega) hj, rfl⟩
end
/-- BlobWrites is true. -/
theorem n_BlobWrites (p : List Int) (b : List UInt8) : ∃ w, m_L21_BlobWrites p b Hp.e = some (true, w) := by
  obtain ⟨w1, e1⟩ := n_awake21
  unfold m_L21_BlobWrites
  rw [e1, Option.bind_some, bif_neg (by rfl)]
  by_cases h1 : (p.length : Int) > 40
  · rw [bif_pos (dec_t h1)]
    exact ⟨w1, rfl⟩
  · rw [bif_neg (dec_f h1)]
    by_cases h2 : (b.length : Int) > 3000
    · rw [bif_pos (dec_t h2)]
      exact ⟨w1, rfl⟩
    · rw [bif_neg (dec_f h2)]
      obtain ⟨t, H, hs, mp, e3, hT, g1, _, g2, g3⟩ := n_Begun [] (by simp) (fun _ h => by cases h) w1
      have g3 := g3 rfl
      subst g3
      have ehs : hs = List.replicate 20 Z64 := by
        refine List.ext_getElem? fun i => ?_
        rcases Nat.lt_or_ge i 20 with h | h
        · rw [g2 i (Nat.zero_le _) h, List.getElem?_replicate, if_pos h]
        · rw [List.getElem?_eq_none (by omega), List.getElem?_eq_none (by simp; omega)]
      rw [e3, Option.bind_some]
      show ∃ w, ptM (some t) none _ = _
      have e0 : ∀ k : Nat → Option (Bool × Hp), ptM (some t) none k = k t := fun _ => rfl
      rw [e0]
      rcases n_Put21 (p := p) (b := b) (by omega) (by omega) hT with ⟨c1, c2⟩ | ⟨c1, c2, c3⟩ | ⟨c1, c2, c3, c4, H', c5, c6⟩ | ⟨c1, c2, c3, c4, H', hs', mp', c5, c6⟩
      · rw [c2, Option.bind_some, n_Right (by omega) (by omega), if_pos c1, Option.bind_some, bif_pos (by rfl), bif_pos (by rfl), bif_pos (by rfl), n_TWeight hT]
        exact ⟨H, rfl⟩
      · rw [c3, Option.bind_some, n_Right_no (by omega) c1 c2, Option.bind_some, bif_pos (by rfl), bif_pos (by rfl), bif_pos (by rfl), n_TWeight hT]
        exact ⟨H, rfl⟩
      · rw [c5, Option.bind_some, n_Right_ok (by omega) c1 c2 c3, Option.bind_some, bif_neg (by rfl)]
        have hpos : ∀ h ∈ p, 1 ≤ h ∧ h ≤ 16384 := fun h hh => by
          obtain ⟨j, hj⟩ := List.getElem?_of_mem hh
          exact (c3 j h hj).1
        rcases n_BW_l6 (p := p) (b := b) (t := t) (p.getD 0 0, 0, H') (by omega) (p.length + 1) 0 (by omega) (by omega) (fun j h hj => absurd hj (Nat.not_lt_zero _)) with ⟨k1, k2⟩ | ⟨⟨h, k1, k2⟩, _⟩
        · rw [show ((0 : Nat) : Int) = 0 from rfl] at k2
          rw [k2]
          unfold m_L21_BlobWrites_j1
          rw [twenty_nil, Option.bind_some]
          have := n_BW_l5 (t := t) c3 (by omega) (by omega : b.length ≤ 3000) (p.getD 0 0, 0, H') (p.length + 1) 0 (List.replicate 20 Z64) (by omega) (by omega) (fun h hh => by have := c4 h hh; rw [g1] at this; simpa using this)
          rw [show ((0 : Nat) : Int) = 0 from rfl, List.drop_zero] at this
          rw [this]
          unfold m_L21_BlobWrites_j2
          rw [← ehs]
          have hfin := n_BW_l4 (p := p) c6 (p.getD 0 0) rfl (by omega) (by
            rw [msP_len p b p 0 [] (rt_nodup c3) (fun _ _ => rfl)]
            simp) ((wrP p b p 0 hs).length + 1) 0 (by omega) (by omega)
          exact ⟨H', hfin⟩
        · exfalso
          have := c4 h k1
          have := hpos h k1
          omega
      · have hpos : ∀ h ∈ p, 1 ≤ h ∧ h ≤ 16384 := fun h hh => by
          obtain ⟨j, hj⟩ := List.getElem?_of_mem hh
          exact (c3 j h hj).1
        rw [c5, Option.bind_some, n_Right_ok (by omega) c1 c2 c3, Option.bind_some, bif_neg (by rfl)]
        rcases n_BW_l6 (p := p) (b := b) (t := t) (0, 31, H') (by omega) (p.length + 1) 0 (by omega) (by omega) (fun j h hj => absurd hj (Nat.not_lt_zero _)) with ⟨k1, k2⟩ | ⟨_, k2⟩
        · exfalso
          obtain ⟨h, q1, q2⟩ := c4
          have := k1 h q1
          have := hpos h q1
          omega
        · rw [show ((0 : Nat) : Int) = 0 from rfl] at k2
          rw [k2, if_pos rfl]
          exact ⟨H', rfl⟩

/-! ### BlobBack -/
end Go.Proofs.Ytjomnccladjpgaa

/-
  The contracts of the laws of Blob: they start with no heap, and return true.
-/
namespace Go.Proofs.Ytjomnccladjpgaa
open Go Go.RowKit
set_option linter.unusedVariables false
theorem lawBW (p : List Int) (b : List UInt8) : FC Try.prog 5 [.t (.d (.seq 1 (List.map cI64 p))), .t (.d (.seq 1 (bytesD b)))] [] (.t (.d (.lit (.bool true)))) := by
  obtain ⟨w', h⟩ := n_BlobWrites p b
  exact fc_of_h (fch_L21_BlobWrites p b Hp.e (true, w') h) (fun c => hpA_e c) rfl (by show 2 ≤ OB; decide)
end Go.Proofs.Ytjomnccladjpgaa
