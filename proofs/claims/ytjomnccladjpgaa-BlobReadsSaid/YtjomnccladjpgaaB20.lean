/-
  Texts joined: see the remark at the head of each part.
-/
import Derived.Test.YtjomnccladjpgaaB13
import Derived.Test.YtjomnccladjpgaaB19
import Derived.Test.YtjomnccladjpgaaB18
set_option linter.unusedVariables false
set_option linter.unusedSimpArgs false
/-
  Plain: what a transaction does.
-/
namespace Go.Proofs.Ytjomnccladjpgaa
open Go Go.RowKit
set_option linter.unusedVariables false
set_option linter.unusedSimpArgs false

/-! ### Maps told by their entries -/
section
variable {ν : Type}
theorem mf_nil (k : Int) : mfind ([] : List (Int × ν)) k = none := rfl
theorem mf_cons (a : Int × ν) (l : List (Int × ν)) (k : Int) : mfind (a :: l) k = if k = a.1 then some a.2 else mfind l k := by
  unfold mfind mpos
  rw [List.findIdx?_cons]
  by_cases h : k = a.1
  · rw [if_pos (by simpa using h), if_pos h]
    rfl
  · rw [if_neg (by simpa using h), if_neg h]
    cases List.findIdx? (fun p : Int × ν => k == p.1) l <;> rfl
theorem ms_nil (k : Int) (v : ν) : mset [] k v = [(k, v)] := rfl
theorem ms_cons (a : Int × ν) (l : List (Int × ν)) (k : Int) (v : ν) : mset (a :: l) k v = if k = a.1 then (k, v) :: l else a :: mset l k v := by
  unfold mset mpos
  rw [List.findIdx?_cons]
  by_cases h : k = a.1
  · rw [if_pos (by simpa using h), if_pos h]
    rfl
  · rw [if_neg (by simpa using h), if_neg h]
    cases List.findIdx? (fun p : Int × ν => k == p.1) l <;> rfl
theorem mf_ms (l : List (Int × ν)) (k q : Int) (v : ν) : mfind (mset l k v) q = if q = k then some v else mfind l q := by
  induction l with
  | nil => rw [ms_nil, mf_cons, mf_nil]
  | cons a l ih =>
    rw [ms_cons]
    by_cases h : k = a.1
    · rw [if_pos h, mf_cons, mf_cons]
      by_cases h2 : q = k
      · rw [if_pos h2, if_pos h2]
      · rw [if_neg h2, if_neg h2, if_neg (by rw [← h]; exact h2)]
    · rw [if_neg h, mf_cons, mf_cons, ih]
      by_cases h2 : q = k
      · rw [if_pos h2, if_pos h2, if_neg (by rw [h2]; exact h)]
      · rw [if_neg h2, if_neg h2]
end

/-- A transaction: what its homes are (hs), and what was written (mp). -/
structure TIn (H : Hp) (t : Nat) (hs : List (List UInt8)) (mp : List (Int × List UInt8)) : Prop where
  at_ : ∃ i j d s b sl us com m, LIn H i j d s b sl us com ∧ H.tx[t]? = some ⟨some j, com, false, m⟩ ∧ H.mp[m]? = some mp ∧ hs.length = d.now.length - 2 - s ∧
    ∀ (k : Nat) (r : List UInt8), hs[k]? = some r → mfind mp (k : Int) = some r ∨ mfind mp (k : Int) = none ∧ d.now[2 + s + k]? = some r
  row : ∀ r ∈ hs, r.length = 64
  keys : ∀ (q : Int) (r : List UInt8), mfind mp q = some r → 0 ≤ q ∧ q < (hs.length : Int)

section
variable {H : Hp} {t : Nat} {hs : List (List UInt8)} {mp : List (Int × List UInt8)}
theorem TIn.low (h : TIn H t hs mp) : hs.length ≤ 16384 := by
  obtain ⟨⟨i, j, d, s, b, sl, us, com, m, h1, h2, h3, h4, h5⟩, _, _⟩ := h
  have := h1.ln
  omega
theorem TIn.wide (h : TIn H t hs mp) {k : Nat} {r : List UInt8} (hk : hs[k]? = some r) : r.length = 64 := h.row r (List.mem_of_getElem? hk)
theorem TIn.ht (h : TIn H t hs mp) : t < H.tx.length := by
  obtain ⟨⟨i, j, d, s, b, sl, us, com, m, h1, h2, h3, h4, h5⟩, _, _⟩ := h
  exact (List.getElem?_eq_some_iff.1 h2).1
theorem TIn.tell {H' : Hp} (h : TIn H t hs mp) (e1 : H'.dk = H.dk) (e2 : H'.sec = H.sec) (e3 : H'.lg = H.lg) (e4 : H'.tx = H.tx) (e5 : H'.mp = H.mp) : TIn H' t hs mp := by
  obtain ⟨⟨i, j, d, s, b, sl, us, com, m, h1, h2, h3, h4, h5⟩, h6, h7⟩ := h
  exact ⟨⟨i, j, d, s, b, sl, us, com, m, ⟨h1.dsk.lg e1 e2, h1.off, by rw [e3]; exact h1.lg, h1.s3, h1.sl, h1.ln, h1.bs⟩, by rw [e4]; exact h2, by rw [e5]; exact h3, h4, h5⟩, h6, h7⟩
theorem n_TAlive (h : TIn H t hs mp) : m_wal_Txn_alive (some t) H = some 0 := by
  obtain ⟨⟨i, j, d, s, b, sl, us, com, m, h1, h2, h3, h4, h5⟩, h6, h7⟩ := h
  unfold m_wal_Txn_alive
  show Option.bind (H.tx[t]?) _ = _
  rw [h2, Option.bind_some]
  show Option.bind (m_wal_Log_alive (some j) H) _ = _
  rw [n_alive h1, Option.bind_some, bif_neg (ine_f rfl)]
  show Option.bind (H.lg[j]?) _ = _
  rw [h1.lg, Option.bind_some]
  show (bif com != com then some 34 else some 0) = _
  rw [bif_neg (ine_f rfl)]
theorem n_TRead (h : TIn H t hs mp) {k : Nat} {r : List UInt8} (hr : hs[k]? = some r) : m_wal_Txn_Read (some t) (k : Int) H = some (r, 0) := by
  have ha := n_TAlive h
  have hw := h.wide hr
  obtain ⟨⟨i, j, d, s, b, sl, us, com, m, h1, h2, h3, h4, h5⟩, h6, h7⟩ := h
  unfold m_wal_Txn_Read
  rw [ha, Option.bind_some, bif_neg (ine_f rfl)]
  show Option.bind (H.tx[t]?) _ = _
  rw [h2, Option.bind_some]
  show Option.bind (H.mp[m]?) _ = _
  rw [h3, Option.bind_some]
  rcases h5 k r hr with h8 | ⟨h8, h9⟩
  · rw [h8, bif_pos (by rfl)]
    show Option.bind (m_slices_Clone_byte r) _ = _
    unfold m_slices_Clone_byte
    rw [appI_ok (by rw [List.length_nil]; omega), Option.bind_some]
    rfl
  · rw [h8, bif_neg (by rfl)]
    show Option.bind (m_wal_Log_Read (some j) (k : Int) H) _ = _
    rw [n_LRead h1 h9]
    rfl
theorem n_LReadOut {i j : Nat} {d : Dsk} {s b sl us : Nat} {com : Int} (h : LIn H i j d s b sl us com) {z : Int} (hz : ¬ (0 ≤ z ∧ z < ((d.now.length - 2 - s : Nat) : Int))) : m_wal_Log_Read (some j) z H = some ([], 31) := by
  unfold m_wal_Log_Read
  rw [n_alive h, Option.bind_some, bif_neg (ine_f rfl)]
  by_cases h0 : z < 0
  · rw [bif_pos (dec_t h0)]
  · rw [bif_neg (dec_f h0), n_Homes h, Option.bind_some, bif_pos (dec_t (by omega))]
theorem n_TReadOut (h : TIn H t hs mp) {z : Int} (hz : ¬ (0 ≤ z ∧ z < (hs.length : Int))) : m_wal_Txn_Read (some t) z H = some ([], 31) := by
  have ha := n_TAlive h
  obtain ⟨⟨i, j, d, s, b, sl, us, com, m, h1, h2, h3, h4, h5⟩, h6, h7⟩ := h
  unfold m_wal_Txn_Read
  rw [ha, Option.bind_some, bif_neg (ine_f rfl)]
  show Option.bind (H.tx[t]?) _ = _
  rw [h2, Option.bind_some]
  show Option.bind (H.mp[m]?) _ = _
  rw [h3, Option.bind_some]
  have h8 : mfind mp z = none := by
    cases hf : mfind mp z with
    | none => rfl
    | some r => exact absurd (h7 z r hf) hz
  rw [h8, bif_neg (by rfl)]
  show Option.bind (m_wal_Log_Read (some j) z H) _ = _
  rw [n_LReadOut h1 (by rw [← h4]; exact hz)]
  rfl
theorem n_TWrite (h : TIn H t hs mp) {k : Nat} (hk : k < hs.length) {x : List UInt8} (hx : x.length = 64) :
    ∃ H', m_wal_Txn_Write (some t) (k : Int) x H = some (0, H') ∧ TIn H' t (hs.set k x) (mset mp (k : Int) x) ∧ ∃ m v, H' = H.st_mp m v := by
  have ha := n_TAlive h
  obtain ⟨⟨i, j, d, s, b, sl, us, com, m, h1, h2, h3, h4, h5⟩, h6, h7⟩ := h
  have hm : m < H.mp.length := (List.getElem?_eq_some_iff.1 h3).1
  refine ⟨H.st_mp m (mset mp (k : Int) x), ?_, ⟨⟨i, j, d, s, b, sl, us, com, m, ⟨h1.dsk.lg rfl rfl, h1.off, h1.lg, h1.s3, h1.sl, h1.ln, h1.bs⟩, h2, List.getElem?_set_self hm, by rw [List.length_set]; exact h4, fun q r hq => ?_⟩, fun r hr => ?_, fun q r hq => ?_⟩, m, _, rfl⟩
  · unfold m_wal_Txn_Write
    rw [ha, Option.bind_some, bif_neg (ine_f rfl), bif_neg (dec_f (by omega))]
    show Option.bind (H.tx[t]?) _ = _
    rw [h2, Option.bind_some]
    show Option.bind (m_wal_Log_Homes (some j) H) _ = _
    rw [n_Homes h1, Option.bind_some, bif_neg (dec_f (by omega)), bif_neg (ine_f (by omega))]
    unfold m_slices_Clone_byte
    rw [appI_ok (by rw [List.length_nil]; omega), Option.bind_some]
    show Option.bind (H.mp[m]?) _ = _
    rw [h3, Option.bind_some]
    rfl
  · rw [mf_ms]
    by_cases e : q = k
    · subst e
      rw [List.getElem?_set_self hk] at hq
      rw [if_pos rfl]
      exact .inl hq
    · rw [List.getElem?_set_ne (by omega)] at hq
      rw [if_neg (by omega)]
      exact h5 q r hq
  · rcases List.mem_or_eq_of_mem_set hr with hr | rfl
    · exact h6 r hr
    · exact hx
  · rw [List.length_set]
    rw [mf_ms] at hq
    by_cases e : q = k
    · omega
    · rw [if_neg e] at hq
      exact h7 q r hq
end

/-! ### A disk made anew, a log on it, a transaction of it -/
theorem z_badA {st : Nat} (h1 : 0 < st) (h2 : st < 18446744073709551616) : ¬ Valid st Z64 := by
  intro h
  have := congrArg ofBE (valid_end h)
  rw [ofBE_be, Nat.mod_eq_of_lt (by omega), show ofBE (Z64.drop 56) = 0 by decide +kernel] at this
  omega
/-- The homes of a log just made: noughts. -/
theorem open_new (w1 : Hp) {n s : Nat} (hn : n ≤ 16384) (hs : 3 ≤ s) (h2 : 2 + s < n) : ∃ H1 H2 H3 i j d, m_disk_New (n : Int) w1 = some (some i, 0, H1) ∧ m_wal_Format (some i) (s : Int) H1 = some (0, H2) ∧ m_wal_Open (some i) H2 = some (some j, 0, H3) ∧ WIn H3 i j d s (1 + s) 1 0 0 ∧ d.wait = [] ∧ d.now = ((List.replicate n Z64).set 0 (slotB 1 s)).set 1 (slotB (1 + s) s) := by
  obtain ⟨H1, e1, e2, e3⟩ := n_New (H := w1) (n := n) (by omega) (by omega)
  obtain ⟨H2, d2, f1, f2, f3, f4, f5, f6, f7, f8, f9⟩ := n_Format (n := n) (s := s) e2 rfl (by show (-1 : Int) < 0; omega) rfl rfl (by omega) (by omega) (by omega)
  have hl : d2.now.length = n := by rw [f5]; simp
  obtain ⟨K, g1, g2⟩ := n_Open_l5 (b := 1) (s := s) f2 f3 f4 hl (by omega) (by omega) (by omega) (by omega) (by omega) (by rw [f5, List.getElem?_set_self (by simp; omega)]) 0 (.inl ⟨by rw [f5, List.getElem?_set_ne (by omega), List.getElem?_replicate, if_pos (by omega)], rfl⟩)
  rw [if_pos rfl, if_pos rfl] at g2
  have hr : d2.now[2 + 0]? = some Z64 := by rw [f5, List.getElem?_set_ne (by omega), List.getElem?_replicate, if_pos (by omega)]
  have hs2 := n_says_none g2.toLIn ⟨_, n_at g2.toLIn (p := 0) (by omega) hr, atE_bad (z_badA (by omega) (by omega)) (by simp)⟩
  obtain ⟨H3, d3, k1, k2, k3, k4, k5, k6⟩ := n_Open_j4 (H := H2) g2 (by omega) (by omega) (by omega) hs2 (fun w hw => absurd hw List.not_mem_nil) (by simp) (by rw [f7]; simp)
  refine ⟨H1, H2, H3, w1.dk.length, H2.lg.length, d3, e1, f1, ?_, k2, k5, ?_⟩
  · rw [g1, k1]
  · rw [k3, f5]
    rfl
theorem n_Begin {H : Hp} {i j : Nat} {d : Dsk} {s b sl us : Nat} {com : Int} (h : LIn H i j d s b sl us com) : ∃ H', m_wal_Log_Begin (some j) H = some (some H.tx.length, 0, H') ∧ TIn H' H.tx.length (d.now.drop (2 + s)) [] ∧ H'.ix = H.ix := by
  have hsl := h.sl
  let X : S_wal_Txn := ⟨some j, com, false, H.mp.length⟩
  have e1 : ((H.nw_mp []).nw_tx X).tx[H.tx.length]? = some X := by
    show (H.tx ++ [X])[H.tx.length]? = _
    exact List.getElem?_concat_length
  have e2 : ((H.nw_mp []).nw_tx X).mp[H.mp.length]? = some [] := by
    show (H.mp ++ [[]])[H.mp.length]? = _
    exact List.getElem?_concat_length
  refine ⟨(H.nw_mp []).nw_tx X, ?_, ⟨⟨i, j, d, s, b, sl, us, com, H.mp.length, ⟨h.dsk.lg rfl rfl, h.off, h.lg, h.s3, h.sl, h.ln, h.bs⟩, e1, e2, by rw [List.length_drop]; omega, fun k r hk => .inr ⟨rfl, by rw [List.getElem?_drop] at hk; exact hk⟩⟩, fun r hr => ?_, fun q r hq => by cases hq⟩, rfl⟩
  · unfold m_wal_Log_Begin
    rw [n_alive h, Option.bind_some, bif_neg (ine_f rfl)]
    show Option.bind (H.lg[j]?) _ = _
    rw [h.lg, Option.bind_some]
    rfl
  · obtain ⟨k, hk⟩ := List.getElem?_of_mem hr
    rw [List.getElem?_drop] at hk
    exact h.dsk.row hk
end Go.Proofs.Ytjomnccladjpgaa

/-
  Plain: the bytes of an index's entries, and what the document says of them.
-/
namespace Go.Proofs.Ytjomnccladjpgaa
open Go Go.RowKit
set_option linter.unusedVariables false
set_option linter.unusedSimpArgs false

/-! ### Numbers as bytes, as the document has them -/
theorem U8_nat {n : Nat} (h : n < 256) : U8 (n : Int) = UInt8.ofNat n := by
  unfold U8
  congr 1
  omega
theorem ofBE_le (x y : List UInt8) : ofBE x ≤ ofBE (x ++ y) := by
  unfold ofBE
  rw [List.foldl_append]
  generalize List.foldl (fun x c => x * 256 + c.toNat) 0 x = a
  induction y generalizing a with
  | nil => exact Nat.le_refl _
  | cons c r ih => exact Nat.le_trans (by omega) (ih (a * 256 + UInt8.toNat c))
theorem n_R01_Get_l2 (b : List UInt8) (hb : b.length ≤ 8) : ∀ (n i : Nat), i ≤ b.length → b.length - i < n → ofBE (b.take i) ≤ 4611686018427387904 → m_R01_Get_l2 b n (ofBE (b.take i) : Int) (i : Int) = some (if 4611686018427387904 < ofBE b then (0, 11) else ((ofBE b : Int), 0))
  | 0, i, _, h, _ => by omega
  | n + 1, i, hi, h, ho => by
    unfold m_R01_Get_l2
    by_cases hlt : i < b.length
    · rw [bif_pos (dec_t (by omega)), idx_nat hlt, Option.bind_some]
      have ht : ofBE (b.take (i + 1)) = ofBE (b.take i) * 256 + b[i].toNat := by rw [← List.take_append_getElem hlt, ofBE_snoc]
      have hm : ofBE (b.take (i + 1)) ≤ ofBE b := by
        have := ofBE_le (b.take (i + 1)) (b.drop (i + 1))
        rwa [List.take_append_drop] at this
      have hc := b[i].toNat_lt
      have hgo : ofBE (b.take (i + 1)) ≤ 4611686018427387904 → ∀ y, m_R01_Get_j3 (m_R01_Get_l2 b n) (ofBE (b.take i) : Int) b[i] (i : Int) y = some (if 4611686018427387904 < ofBE b then (0, 11) else ((ofBE b : Int), 0)) := by
        intro hle y
        unfold m_R01_Get_j3
        rw [wi_succ (by omega), wi_id (z := 256 * (ofBE (b.take i) : Int)) (by omega) (by omega), wi_id (by omega) (by omega)]
        rw [show (256 * (ofBE (b.take i) : Int) + (b[i].toNat : Int)) = ((ofBE (b.take (i + 1)) : Nat) : Int) by rw [ht]; omega]
        exact n_R01_Get_l2 b hb n (i + 1) (by omega) (by omega) hle
      by_cases h1 : 18014398509481984 < ofBE (b.take i)
      · rw [bif_pos (dec_t (by omega)), if_pos (by omega)]
      · rw [bif_neg (dec_f (by omega))]
        by_cases h2 : ofBE (b.take i) = 18014398509481984
        · rw [bif_pos (ieq_t (by omega))]
          by_cases h3 : 0 < b[i].toNat
          · rw [bif_pos (dec_t (by omega)), if_pos (by omega)]
          · rw [bif_neg (dec_f (by omega))]
            exact hgo (by omega) _
        · rw [bif_neg (ieq_f (by omega))]
          exact hgo (by omega) _
    · have e : i = b.length := by omega
      subst e
      rw [bif_neg (dec_f (by omega))]
      rw [List.take_length] at ho ⊢
      rw [if_neg (by omega)]
      rfl
theorem n_R01_Get (b : List UInt8) : m_R01_Get b = some (getN b, getE b) := by
  unfold m_R01_Get getN getE
  by_cases h0 : b.length = 0
  · rw [bif_pos (ieq_t (by omega)), if_pos (.inl h0), if_pos h0]
  · rw [bif_neg (ieq_f (by omega)), if_neg h0]
    by_cases h8 : 8 < b.length
    · rw [bif_pos (dec_t (by omega)), if_pos (.inr (.inl h8)), if_pos h8]
    · rw [bif_neg (dec_f (by omega)), if_neg h8]
      have h := n_R01_Get_l2 b (by omega) (b.length + 1) 0 (by omega) (by omega) (by simp [ofBE])
      have e : m_R01_Get_l2 b (b.length + 1) 0 0 = m_R01_Get_l2 b (b.length + 1) ((ofBE (b.take 0) : Nat) : Int) ((0 : Nat) : Int) := rfl
      rw [e, h]
      by_cases hx : 4611686018427387904 < ofBE b
      · rw [if_pos hx, if_pos hx, if_pos (.inr (.inr hx))]
      · rw [if_neg hx, if_neg hx, if_neg (by omega)]

theorem n_R01_Low_l2 (k : Nat) (hk : k ≤ 8) : ∀ (n i m : Nat) (out : List UInt8), i ≤ k → k - i < n → out.length = i → m ≤ 4611686018427387904 → m_R01_Low_l2 (k : Int) n (m : Int) out (i : Int) = some (if 0 < m / 256 ^ (k - i) then ([], 2) else (out ++ le (k - i) m, 0))
  | 0, i, m, out, _, h, _, _ => by omega
  | n + 1, i, m, out, hi, h, ho, hm => by
    unfold m_R01_Low_l2
    by_cases hlt : i < k
    · rw [bif_pos (dec_t (by omega)), appI_ok (by simp; omega), Option.bind_some, wi_succ (by omega)]
      have e1 : Int.tdiv (m : Int) 256 = ((m / 256 : Nat) : Int) := rfl
      have e2 : Int.tmod (m : Int) 256 = ((m % 256 : Nat) : Int) := rfl
      rw [e1, e2, wi_id (by omega) (by omega), U8_nat (by omega), n_R01_Low_l2 k hk n (i + 1) (m / 256) _ (by omega) (by omega) (by simp [ho]) (by omega)]
      obtain ⟨j, hj⟩ : ∃ j, k - i = j + 1 := ⟨k - i - 1, by omega⟩
      rw [show k - (i + 1) = j by omega, hj, Nat.div_div_eq_div_mul, ← Nat.pow_succ', le]
      simp
    · have e : k - i = 0 := by omega
      rw [bif_neg (dec_f (by omega)), e]
      unfold m_R01_Low_j1
      by_cases h0 : 0 < m
      · rw [bif_pos (dec_t (by omega)), if_pos (by simpa using h0)]
      · rw [bif_neg (dec_f (by omega)), if_neg (by simpa using h0)]
        simp [le]
theorem n_R01_Turned_l1 (b : List UInt8) (hb : b.length ≤ 4611686018427387904) : ∀ (n i : Nat) (out : List UInt8), i ≤ b.length → i < n → out.length + i ≤ 1000000000 → m_R01_Turned_l1 b n out ((i : Int) - 1) = some (out ++ (b.take i).reverse)
  | 0, i, out, _, h, _ => by omega
  | n + 1, i, out, hi, h, ho => by
    unfold m_R01_Turned_l1
    cases i with
    | zero =>
      rw [bif_neg (dec_f (by omega))]
      simp
    | succ i =>
      rw [bif_pos (dec_t (by omega)), show ((i + 1 : Nat) : Int) - 1 = (i : Int) by omega, idx_nat (by omega), Option.bind_some, appI_ok (by simp; omega), Option.bind_some, wi_id (by omega) (by omega),
        n_R01_Turned_l1 b hb n i _ (by omega) (by omega) (by simp; omega), ← List.take_append_getElem (by omega : i < b.length), List.reverse_append]
      simp
theorem n_R01_Put {n k : Nat} (h : n < 256 ^ k) (h1 : 1 ≤ k) (h8 : k ≤ 8) (hn : n ≤ 4611686018427387904) : m_R01_Put (n : Int) (k : Int) = some (be k n, 0) := by
  unfold m_R01_Put m_R01_Low
  rw [bif_neg (dec_f (by omega)), bif_neg (dec_f (by omega)), bif_neg (dec_f (by omega)), bif_neg (dec_f (by omega)), Int.toNat_natCast]
  have hl := n_R01_Low_l2 k h8 (k + 1) 0 n [] (by omega) (by omega) rfl hn
  rw [Nat.sub_zero, if_neg (by rw [Nat.div_eq_of_lt h]; omega)] at hl
  show Option.bind (m_R01_Low_l2 (k : Int) (k + 1) (n : Int) [] ((0 : Nat) : Int)) _ = _
  rw [hl, Option.bind_some]
  show Option.bind (m_R01_Turned (le k n)) _ = _
  unfold m_R01_Turned
  rw [le_length, wi_id (by omega) (by omega)]
  have ht := n_R01_Turned_l1 (le k n) (by rw [le_length]; omega) (Int.toNat ((k : Int) - 1) + 2) k [] (by rw [le_length]; exact Nat.le_refl _) (by omega) (by simp; omega)
  rw [ht, Option.bind_some, show (le k n).take k = le k n from List.take_of_length_le (by rw [le_length]; exact Nat.le_refl _)]
  rfl

theorem n_number {n k : Nat} (h : n < 256 ^ k) (h1 : 1 ≤ k) (h8 : k ≤ 8) (hn : n ≤ 4611686018427387904) : m_R20_number (n : Int) (k : Int) = some (be k n) := by
  unfold m_R20_number
  rw [n_R01_Put h h1 h8 hn]
  rfl
theorem n_R01_Same_l1 (a b : List UInt8) (hl : a.length = b.length) (hb : a.length < 4611686018427387904) : ∀ (n i : Nat), i ≤ a.length → a.length - i < n → m_R01_Same_l1 a b n (i : Int) = some (a.drop i == b.drop i)
  | 0, i, _, h => by omega
  | n + 1, i, hi, h => by
    unfold m_R01_Same_l1
    by_cases hlt : i < a.length
    · have hlb : i < b.length := by omega
      rw [bif_pos (dec_t (by omega)), idx_nat hlt, Option.bind_some, idx_nat hlb, Option.bind_some, wi_succ (by omega), n_R01_Same_l1 a b hl hb n (i + 1) (by omega) (by omega)]
      have ha : a.drop i = a[i] :: a.drop (i + 1) := List.drop_eq_getElem_cons hlt
      have hb : b.drop i = b[i] :: b.drop (i + 1) := List.drop_eq_getElem_cons hlb
      rw [ha, hb]
      generalize a[i] = x
      generalize b[i] = y
      by_cases he : x = y
      · subst he
        rw [bif_neg (ine_f rfl)]
        simp
      · rw [bif_pos (ine_t (fun h => he (UInt8.toNat_inj.1 (by omega))))]
        simp [he]
    · rw [bif_neg (dec_f (by omega)), List.drop_eq_nil_of_le (by omega), List.drop_eq_nil_of_le (by omega)]
      rfl
theorem n_R01_Same (a b : List UInt8) (hb : a.length < 4611686018427387904) : m_R01_Same a b = some (a == b) := by
  unfold m_R01_Same
  by_cases hl : a.length = b.length
  · rw [bif_neg (ine_f (by omega))]
    exact n_R01_Same_l1 a b hl hb _ 0 (Nat.zero_le _) (by omega)
  · rw [bif_pos (ine_t (by omega))]
    congr 1
    symm
    rw [beq_eq_false_iff_ne]
    exact fun e => hl (by rw [e])
/-! ### Keys -/
def okc (c : UInt8) : Bool := decide (33 ≤ c.toNat) && decide (c.toNat ≤ 126)
def keyB (k : List UInt8) : Bool := decide (1 ≤ k.length) && (decide (k.length ≤ 40) && k.all okc)
def bkt : Nat → List UInt8 → Nat
  | h, [] => h
  | h, c :: r => bkt ((31 * h + c.toNat) % 4294967296) r
def buckN (k : List UInt8) : Nat := bkt 0 k % 64
def mayB (e : S_api_Entry) : Bool := keyB e.Key && (decide (e.Version ≥ 0) && (decide (e.Version ≤ 4611686018427387904) && (decide (e.Len ≥ 0) && (decide (e.Len ≤ 1024) && (decide (e.First ≥ 0) && decide (e.First ≤ 16384))))))
/-! ### An entry's bytes -/
def nodeB (e : S_api_Entry) (n : Nat) : List UInt8 := be 4 n ++ (be 8 e.Version.toNat ++ (be 4 e.Len.toNat ++ (be 4 e.First.toNat ++ (UInt8.ofNat e.Key.length :: (e.Key ++ List.replicate (43 - e.Key.length) 0)))))
theorem lenI_ok {a b : Nat} (h : a = b) : lenI a b = some () := by unfold lenI; rw [if_pos h]
/-! ### The entry of bytes -/
def fE (b : List UInt8) : S_api_Entry := ⟨(b.drop 21).take (b.getD 20 0).toNat, getN ((b.drop 4).take 8), (ofBE ((b.drop 12).take 4) : Int), (ofBE ((b.drop 16).take 4) : Int)⟩
def fN (b : List UInt8) : Nat := ofBE ((b.drop 0).take 4)
instance : DecidableEq (List UInt8) := inferInstance
def ent (b : List UInt8) : Option (S_api_Entry × Nat) := if getE ((b.drop 4).take 8) = 0 ∧ (b.getD 20 0).toNat ≤ 40 ∧ mayB (fE b) = true ∧ nodeB (fE b) (fN b) = b then some (fE b, fN b) else none
end Go.Proofs.Ytjomnccladjpgaa

/-
  Plain: an index' buckets, as the code and the document go through them.
-/
namespace Go.Proofs.Ytjomnccladjpgaa
open Go Go.RowKit
set_option linter.unusedVariables false
set_option linter.unusedSimpArgs false

/-- The number that stands at a place of a home. -/
def num (hs : List (List UInt8)) (h o : Nat) : Nat := ofBE (((hs.getD h []).drop o).take 4)
/-- Its bytes with another number there. -/
def wr4 (b : List UInt8) (o n : Nat) : List UInt8 := b.take o ++ (be 4 n ++ b.drop (o + 4))
theorem wr4_len {b : List UInt8} {o n : Nat} (h : o + 4 ≤ b.length) : (wr4 b o n).length = b.length := by
  simp [wr4, be_length]
  omega
def stp (hs : List (List UInt8)) (bk at_ : Nat) : Option (S_api_Entry × Nat) := Option.bind hs[at_]? fun b => Option.bind (ent b) fun x => if buckN x.1.Key = bk then some x else none
def chn (hs : List (List UInt8)) (bk : Nat) : Nat → Nat → List (Nat × S_api_Entry) × Bool
  | 0, at_ => ([], at_ == 0)
  | n + 1, at_ => if at_ = 0 then ([], true) else match stp hs bk at_ with
    | none => ([], false)
    | some (e, nx) => ((at_, e) :: (chn hs bk n nx).1, (chn hs bk n nx).2)
theorem chn_some {hs : List (List UInt8)} {bk at_ nx n : Nat} {e : S_api_Entry} (h0 : at_ ≠ 0) (h : stp hs bk at_ = some (e, nx)) : chn hs bk (n + 1) at_ = ((at_, e) :: (chn hs bk n nx).1, (chn hs bk n nx).2) := by
  conv => lhs; unfold chn
  rw [if_neg h0, h]
section
variable {hs : List (List UInt8)} (hw : ∀ r ∈ hs, r.length = 64) (hl : hs.length ≤ 16384)
include hw hl
omit hl in
theorem n_cut4 {h o : Nat} (hh : h < hs.length) (ho : o + 4 ≤ 64) : ∃ b, idx hs (h : Int) = some b ∧ hs[h]? = some b ∧ b.length = 64 ∧ cutI b (o : Int) (wi ((o : Int) + 4)) = some ((b.drop o).take 4) ∧ ofBE ((b.drop o).take 4) = num hs h o ∧ ((b.drop o).take 4).length = 4 := by
  have hb : hs[h]? = some hs[h] := List.getElem?_eq_getElem hh
  have h64 := hw hs[h] (List.getElem_mem hh)
  refine ⟨hs[h], idx_nat hh, hb, h64, ?_, ?_, by simp; omega⟩
  · rw [wi_id (by omega) (by omega)]
    exact cutI_mid (by omega) _ (by omega)
  · unfold num
    rw [List.getD_eq_getElem?_getD, hb]
    rfl
omit hl in
/-! ### What names a home, names another one -/
omit hl in
theorem n_name_hit {h o p4 w : Nat} (hh : h < hs.length) (ho : o + 4 ≤ 64) (he : num hs h o = w) (hp : p4 < 4294967296) (f : Nat) : m_R20_name_v0_l1 hs (w : Int) (p4 : Int) (f + 1) (h : Int) (o : Int) = some (hs.set h (wr4 (hs.getD h []) o p4)) := by
  obtain ⟨b, k1, k2, k3, k4, k5, k6⟩ := n_cut4 hw hh ho
  have hb : hs.getD h [] = b := by rw [List.getD_eq_getElem?_getD, k2]; rfl
  unfold m_R20_name_v0_l1
  rw [k1, Option.bind_some, k4, Option.bind_some, n_R01_Get, Option.bind_some, (getN_4 k6).1, k5, bif_pos (ieq_t (by omega)), Option.bind_some]
  have hne : b.isEmpty = false := by cases b with | nil => simp at k3 | cons _ _ => rfl
  rw [hne, bif_neg rfl, appI_ok (by rw [List.length_nil]; omega), Option.bind_some, List.nil_append]
  have ev : vcut b.length (o : Int) (wi ((o : Int) + 4)) = some () := by
    rw [wi_id (by omega) (by omega)]
    unfold vcut
    rw [if_pos ⟨by omega, by omega, by omega⟩]
  rw [ev, Option.bind_some]
  have en := n_number (n := p4) (k := 4) (by omega) (by omega) (by omega) (by omega)
  show Option.bind (m_R20_number (p4 : Int) ((4 : Nat) : Int)) _ = _
  rw [en, Option.bind_some, hne, bif_neg rfl, wi_id (by omega) (by omega), Int.toNat_natCast, show Int.toNat ((o : Int) + 4) - o = 4 by omega, show 0 + o * 1 = o by omega]
  have ec : cpyI b o 4 (be 4 p4) = some (wr4 b o p4) := by
    unfold cpyI
    rw [if_pos (by omega)]
    unfold cpyL wr4
    rw [be_length, Nat.min_self, List.take_of_length_le (l := be 4 p4) (by rw [be_length]; omega)]
  rw [ec, Option.bind_some, lenI_ok (wr4_len (by omega)), Option.bind_some, Option.bind_some, hb, Int.toNat_natCast]
omit hl in
end
end Go.Proofs.Ytjomnccladjpgaa

/-
  Plain: what an index does, held against what the document says.
-/
namespace Go.Proofs.Ytjomnccladjpgaa
open Go Go.RowKit
set_option linter.unusedVariables false
set_option linter.unusedSimpArgs false

/-- An index at a table of a transaction. -/
structure XIn (H : Hp) (x t tb : Nat) (hs : List (List UInt8)) (mp : List (Int × List UInt8)) : Prop where
  tn : TIn H t hs mp
  ix : H.ix[x]? = some ⟨some t, (tb : Int)⟩
  tbl : tb + 4 ≤ hs.length
section
variable {H : Hp} {x t tb : Nat} {hs : List (List UInt8)} {mp : List (Int × List UInt8)}
/-- What going through a bucket, up to a key, answers. -/
def EachR (hs : List (List UInt8)) (bk : Nat) (key : List UInt8) (n at_ sh so : Nat) (res : Option (S_index_spot × Int × S_index_node × Int)) : Prop := match (chn hs bk n at_).1.find? (fun y => y.2.Key == key) with
  | none => res = some (⟨0, 0⟩, 0, ⟨⟨[], 0, 0, 0⟩, 0⟩, if (chn hs bk n at_).2 then 35 else 11)
  | some y => ∃ a o nx, res = some (⟨((a : Nat) : Int), ((o : Nat) : Int)⟩, (y.1 : Int), ⟨y.2, ((nx : Nat) : Int)⟩, 0) ∧ stp hs bk y.1 = some (y.2, nx) ∧ y.2.Key = key ∧ a < hs.length ∧ o + 4 ≤ 64 ∧ num hs a o = y.1 ∧
        ∀ (p4 : Nat), p4 < 4294967296 → ∀ f, n < f → m_R20_name_v0_l1 hs (y.1 : Int) (p4 : Int) f (sh : Int) (so : Int) = some (hs.set a (wr4 (hs.getD a []) o p4))
theorem EachR.none {bk : Nat} {key : List UInt8} {n at_ sh so : Nat} {b : Bool} (hc : chn hs bk n at_ = ([], b)) : EachR hs bk key n at_ sh so (some (⟨0, 0⟩, 0, ⟨⟨[], 0, 0, 0⟩, 0⟩, if b then 35 else 11)) := by
  unfold EachR
  rw [hc]
  rfl
theorem EachR.hit (hw : ∀ r ∈ hs, r.length = 64) {bk : Nat} {key : List UInt8} {n at_ sh so nx : Nat} {e : S_api_Entry} (h0 : at_ ≠ 0) (hn : stp hs bk at_ = some (e, nx)) (hk : e.Key = key) (h1 : sh < hs.length) (h2 : so + 4 ≤ 64) (h3 : num hs sh so = at_) : EachR hs bk key (n + 1) at_ sh so (some (⟨(sh : Int), (so : Int)⟩, (at_ : Int), ⟨e, (nx : Int)⟩, 0)) := by
  unfold EachR
  rw [chn_some h0 hn, List.find?_cons_of_pos (by simpa using hk)]
  refine ⟨sh, so, nx, rfl, hn, hk, h1, h2, h3, fun p4 hp g hg => ?_⟩
  obtain ⟨g, rfl⟩ : ∃ g', g = g' + 1 := ⟨g - 1, by omega⟩
  exact n_name_hit hw h1 h2 h3 hp g
end
end Go.Proofs.Ytjomnccladjpgaa

/-
  Plain: put, set, drop and find are the document's.
-/
namespace Go.Proofs.Ytjomnccladjpgaa
open Go Go.RowKit
set_option linter.unusedVariables false
set_option linter.unusedSimpArgs false

end Go.Proofs.Ytjomnccladjpgaa

/-
  Plain: IndexDoes is true.
-/
namespace Go.Proofs.Ytjomnccladjpgaa
open Go Go.RowKit
set_option linter.unusedVariables false
set_option linter.unusedSimpArgs false

/-! ### The homes, and the transaction that has them -/
theorem n_Begun_l1 {t : Nat} {y : (Option Nat) × Int × Hp} (hy : y.1 = some t) (p : List (List UInt8)) (hpl : p.length ≤ 20) (hp : ∀ r ∈ p, r.length = 64) : ∀ (n i : Nat) (H : Hp) (hs : List (List UInt8)) (mp : List (Int × List UInt8)), i ≤ p.length → p.length - i < n → TIn H t hs mp → hs.length = 20 → (∀ k, k < i → hs[k]? = p[k]?) →
    ∃ H' hs' mp', m_L20_Begun_l1 p y n (i : Int) H = some (some t, H') ∧ TIn H' t hs' mp' ∧ hs'.length = 20 ∧ (∀ k, k < p.length → hs'[k]? = p[k]?) ∧ (∀ k, p.length ≤ k → hs'[k]? = hs[k]?)
  | 0, i, H, hs, mp, _, h, _, _, _ => by omega
  | n + 1, i, H, hs, mp, hi, h, hT, hl, hk => by
    unfold m_L20_Begun_l1
    by_cases hlt : i < p.length
    · obtain ⟨H1, w1, w2, m, v, w3⟩ := n_TWrite hT (k := i) (by omega) (x := p[i]) (hp _ (List.getElem_mem hlt))
      rw [bif_pos (dec_t (by omega)), idx_nat hlt, Option.bind_some, hy, w1, Option.bind_some, wi_succ (by omega)]
      obtain ⟨H', hs', mp', q1, q2, q3, q4, q5⟩ := n_Begun_l1 hy p hpl hp n (i + 1) H1 (hs.set i p[i]) _ (by omega) (by omega) w2 (by rw [List.length_set]; exact hl) (fun k hki => by
        by_cases e : k = i
        · subst e
          rw [List.getElem?_set_self (by omega), List.getElem?_eq_getElem hlt]
        · rw [List.getElem?_set_ne (by omega)]
          exact hk k (by omega))
      exact ⟨H', hs', mp', q1, q2, q3, q4, fun k hpk => by rw [q5 k hpk, List.getElem?_set_ne (by omega)]⟩
    · have e : i = p.length := by omega
      subst e
      rw [bif_neg (dec_f (by omega)), hy]
      exact ⟨H, hs, mp, rfl, hT, hl, hk, fun _ _ => rfl⟩
/-- Twenty homes that are noughts, or what is told first. -/
theorem n_Begun (p : List (List UInt8)) (hpl : p.length ≤ 20) (hp : ∀ r ∈ p, r.length = 64) (w1 : Hp) : ∃ t H' hs mp, m_L20_Begun p w1 = some (some t, H') ∧ TIn H' t hs mp ∧ hs.length = 20 ∧ (∀ k, k < p.length → hs[k]? = p[k]?) ∧ (∀ k, p.length ≤ k → k < 20 → hs[k]? = some Z64) ∧ (p = [] → mp = []) := by
  obtain ⟨H1, H2, H3, i, j, d, e1, e2, e3, e4, e5, e6⟩ := open_new w1 (n := 30) (s := 8) (by omega) (by omega) (by omega)
  obtain ⟨H4, b1, b2, b3⟩ := n_Begin e4.toLIn
  have hl : d.now.length = 30 := by rw [e6]; simp
  have hz : ∀ k, k < 20 → (d.now.drop (2 + 8))[k]? = some Z64 := fun k hk => by
    rw [List.getElem?_drop, e6, List.getElem?_set_ne (by omega), List.getElem?_set_ne (by omega), List.getElem?_replicate, if_pos (by omega)]
  unfold m_L20_Begun
  rw [show ((30 : Nat) : Int) = 30 from rfl] at e1
  rw [e1, Option.bind_some]
  show ∃ t H' hs mp, Option.bind (m_wal_Format (some i) ((8 : Nat) : Int) H1) _ = _ ∧ _
  rw [e2, Option.bind_some]
  show ∃ t H' hs mp, Option.bind (m_wal_Open (some i) H2) _ = _ ∧ _
  rw [e3, Option.bind_some]
  show ∃ t H' hs mp, Option.bind (m_wal_Log_Begin (some j) H3) _ = _ ∧ _
  rw [b1, Option.bind_some]
  by_cases hp0 : p = []
  · subst hp0
    exact ⟨H3.tx.length, H4, _, [], rfl, b2, by rw [List.length_drop, hl], fun k h => absurd h (Nat.not_lt_zero _), fun k _ h => hz k h, fun _ => rfl⟩
  · obtain ⟨H', hs', mp', q1, q2, q3, q4, q5⟩ := n_Begun_l1 (t := H3.tx.length) (y := (some H3.tx.length, 0, H4)) rfl p hpl hp (p.length + 1) 0 H4 _ [] (by omega) (by omega) b2 (by rw [List.length_drop, hl]) (fun k h => absurd h (Nat.not_lt_zero _))
    exact ⟨H3.tx.length, H', hs', mp', q1, q2, q3, q4, fun k h1 h2 => by rw [q5 k h1, hz k h2], fun e => absurd e hp0⟩
/-! ### The play -/
end Go.Proofs.Ytjomnccladjpgaa

/-
  Plain: what is put over homes, and what is got.
-/
namespace Go.Proofs.Ytjomnccladjpgaa
open Go Go.RowKit
set_option linter.unusedVariables false
set_option linter.unusedSimpArgs false

/-! ### How many homes -/
def cntN (n : Nat) : Nat := (n + 59) / 60
theorem n_may21 (z : Int) : m_blob_may z = some (decide (0 ≤ z) && decide (z ≤ 1024)) := by
  unfold m_blob_may
  by_cases h : z ≥ 0
  · rw [bif_pos (dec_t h), dec_t (p := 0 ≤ z) h]; rfl
  · rw [bif_neg (dec_f h), dec_f (p := 0 ≤ z) h]; rfl
theorem n_Count {n : Nat} (h : n ≤ 1024) : m_blob_Count (n : Int) = some (cntN n : Int) := by
  unfold m_blob_Count
  rw [n_may21, Option.bind_some, dec_t (p := (0 : Int) ≤ n) (by omega), dec_t (p := (n : Int) ≤ 1024) (by omega), bif_neg (by rfl)]
  rw [wi_id (z := (n : Int) + 60) (by omega) (by omega), wi_id (z := (n : Int) + 60 - 1) (by omega) (by omega)]
  have e : ((n : Int) + 60 - 1) = ((n + 59 : Nat) : Int) := by omega
  rw [e, Int.tdiv_eq_ediv_of_nonneg (by omega), show ((60 : Int)) = ((60 : Nat) : Int) from rfl, ← Int.natCast_ediv]
  have : (n + 59) / 60 ≤ n + 59 := Nat.div_le_self _ _
  rw [wi_id (by omega) (by omega)]
  rfl
theorem n_CountOut {z : Int} (h : ¬ (0 ≤ z ∧ z ≤ 1024)) : m_blob_Count z = some 0 := by
  unfold m_blob_Count
  rw [n_may21, Option.bind_some]
  have : (decide (0 ≤ z) && decide (z ≤ 1024)) = false := by
    rw [← Bool.decide_and]
    exact dec_f h
  rw [this]
  rfl
theorem cnt_step {n : Nat} (h : 0 < n) : cntN n = cntN (n - 60) + 1 := by unfold cntN; omega
theorem n_RCount_l1 : ∀ (f n k : Nat), n < f → n ≤ 1000000 → k + n ≤ 2000000 → m_R21_Count_l1 f ((n : Int)) (k : Int) = some ((k + cntN n : Nat) : Int)
  | 0, n, k, h, _, _ => by omega
  | f + 1, n, k, h, hn, hk => by
    unfold m_R21_Count_l1
    by_cases h0 : 0 < n
    · rw [bif_pos (dec_t (by omega)), wi_id (by omega) (by omega), wi_succ (by omega)]
      by_cases h60 : 60 ≤ n
      · rw [show (n : Int) - 60 = ((n - 60 : Nat) : Int) by omega, n_RCount_l1 f (n - 60) (k + 1) (by omega) (by omega) (by omega), cnt_step h0]
        congr 2
        omega
      · have hc : cntN n = 1 := by unfold cntN; omega
        obtain ⟨f', rfl⟩ : ∃ f', f = f' + 1 := ⟨f - 1, by omega⟩
        unfold m_R21_Count_l1
        rw [bif_neg (dec_f (by omega)), hc]
    · have h0 : n = 0 := by omega
      subst h0
      rw [bif_neg (dec_f (by omega))]
      rfl
theorem n_RCount {n : Nat} (h : n ≤ 1000000) : m_R21_Count (n : Int) = some (cntN n : Int) := by
  unfold m_R21_Count
  have := n_RCount_l1 (Int.toNat (n : Int) + 2) n 0 (by omega) h (by omega)
  rw [Nat.zero_add] at this
  exact this

/-! ### Which homes may be -/
/-! ### A home's bytes -/
end Go.Proofs.Ytjomnccladjpgaa

/-
  Plain: Put, Homes and Get.
-/
namespace Go.Proofs.Ytjomnccladjpgaa
open Go Go.RowKit
set_option linter.unusedVariables false
set_option linter.unusedSimpArgs false

/-! ### Put -/
/-! ### Chains -/
/-- A chain's homes, of so many, from one on. -/
def chn2 (hs : List (List UInt8)) : Nat → Int → Option (List Nat)
  | 0, at_ => if at_ = 0 then some [] else none
  | k + 1, at_ => if 1 ≤ at_ ∧ at_ < (hs.length : Int) then (chn2 hs k (ofBE ((hs.getD at_.toNat []).take 4) : Int)).map (at_.toNat :: ·) else none
def rndC {γ : Type} (nb : Nat) (g : S_blob_link → List γ) : S_blob_link × Int → Int × List γ → Hp → Option (Bool × (Int × List γ) × Hp) :=
  fun a b w => bif (a.2 != 0) then some (false, (a.2, b.2), w) else Option.bind (appI nb b.2 (g a.1)) fun x => some (true, (b.1, x), w)
theorem chn2_mem {hs : List (List UInt8)} : ∀ {k : Nat} {z : Int} {l : List Nat}, chn2 hs k z = some l → l.length = k ∧ ∀ h ∈ l, 1 ≤ h ∧ h < hs.length
  | 0, z, l, h => by
    unfold chn2 at h
    split at h
    · injection h with h; subst h; exact ⟨rfl, fun _ h => by cases h⟩
    · cases h
  | k + 1, z, l, h => by
    unfold chn2 at h
    split at h
    · rename_i hz
      cases hq : chn2 hs k (ofBE ((hs.getD z.toNat []).take 4) : Int) with
      | none => rw [hq] at h; cases h
      | some r =>
        rw [hq] at h
        injection h with h
        subst h
        obtain ⟨h1, h2⟩ := chn2_mem hq
        refine ⟨by simp [h1], fun x hx => ?_⟩
        rcases List.mem_cons.1 hx with rfl | hx
        · omega
        · exact h2 x hx
    · cases h
def datC (hs : List (List UInt8)) (h : Nat) : List UInt8 := (hs.getD h []).drop 4
theorem n_chain {γ : Type} {nb : Nat} {g : S_blob_link → List γ} (hnb : nb ≤ 8) (hg : ∀ l, l.data_.length ≤ 60 → (g l).length ≤ 60) {H : Hp} {t : Nat} {hs : List (List UInt8)} {mp : List (Int × List UInt8)} (hT : TIn H t hs mp) {k : Nat} (hk : k ≤ 100) : ∀ (f i : Nat) (z : Int) (out : List γ), i ≤ k → k - i < f → out.length ≤ 60 * i →
    (∃ l, chn2 hs (k - i) z = some l ∧ m_blob_chain_c1_l2 (k : Int) t (lpY (rndC nb g)) f z (i : Int) ((true, (0, out)), H) = some ((true, (0, out ++ (l.map fun h : Nat => g ⟨(h : Int), datC hs h⟩).flatten)), H))
    ∨ (chn2 hs (k - i) z = none ∧ ∃ o, m_blob_chain_c1_l2 (k : Int) t (lpY (rndC nb g)) f z (i : Int) ((true, (0, out)), H) = some ((false, (11, o)), H))
  | 0, i, z, out, _, h, _ => by omega
  | f + 1, i, z, out, hi, hf, ho => by
    have low := hT.low
    have bad : ∀ (l : S_blob_link), lpY (rndC nb g) (l, 11) ((true, (0, out)), H) = some (false, ((false, (11, out)), H)) := fun l => rfl
    unfold m_blob_chain_c1_l2
    by_cases hlt : i < k
    · rw [bif_pos (dec_t (by omega))]
      obtain ⟨j, hj⟩ : ∃ j, k - i = j + 1 := ⟨k - i - 1, by omega⟩
      rw [hj]
      by_cases hz : 1 ≤ z ∧ z < (hs.length : Int)
      · obtain ⟨n, rfl⟩ := Int.eq_ofNat_of_zero_le (show 0 ≤ z by omega)
        have hn : n < hs.length := by omega
        have hr := List.getElem?_eq_getElem hn
        have h64 := hT.wide hr
        have hgd : hs.getD n [] = hs[n] := by rw [List.getD_eq_getElem?_getD, hr]; rfl
        rw [n_TRead hT hr, Option.bind_some, bif_neg (by rfl), bif_pos (by rfl), bif_neg (ieq_f (by omega))]
        unfold m_blob_chain_c1_j3
        rw [bif_neg (by rfl), show (4 : Int) = ((4 : Nat) : Int) from rfl, cutI_drop (show 4 ≤ hs[n].length by omega), Option.bind_some]
        have hlen := hg ⟨(n : Int), hs[n].drop 4⟩ (by show (hs[n].drop 4).length ≤ 60; rw [List.length_drop]; omega)
        have hy : lpY (rndC nb g) (⟨(n : Int), hs[n].drop 4⟩, 0) ((true, (0, out)), H) = some (true, ((true, (0, out ++ g ⟨(n : Int), hs[n].drop 4⟩)), H)) := by
          unfold lpY rndC
          rw [bif_pos (by rfl), bif_neg (by rfl), appI_ok (by
            have : (out.length + (g ⟨(n : Int), hs[n].drop 4⟩).length) * nb ≤ 6060 * 8 := Nat.mul_le_mul (by omega) hnb
            show (out.length + (g ⟨(n : Int), hs[n].drop 4⟩).length) * nb ≤ _
            omega)]
          rfl
        rw [hy, Option.bind_some, bif_neg (by rfl), cutI_take (show 4 ≤ hs[n].length by omega), Option.bind_some, n_Get, Option.bind_some, (getN_4 (by rw [List.length_take]; omega)).1, wi_succ (by omega)]
        have ih := n_chain (nb := nb) (g := g) hnb hg hT hk f (i + 1) (ofBE (hs[n].take 4) : Int) (out ++ g ⟨(n : Int), hs[n].drop 4⟩) (by omega) (by omega) (by simp only [List.length_append]; omega)
        rw [show k - (i + 1) = j by omega] at ih
        unfold chn2
        rw [if_pos hz, show Int.toNat (n : Int) = n from rfl, hgd]
        rcases ih with ⟨l, h1, h2⟩ | ⟨h1, o, h2⟩
        · refine .inl ⟨n :: l, by rw [h1]; rfl, ?_⟩
          rw [h2, List.map_cons, List.flatten_cons, ← List.append_assoc]
          unfold datC
          rw [hgd]
        · exact .inr ⟨by rw [h1]; rfl, o, h2⟩
      · have hn : chn2 hs (j + 1) z = none := by unfold chn2; rw [if_neg hz]
        have go : m_blob_chain_c1_j3 (m_blob_chain_c1_l2 (k : Int) t (lpY (rndC nb g)) f) (lpY (rndC nb g)) ((true, (0, out)), H) (([], 31) : List UInt8 × Int) z (i : Int) 11 = some ((false, (11, out)), H) := by
          unfold m_blob_chain_c1_j3
          rw [bif_pos (by rfl), bad]
          rfl
        have go2 : ∀ x, m_blob_chain_c1_j3 (m_blob_chain_c1_l2 (k : Int) t (lpY (rndC nb g)) f) (lpY (rndC nb g)) ((true, (0, out)), H) (x : List UInt8 × Int) z (i : Int) 11 = some ((false, (11, out)), H) := fun x => by
          unfold m_blob_chain_c1_j3
          rw [bif_pos (by rfl), bad]
          rfl
        refine .inr ⟨hn, out, ?_⟩
        by_cases h0 : z = 0 ∧ 0 < hs.length
        · obtain ⟨rfl, h0⟩ := h0
          have hr := List.getElem?_eq_getElem h0
          rw [show (0 : Int) = ((0 : Nat) : Int) from rfl, n_TRead hT hr, Option.bind_some, bif_neg (by rfl), bif_pos (by rfl), bif_pos (by rfl)]
          exact go2 _
        · rw [n_TReadOut hT (by omega), Option.bind_some, bif_pos (by rfl)]
          exact go
    · have : i = k := by omega
      subst this
      rw [bif_neg (dec_f (by omega)), Nat.sub_self]
      unfold m_blob_chain_c1_j1 chn2
      by_cases hz : z = 0
      · rw [if_pos hz, bif_neg (ine_f hz)]
        exact .inl ⟨[], rfl, by simp⟩
      · rw [if_neg hz, bif_pos (ine_t hz), bad]
        exact .inr ⟨rfl, out, rfl⟩
theorem flatI1 : ∀ (l : List Nat), (l.map fun h : Nat => [(h : Int)]).flatten = l.map Int.ofNat
  | [] => rfl
  | a :: l => by rw [List.map_cons, List.flatten_cons, flatI1 l]; rfl
theorem n_Homes21 {H : Hp} {t : Nat} {hs : List (List UInt8)} {mp : List (Int × List UInt8)} (hT : TIn H t hs mp) (z : Int) {n : Nat} (hn : n ≤ 1024) :
    m_blob_Homes (some t) z (n : Int) H = some (match chn2 hs (cntN n) z with | some l => (l.map Int.ofNat, 0, H) | none => ([], 11, H)) := by
  unfold m_blob_Homes
  have e0 : ∀ k : Nat → Option (List Int × Int × Hp), ptM (some t) none k = k t := fun _ => rfl
  rw [e0, n_may21, Option.bind_some, dec_t (p := (0 : Int) ≤ (n : Int)) (by omega), dec_t (p := (n : Int) ≤ 1024) (by omega), bif_neg (by rfl)]
  show Option.bind (m_blob_chain_c1 (lpY (rndC 8 fun l => [l.home_])) z (n : Int) t ((true, (0, [])), H)) _ = _
  unfold m_blob_chain_c1
  rw [n_Count hn, Option.bind_some]
  have hc : cntN n ≤ 100 := by unfold cntN; omega
  rcases n_chain (nb := 8) (g := fun l => [l.home_]) (by omega) (fun l _ => by simp) hT hc (Int.toNat (cntN n : Int) + 1) 0 z [] (by omega) (by omega) (by simp) with ⟨l, h1, h2⟩ | ⟨h1, o, h2⟩
  · rw [show ((0 : Nat) : Int) = 0 from rfl] at h2
    rw [Nat.sub_zero] at h1
    rw [h2, h1, Option.bind_some, bif_pos (by rfl)]
    show some (_, _, _) = some (_, _, _)
    congr 2
    rw [List.nil_append]
    exact flatI1 l
  · rw [show ((0 : Nat) : Int) = 0 from rfl] at h2
    rw [Nat.sub_zero] at h1
    rw [h2, h1, Option.bind_some, bif_neg (by rfl)]
def z0 (l : List UInt8) : Bool := l.all (· == 0)
theorem n_Get_l3 (tl : List UInt8) (x : ((Bool × (Int × (List UInt8))) × Hp)) (n : Int) (hl : tl.length < 1000000000) : ∀ (f i : Nat), i ≤ tl.length → tl.length - i < f → m_blob_Get_l3 tl x n f (i : Int) = if z0 (tl.drop i) then m_blob_Get_j2 x n else some ([], 11, x.2)
  | 0, i, _, h => by omega
  | f + 1, i, hi, h => by
    unfold m_blob_Get_l3
    by_cases hlt : i < tl.length
    · rw [bif_pos (dec_t (by omega)), idx_nat hlt, Option.bind_some, List.drop_eq_getElem_cons hlt]
      unfold z0
      rw [List.all_cons]
      by_cases e : tl[i] = 0
      · rw [bif_neg (ine_f (by rw [e]; rfl)), e, wi_succ (by omega), n_Get_l3 tl x n hl f (i + 1) (by omega) (by omega)]
        rfl
      · rw [bif_pos (ine_t (fun h => e (by
          have h : tl[i].toNat = 0 := by omega
          exact UInt8.toNat_inj.1 h)))]
        rw [show (tl[i] == (0 : UInt8)) = false by simpa using e]
        rfl
    · rw [bif_neg (dec_f (by omega)), List.drop_eq_nil_of_le (by omega)]
      rfl
def allC (hs : List (List UInt8)) (l : List Nat) : List UInt8 := (l.map (datC hs)).flatten
theorem datC_len {H : Hp} {t : Nat} {hs : List (List UInt8)} {mp : List (Int × List UInt8)} (hT : TIn H t hs mp) {h : Nat} (hh : h < hs.length) : (datC hs h).length = 60 := by
  unfold datC
  rw [List.getD_eq_getElem?_getD, List.getElem?_eq_getElem hh, List.length_drop]
  have := hT.wide (List.getElem?_eq_getElem hh)
  show hs[h].length - 4 = 60
  omega
theorem allC_len {H : Hp} {t : Nat} {hs : List (List UInt8)} {mp : List (Int × List UInt8)} (hT : TIn H t hs mp) : ∀ {l : List Nat}, (∀ h ∈ l, h < hs.length) → (allC hs l).length = 60 * l.length
  | [], _ => rfl
  | h :: l, hl => by
    unfold allC
    rw [List.map_cons, List.flatten_cons, List.length_append, datC_len hT (hl h List.mem_cons_self)]
    have := allC_len hT (l := l) fun x hx => hl x (List.mem_cons_of_mem _ hx)
    unfold allC at this
    rw [this, List.length_cons]
    omega
theorem n_Get21 {H : Hp} {t : Nat} {hs : List (List UInt8)} {mp : List (Int × List UInt8)} (hT : TIn H t hs mp) (z : Int) {n : Nat} (hn : n ≤ 1024) :
    m_blob_Get (some t) z (n : Int) H = some (match chn2 hs (cntN n) z with | some l => if z0 ((allC hs l).drop n) then ((allC hs l).take n, 0, H) else ([], 11, H) | none => ([], 11, H)) := by
  unfold m_blob_Get
  have e0 : ∀ k : Nat → Option (List UInt8 × Int × Hp), ptM (some t) none k = k t := fun _ => rfl
  rw [e0, n_may21, Option.bind_some, dec_t (p := (0 : Int) ≤ (n : Int)) (by omega), dec_t (p := (n : Int) ≤ 1024) (by omega), bif_neg (by rfl)]
  show Option.bind (m_blob_chain_c1 (lpY (rndC 1 fun l => l.data_)) z (n : Int) t ((true, (0, [])), H)) _ = _
  unfold m_blob_chain_c1
  rw [n_Count hn, Option.bind_some]
  have hc : cntN n ≤ 100 := by unfold cntN; omega
  rcases n_chain (nb := 1) (g := fun l => l.data_) (by omega) (fun l h => h) hT hc (Int.toNat (cntN n : Int) + 1) 0 z [] (by omega) (by omega) (by simp) with ⟨l, h1, h2⟩ | ⟨h1, o, h2⟩
  · rw [show ((0 : Nat) : Int) = 0 from rfl] at h2
    rw [Nat.sub_zero] at h1
    obtain ⟨m1, m2⟩ := chn2_mem h1
    have hal := allC_len hT fun h hh => (m2 h hh).2
    have hnl : n ≤ (allC hs l).length := by rw [hal, m1]; unfold cntN; omega
    have hal2 : (allC hs l).length ≤ 6000 := by rw [hal, m1]; omega
    rw [h2, h1, Option.bind_some, bif_pos (by rfl), List.nil_append]
    show Option.bind (cutI (allC hs l) (if (((allC hs l).length : Nat) : Int) < (n : Int) then (((allC hs l).length : Nat) : Int) else (n : Int)) (((allC hs l).length : Nat) : Int)) _ = _
    rw [if_neg (by omega), cutI_drop hnl, Option.bind_some]
    have := n_Get_l3 ((allC hs l).drop n) ((true, (0, allC hs l)), H) (n : Int) (by rw [List.length_drop]; omega) (((allC hs l).drop n).length + 1) 0 (by omega) (by omega)
    rw [List.drop_zero, show ((0 : Nat) : Int) = 0 from rfl] at this
    show m_blob_Get_l3 ((allC hs l).drop n) ((true, (0, allC hs l)), H) (n : Int) _ 0 = _
    rw [this]
    show _ = some (if z0 ((allC hs l).drop n) then ((allC hs l).take n, 0, H) else ([], 11, H))
    by_cases hz : z0 ((allC hs l).drop n) = true
    · rw [if_pos hz, if_pos hz]
      unfold m_blob_Get_j2
      rw [cutI_take hnl, Option.bind_some]
    · rw [if_neg hz, if_neg hz]
  · rw [show ((0 : Nat) : Int) = 0 from rfl] at h2
    rw [Nat.sub_zero] at h1
    rw [h2, h1, Option.bind_some, bif_neg (by rfl)]
end Go.Proofs.Ytjomnccladjpgaa

/-
  Plain: the document's answers on chains; BlobReads is true.
-/
namespace Go.Proofs.Ytjomnccladjpgaa
open Go Go.RowKit
set_option linter.unusedVariables false
set_option linter.unusedSimpArgs false

theorem awake21 : (m_L21_awake Hp.e).map (·.1) = some true := by kernel_rfl
theorem n_awake21 : ∃ w1, m_L21_awake Hp.e = some (true, w1) := by
  have h := awake21
  cases hx : m_L21_awake Hp.e with
  | none => rw [hx] at h; cases h
  | some y =>
    obtain ⟨b, w1⟩ := y
    rw [hx] at h
    injection h with h
    exact ⟨w1, by rw [show b = true from h]⟩
theorem n_twenty_l1 (p : List (List UInt8)) : ∀ (n i : Nat) (out : List (List UInt8)), i ≤ 20 → 20 - i < n → out.length = i → (∀ r ∈ out, r.length = 64) → ∃ l, m_L21_twenty_l1 p n (i : Int) out = some l ∧ l.length = 20 ∧ ∀ r ∈ l, r.length = 64
  | 0, i, out, _, h, _, _ => by omega
  | n + 1, i, out, hi, h, ho, hr => by
    unfold m_L21_twenty_l1
    by_cases hlt : i < 20
    · have go : ∀ y : List UInt8, y.length = 64 → ∃ l, m_L21_twenty_j2 (m_L21_twenty_l1 p n) out (i : Int) y = some l ∧ l.length = 20 ∧ ∀ r ∈ l, r.length = 64 := by
        intro y hy
        unfold m_L21_twenty_j2
        rw [appI_ok (by simp; omega), Option.bind_some, wi_succ (by omega)]
        exact n_twenty_l1 p n (i + 1) _ (by omega) (by omega) (by simp; omega) (fun r h => by
          rcases List.mem_append.1 h with h | h
          · exact hr r h
          · rw [List.mem_singleton.1 h]; exact hy)
      rw [bif_pos (dec_t (by omega)), show mkI 1 64 = some 64 from rfl, Option.bind_some]
      by_cases h1 : i < p.length
      · rw [bif_pos (dec_t (by omega)), idx_nat h1, Option.bind_some]
        by_cases h2 : p[i].length = 64
        · rw [bif_pos (ieq_t (by omega)), Option.bind_some]
          have ec : cpyI (List.replicate 64 (0 : UInt8)) 0 64 p[i] = some p[i] := by
            unfold cpyI
            rw [if_pos (by simp)]
            unfold cpyL
            rw [List.take_of_length_le (l := p[i]) (by omega), h2]
            simp
          rw [ec, Option.bind_some, lenI_ok (by simp [h2]), Option.bind_some]
          exact go _ h2
        · rw [bif_neg (ieq_f (by omega))]
          exact go _ (by simp)
      · rw [bif_neg (dec_f (by omega))]
        exact go _ (by simp)
    · rw [bif_neg (dec_f (by omega))]
      exact ⟨out, rfl, by omega, hr⟩
theorem n_twenty (p : List (List UInt8)) : ∃ l, m_L21_twenty p = some l ∧ l.length = 20 ∧ ∀ r ∈ l, r.length = 64 :=
  n_twenty_l1 p (Int.toNat 20 + 1) 0 [] (by omega) (by decide) rfl (fun _ h => by cases h)

/-! ### The document's chains -/
theorem n_RHomes_l2 {hs : List (List UInt8)} (hl : hs.length ≤ 16384) (hr : ∀ r ∈ hs, r.length = 64) {n : Nat} (hn : n ≤ 1024) : ∀ (f i : Nat) (z : Int) (out : List Int), i ≤ cntN n → cntN n - i < f → out.length = i →
    m_R21_Homes_l2 (n : Int) hs f out z = some (match chn2 hs (cntN n - i) z with | some l => (out ++ l.map Int.ofNat, 0) | none => ([], 11))
  | 0, i, z, out, _, h, _ => by omega
  | f + 1, i, z, out, hi, hf, ho => by
    have hc : cntN n ≤ 100 := by unfold cntN; omega
    unfold m_R21_Homes_l2
    rw [n_RCount (by omega), Option.bind_some]
    by_cases hlt : i < cntN n
    · rw [bif_pos (dec_t (by omega))]
      obtain ⟨j, hj⟩ : ∃ j, cntN n - i = j + 1 := ⟨cntN n - i - 1, by omega⟩
      rw [hj]
      unfold chn2
      by_cases h1 : z < 1
      · rw [bif_pos (dec_t h1), if_neg (by omega)]
      · rw [bif_neg (dec_f h1)]
        by_cases h2 : z ≥ (hs.length : Int)
        · rw [bif_pos (dec_t h2), if_neg (by omega)]
        · obtain ⟨m, rfl⟩ := Int.eq_ofNat_of_zero_le (show 0 ≤ z by omega)
          have hm : m < hs.length := by omega
          have hg : hs.getD m [] = hs[m] := by rw [List.getD_eq_getElem?_getD, List.getElem?_eq_getElem hm]; rfl
          have h64 := hr _ (List.getElem_mem hm)
          rw [bif_neg (dec_f h2), if_pos (by omega), appI_ok (by simp; omega), Option.bind_some, idx_nat hm, Option.bind_some, show (4 : Int) = ((4 : Nat) : Int) from rfl, cutI_take (by omega), Option.bind_some, n_R01_Get, Option.bind_some, (getN_4 (by rw [List.length_take]; omega)).1, show Int.toNat (m : Int) = m from rfl, hg]
          rw [n_RHomes_l2 hl hr hn f (i + 1) _ (out ++ [(m : Int)]) (by omega) (by omega) (by simp; omega), show cntN n - (i + 1) = j by omega]
          cases chn2 hs j (ofBE (hs[m].take 4) : Int) with
          | none => rfl
          | some l =>
            show some _ = some _
            congr 1
            show (_, _) = (_, _)
            congr 1
            rw [List.append_assoc]
            rfl
    · have : i = cntN n := by omega
      subst this
      rw [bif_neg (dec_f (by omega)), Nat.sub_self]
      unfold m_R21_Homes_j1 chn2
      by_cases hz : z = 0
      · rw [if_pos hz, bif_neg (ine_f hz)]
        simp
      · rw [if_neg hz, bif_pos (ine_t hz)]
theorem n_RHomes {hs : List (List UInt8)} (hl : hs.length ≤ 16384) (hr : ∀ r ∈ hs, r.length = 64) {n : Nat} (hn : n ≤ 1024) (z : Int) : m_R21_Homes hs z (n : Int) = some (match chn2 hs (cntN n) z with | some l => (l.map Int.ofNat, 0) | none => ([], 11)) := by
  unfold m_R21_Homes
  have hc : cntN n ≤ n + 1 := by unfold cntN; omega
  rw [n_RHomes_l2 hl hr hn (Int.toNat (n : Int) + 2) 0 z [] (by omega) (by omega) rfl, Nat.sub_zero]
  rfl
def okF (n : Nat) : Nat → List UInt8 → Bool
  | _, [] => true
  | j, c :: r => (decide (j < n) || c == 0) && okF n (j + 1) r
theorem okF_app (n : Nat) : ∀ (a b : List UInt8) (j : Nat), okF n j (a ++ b) = (okF n j a && okF n (j + a.length) b)
  | [], b, j => by simp [okF]
  | c :: a, b, j => by
    show ((decide (j < n) || c == 0) && okF n (j + 1) (a ++ b)) = (((decide (j < n) || c == 0) && okF n (j + 1) a) && okF n (j + (a.length + 1)) b)
    rw [okF_app n a b (j + 1), Bool.and_assoc, show j + 1 + a.length = j + (a.length + 1) by omega]
theorem okF_z0 (n : Nat) : ∀ (a : List UInt8) (j : Nat), okF n j a = z0 (a.drop (n - j))
  | [], j => by simp [okF, z0]
  | c :: a, j => by
    unfold okF
    rw [okF_z0 n a (j + 1)]
    by_cases h : j < n
    · rw [show n - j = (n - (j + 1)) + 1 by omega, List.drop_succ_cons, dec_t h]
      rfl
    · rw [show n - j = 0 by omega, show n - (j + 1) = 0 by omega, dec_f h, List.drop_zero, List.drop_zero]
      rfl
theorem take_app2 {α : Type} (a b : List α) (m : Nat) : (a ++ b).take m = a.take m ++ b.take (m - a.length) := List.take_append
theorem n_RGet_l4 {hs : List (List UInt8)} {l : List Nat} {x : List Int × Int} (hx : x.1 = l.map Int.ofNat) (hl : hs.length ≤ 16384) (hr : ∀ r ∈ hs, r.length = 64) (hm : ∀ h ∈ l, h < hs.length) (hll : l.length ≤ 100) {n : Nat} (hn : n ≤ 1024) (kl : List UInt8 → Int → Option (List UInt8 × Int)) {i : Nat} (hi : i < l.length) : ∀ (f k : Nat) (out : List UInt8), k ≤ 60 → 60 - k < f → out.length ≤ 60 * i + k →
    m_R21_Get_l4 kl x (i : Int) hs (n : Int) f out (k : Int) = if okF n (60 * i + k) ((datC hs l[i]).drop k) then kl (out ++ ((datC hs l[i]).drop k).take (n - (60 * i + k))) ((i + 1 : Nat) : Int) else some ([], 11)
  | 0, k, out, _, h, _ => by omega
  | f + 1, k, out, hk, hf, ho => by
    have hh := hm _ (List.getElem_mem hi)
    have h64 := hr _ (List.getElem_mem hh)
    have hd : datC hs l[i] = hs[l[i]].drop 4 := by unfold datC; rw [List.getD_eq_getElem?_getD, List.getElem?_eq_getElem hh]; rfl
    have hdl : (datC hs l[i]).length = 60 := by rw [hd, List.length_drop]; omega
    unfold m_R21_Get_l4
    by_cases hlt : k < 60
    · have e1 : idx x.1 (i : Int) = some ((l[i] : Nat) : Int) := by
        rw [hx, idx_nat (by simpa using hi)]
        simp
      rw [bif_pos (dec_t (by omega)), e1, Option.bind_some, idx_nat hh, Option.bind_some, wi_id (z := 4 + (k : Int)) (by omega) (by omega), show (4 : Int) + (k : Int) = ((4 + k : Nat) : Int) by omega, idx_nat (show 4 + k < hs[l[i]].length by omega), Option.bind_some, wi_id (z := 60 * (i : Int)) (by omega) (by omega), wi_id (by omega) (by omega)]
      have hc : (datC hs l[i]).drop k = hs[l[i]][4 + k] :: (datC hs l[i]).drop (k + 1) := by
        rw [List.drop_eq_getElem_cons (show k < (datC hs l[i]).length by omega)]
        congr 1
        simp only [hd, List.getElem_drop]
      rw [hc]
      unfold okF
      generalize hs[l[i]][4 + k] = c
      by_cases hj : 60 * i + k < n
      · rw [bif_pos (dec_t (by omega)), appI_ok (by simp; omega), Option.bind_some]
        unfold m_R21_Get_j5
        rw [wi_succ (by omega), n_RGet_l4 hx hl hr hm hll hn kl hi f (k + 1) (out ++ [c]) (by omega) (by omega) (by simp; omega), dec_t hj]
        rw [show n - (60 * i + k) = (n - (60 * i + (k + 1))) + 1 by omega, List.take_succ_cons, List.append_assoc]
        rfl
      · rw [bif_neg (dec_f (by omega)), dec_f hj]
        have e0 : n - (60 * i + k) = 0 := by omega
        rw [e0, List.take_zero, List.append_nil]
        by_cases hc0 : c = 0
        · rw [hc0, bif_neg (by rfl)]
          unfold m_R21_Get_j5
          rw [wi_succ (by omega), n_RGet_l4 hx hl hr hm hll hn kl hi f (k + 1) out (by omega) (by omega) (by omega), show n - (60 * i + (k + 1)) = 0 by omega, List.take_zero, List.append_nil]
          rfl
        · rw [bif_pos (ine_t (fun h => hc0 (by
            have h : c.toNat = 0 := by omega
            exact UInt8.toNat_inj.1 h))), show (c == (0 : UInt8)) = false by simpa using hc0]
          rfl
    · have : k = 60 := by omega
      subst this
      rw [bif_neg (dec_f (by omega)), List.drop_eq_nil_of_le (by omega)]
      unfold m_R21_Get_j3
      rw [wi_succ (by omega)]
      simp [okF]
theorem n_RGet_l2 {hs : List (List UInt8)} {l : List Nat} {x : List Int × Int} (hx : x.1 = l.map Int.ofNat) (hl : hs.length ≤ 16384) (hr : ∀ r ∈ hs, r.length = 64) (hm : ∀ h ∈ l, h < hs.length) (hll : l.length ≤ 100) {n : Nat} (hn : n ≤ 1024) : ∀ (f i : Nat) (out : List UInt8), i ≤ l.length → l.length - i < f → out.length ≤ 60 * i →
    m_R21_Get_l2 x hs (n : Int) f out (i : Int) = if okF n (60 * i) (allC hs (l.drop i)) then some (out ++ (allC hs (l.drop i)).take (n - 60 * i), 0) else some ([], 11)
  | 0, i, out, _, h, _ => by omega
  | f + 1, i, out, hi, hf, ho => by
    have hxl : x.1.length = l.length := by rw [hx]; simp
    unfold m_R21_Get_l2
    by_cases hlt : i < l.length
    · have hh := hm _ (List.getElem_mem hlt)
      have h64 := hr _ (List.getElem_mem hh)
      have hdl : (datC hs l[i]).length = 60 := by unfold datC; rw [List.getD_eq_getElem?_getD, List.getElem?_eq_getElem hh, List.length_drop]; show hs[l[i]].length - 4 = 60; omega
      rw [bif_pos (dec_t (by omega))]
      have := n_RGet_l4 hx hl hr hm hll hn (m_R21_Get_l2 x hs (n : Int) f) hlt (Int.toNat 60 + 1) 0 out (by omega) (by decide) (by omega)
      rw [show ((0 : Nat) : Int) = 0 from rfl, List.drop_zero, Nat.add_zero] at this
      rw [this]
      have ha : allC hs (l.drop i) = datC hs l[i] ++ allC hs (l.drop (i + 1)) := by
        rw [List.drop_eq_getElem_cons hlt]
        rfl
      rw [ha, okF_app, hdl, take_app2, hdl]
      cases hq : okF n (60 * i) (datC hs l[i]) with
      | false => rfl
      | true =>
        rw [if_pos rfl, n_RGet_l2 hx hl hr hm hll hn f (i + 1) _ (by omega) (by omega) (by rw [List.length_append, List.length_take]; omega), Bool.true_and, show 60 * (i + 1) = 60 * i + 60 by omega, show n - 60 * i - 60 = n - (60 * i + 60) by omega, List.append_assoc]
        rfl
    · rw [bif_neg (dec_f (by omega)), List.drop_eq_nil_of_le (by omega)]
      unfold m_R21_Get_j1 allC
      simp [okF]
theorem n_RGet {hs : List (List UInt8)} (hl : hs.length ≤ 16384) (hr : ∀ r ∈ hs, r.length = 64) {n : Nat} (hn : n ≤ 1024) (z : Int) : m_R21_Get hs z (n : Int) = some (match chn2 hs (cntN n) z with | some l => if z0 ((allC hs l).drop n) then ((allC hs l).take n, 0) else ([], 11) | none => ([], 11)) := by
  unfold m_R21_Get
  rw [n_RHomes hl hr hn, Option.bind_some]
  have hc : cntN n ≤ 100 := by unfold cntN; omega
  cases hq : chn2 hs (cntN n) z with
  | none => rfl
  | some l =>
    obtain ⟨m1, m2⟩ := chn2_mem hq
    show (bif (0 : Int) != 0 then _ else _) = _
    rw [bif_neg (by rfl)]
    have := n_RGet_l2 (x := (l.map Int.ofNat, 0)) rfl hl hr (fun h hh => (m2 h hh).2) (by omega) hn ((l.map Int.ofNat).length + 1) 0 [] (by omega) (by simp) (by simp)
    rw [show ((0 : Nat) : Int) = 0 from rfl, List.drop_zero, Nat.mul_zero, okF_z0, Nat.sub_zero] at this
    show m_R21_Get_l2 (l.map Int.ofNat, 0) hs (n : Int) ((l.map Int.ofNat).length + 1) [] 0 = _
    rw [this]
    show _ = some (if z0 ((allC hs l).drop n) then _ else _)
    by_cases hz : z0 ((allC hs l).drop n) = true
    · rw [if_pos hz, if_pos hz]; rfl
    · rw [if_neg hz, if_neg hz]
theorem n_Ints (a : List Int) (ha : a.length < 1000000000) : m_R01_Ints a a = some true := by
  unfold m_R01_Ints
  rw [bif_neg (ine_f rfl)]
  have key : ∀ (f i : Nat), i ≤ a.length → a.length - i < f → m_R01_Ints_l1 a a f (i : Int) = some true := by
    intro f
    induction f with
    | zero => intro i _ h; omega
    | succ f ih =>
      intro i hi h
      unfold m_R01_Ints_l1
      by_cases hlt : i < a.length
      · rw [bif_pos (dec_t (by omega)), idx_nat hlt, Option.bind_some, Option.bind_some, bif_neg (ine_f rfl), wi_succ (by omega)]
        exact ih (i + 1) (by omega) (by omega)
      · rw [bif_neg (dec_f (by omega))]
  exact key _ 0 (by omega) (by omega)
theorem n_Homes_out {H : Hp} {t : Nat} {z n : Int} (hn : ¬ (0 ≤ n ∧ n ≤ 1024)) : m_blob_Homes (some t) z n H = some ([], 2, H) := by
  unfold m_blob_Homes
  have e0 : ∀ k : Nat → Option (List Int × Int × Hp), ptM (some t) none k = k t := fun _ => rfl
  rw [e0, n_may21, Option.bind_some]
  have : (decide (0 ≤ n) && decide (n ≤ 1024)) = false := by
    rw [← Bool.decide_and]
    exact dec_f hn
  rw [this]
  rfl
theorem n_Get_out {H : Hp} {t : Nat} {z n : Int} (hn : ¬ (0 ≤ n ∧ n ≤ 1024)) : m_blob_Get (some t) z n H = some ([], 2, H) := by
  unfold m_blob_Get
  have e0 : ∀ k : Nat → Option (List UInt8 × Int × Hp), ptM (some t) none k = k t := fun _ => rfl
  rw [e0, n_may21, Option.bind_some]
  have : (decide (0 ≤ n) && decide (n ≤ 1024)) = false := by
    rw [← Bool.decide_and]
    exact dec_f hn
  rw [this]
  rfl
/-- BlobReads is true. -/
theorem n_BlobReads (l : List (List UInt8)) (z n : Int) : ∃ w, m_L21_BlobReads l z n Hp.e = some (true, w) := by
  obtain ⟨w1, e1⟩ := n_awake21
  obtain ⟨h20, e2, k1, k2⟩ := n_twenty l
  obtain ⟨t, H, hs, mp, e3, hT, g1, g2, _, _⟩ := n_Begun h20 (by omega) k2 w1
  have ehs : hs = h20 := by
    refine List.ext_getElem? fun i => ?_
    rcases Nat.lt_or_ge i 20 with h | h
    · exact g2 i (by omega)
    · rw [List.getElem?_eq_none (by omega), List.getElem?_eq_none (by omega)]
  subst ehs
  have low := hT.low
  unfold m_L21_BlobReads
  rw [e1, Option.bind_some, bif_neg (by rfl), e2, Option.bind_some, e3, Option.bind_some]
  by_cases hn : 0 ≤ n ∧ n ≤ 1024
  · obtain ⟨m, rfl⟩ := Int.eq_ofNat_of_zero_le hn.1
    have hm : m ≤ 1024 := by omega
    have hr := n_RHomes hT.low k2 hm z
    have hg := n_RGet hT.low k2 hm z
    have key : ∀ (a : List Int) (ea : Int) (d : List UInt8) (ed : Int), a.length < 1000000000 → d.length < 1000000000 → m_R21_Homes hs z (m : Int) = some (a, ea) → m_R21_Get hs z (m : Int) = some (d, ed) → m_L21_BlobReads_j1 (a, ea, H) (d, ed, H) (m : Int) hs z (decide ((m : Int) > 1024)) = some (true, H) := by
      intro a ea d ed h1 h2 h3 h4
      unfold m_L21_BlobReads_j1
      rw [dec_f (p := (m : Int) > 1024) (by omega), bif_neg (by rfl), h3, Option.bind_some, h4, Option.bind_some, bif_pos (ieq_t rfl), bif_pos (ieq_t rfl), n_Ints a h1, Option.bind_some, bif_pos rfl, n_R01_Same _ _ (by show d.length < _; omega), Option.bind_some, beq_self_eq_true, bif_pos rfl, n_Count hm, Option.bind_some, n_RCount (by omega), Option.bind_some, ieq_t rfl]
    rw [n_Homes21 hT z hm, Option.bind_some]
    cases hq : chn2 hs (cntN m) z with
    | none =>
      rw [hq] at hr hg
      show ∃ w, Option.bind (m_blob_Get (some t) z (m : Int) H) _ = _
      rw [n_Get21 hT z hm, Option.bind_some, hq, bif_neg (dec_f (by omega))]
      exact ⟨H, key [] 11 [] 11 (by simp) (by simp) hr hg⟩
    | some l =>
      rw [hq] at hr hg
      obtain ⟨m1, m2⟩ := chn2_mem hq
      have hal := allC_len hT fun h hh => (m2 h hh).2
      have hc : cntN m ≤ 100 := by unfold cntN; omega
      show ∃ w, Option.bind (m_blob_Get (some t) z (m : Int) H) _ = _
      rw [n_Get21 hT z hm, Option.bind_some, hq, bif_neg (dec_f (by omega))]
      have hg : m_R21_Get hs z (m : Int) = some (if z0 ((allC hs l).drop m) then ((allC hs l).take m, 0) else ([], 11)) := hg
      show ∃ w, m_L21_BlobReads_j1 (l.map Int.ofNat, 0, H) (if z0 ((allC hs l).drop m) then ((allC hs l).take m, 0, H) else ([], 11, H)) (m : Int) hs z (decide ((m : Int) > 1024)) = some (true, w)
      by_cases hz : z0 ((allC hs l).drop m) = true
      · rw [if_pos hz] at hg ⊢
        exact ⟨H, key _ 0 _ 0 (by rw [List.length_map]; omega) (by rw [List.length_take]; omega) hr hg⟩
      · rw [if_neg hz] at hg ⊢
        exact ⟨H, key _ 0 _ 11 (by rw [List.length_map]; omega) (by simp) hr hg⟩
  · rw [n_Homes_out hn, Option.bind_some, n_Get_out hn, Option.bind_some]
    have : ∀ x10 : List UInt8 × Int × Hp, x10 = ([], 2, H) → m_L21_BlobReads_j1 ([], 2, H) x10 n hs z true = some (true, H) := by
      intro x10 hx
      subst hx
      unfold m_L21_BlobReads_j1
      rw [bif_pos (by rfl), bif_pos (by rfl), bif_pos (by rfl), bif_pos (by rfl), n_CountOut hn]
      rfl
    by_cases h0 : n < 0
    · rw [bif_pos (dec_t h0)]
      exact ⟨H, this _ rfl⟩
    · rw [bif_neg (dec_f h0), dec_t (p := n > 1024) (by omega)]
      exact ⟨H, this _ rfl⟩
end Go.Proofs.Ytjomnccladjpgaa

/-
  Plain: BlobWrites and BlobBack are true.
-/
namespace Go.Proofs.Ytjomnccladjpgaa
open Go Go.RowKit
set_option linter.unusedVariables false
set_option linter.unusedSimpArgs false

/-! ### What stands behind rows written -/
/-! ### BlobWrites -/
/-! ### BlobBack -/
end Go.Proofs.Ytjomnccladjpgaa

/-
  The contracts of the laws of Blob: they start with no heap, and return true.
-/
namespace Go.Proofs.Ytjomnccladjpgaa
open Go Go.RowKit
set_option linter.unusedVariables false
theorem lawBR (l : List (List UInt8)) (z n : Int) : FC Try.prog 6 [.t (.d (.seq 1 (List.map (cSl 1 cU8) l))), .t (.d (.lit (.int .i64 z))), .t (.d (.lit (.int .i64 n)))] [] (.t (.d (.lit (.bool true)))) := by
  obtain ⟨w', h⟩ := n_BlobReads l z n
  exact fc_of_h (fch_L21_BlobReads l z n Hp.e (true, w') h) (fun c => hpA_e c) rfl (by show 3 ≤ OB; decide)
end Go.Proofs.Ytjomnccladjpgaa
