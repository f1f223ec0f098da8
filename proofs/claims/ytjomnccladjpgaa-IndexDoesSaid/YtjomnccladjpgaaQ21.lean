/-
  Texts joined: see the remark at the head of each part.
-/
import Derived.Test.YtjomnccladjpgaaQ20
import Derived.Test.YtjomnccladjpgaaQ18
import Derived.Test.YtjomnccladjpgaaQ04
import Derived.ProofKit
import Derived.Lib.SmallJoins
set_option linter.unusedVariables false
set_option linter.unusedSimpArgs false
/-
  Plain: an index' buckets, as the code and the document go through them.
-/
namespace Go.Proofs.Ytjomnccladjpgaa
open Go Go.RowKit
set_option linter.unusedVariables false
set_option linter.unusedSimpArgs false

/-- The number that stands at a place of a home. -/
def num (hs : List (List UInt8)) (h o : Nat) : Nat := ofBE (((hs.getD h []).drop o).take 4)
/-- Its bytes with another number there. -/
def wr4 (b : List UInt8) (o n : Nat) : List UInt8 := b.take o ++ (be 4 n ++ b.drop (o + 4))
theorem wr4_len {b : List UInt8} {o n : Nat} (h : o + 4 ≤ b.length) : (wr4 b o n).length = b.length := by
  simp [wr4, be_length]
  omega
def stp (hs : List (List UInt8)) (bk at_ : Nat) : Option (S_api_Entry × Nat) := Option.bind hs[at_]? fun b => Option.bind (ent b) fun x => if buckN x.1.Key = bk then some x else none
def chn (hs : List (List UInt8)) (bk : Nat) : Nat → Nat → List (Nat × S_api_Entry) × Bool
  | 0, at_ => ([], at_ == 0)
  | n + 1, at_ => if at_ = 0 then ([], true) else match stp hs bk at_ with
    | none => ([], false)
    | some (e, nx) => ((at_, e) :: (chn hs bk n nx).1, (chn hs bk n nx).2)
theorem chn_zero (hs : List (List UInt8)) (bk n : Nat) : chn hs bk n 0 = ([], true) := by cases n <;> rfl
theorem chn_none {hs : List (List UInt8)} {bk at_ : Nat} (h0 : at_ ≠ 0) (h : stp hs bk at_ = none) : ∀ n, chn hs bk n at_ = ([], false)
  | 0 => by
    unfold chn
    rw [beq_eq_false_iff_ne.2 h0]
  | n + 1 => by
    unfold chn
    rw [if_neg h0, h]
theorem chn_end {hs : List (List UInt8)} {bk at_ : Nat} (h0 : at_ ≠ 0) : chn hs bk 0 at_ = ([], false) := by
  unfold chn
  rw [beq_eq_false_iff_ne.2 h0]
theorem chn_some {hs : List (List UInt8)} {bk at_ nx n : Nat} {e : S_api_Entry} (h0 : at_ ≠ 0) (h : stp hs bk at_ = some (e, nx)) : chn hs bk (n + 1) at_ = ((at_, e) :: (chn hs bk n nx).1, (chn hs bk n nx).2) := by
  conv => lhs; unfold chn
  rw [if_neg h0, h]
theorem chn_mem {hs : List (List UInt8)} {bk : Nat} : ∀ (n at_ : Nat), ∀ x ∈ (chn hs bk n at_).1, ∃ nx, stp hs bk x.1 = some (x.2, nx)
  | 0, at_, x, hx => by cases hx
  | n + 1, at_, x, hx => by
    by_cases h0 : at_ = 0
    · subst h0; rw [chn_zero] at hx; cases hx
    · cases hs' : stp hs bk at_ with
      | none => rw [chn_none h0 hs'] at hx; cases hx
      | some y =>
        obtain ⟨e, nx⟩ := y
        rw [chn_some h0 hs'] at hx
        rcases List.mem_cons.1 hx with rfl | hx
        · exact ⟨nx, hs'⟩
        · exact chn_mem n nx x hx
theorem chn_len {hs : List (List UInt8)} {bk : Nat} : ∀ (n at_ : Nat), (chn hs bk n at_).1.length ≤ n
  | 0, at_ => Nat.le_refl _
  | n + 1, at_ => by
    by_cases h0 : at_ = 0
    · subst h0; rw [chn_zero]; exact Nat.zero_le _
    · cases hs' : stp hs bk at_ with
      | none => rw [chn_none h0 hs']; exact Nat.zero_le _
      | some y =>
        obtain ⟨e, nx⟩ := y
        rw [chn_some h0 hs']
        exact Nat.succ_le_succ (chn_len n nx)
theorem stp_some {hs : List (List UInt8)} {bk at_ nx : Nat} {e : S_api_Entry} (h : stp hs bk at_ = some (e, nx)) : ∃ b, hs[at_]? = some b ∧ ent b = some (e, nx) ∧ buckN e.Key = bk := by
  unfold stp at h
  cases hb : hs[at_]? with
  | none => rw [hb] at h; cases h
  | some b =>
    rw [hb, Option.bind_some] at h
    cases he : ent b with
    | none => rw [he] at h; cases h
    | some x =>
      rw [he, Option.bind_some] at h
      by_cases hk : buckN x.1.Key = bk
      · rw [if_pos hk] at h
        injection h with h
        subst h
        exact ⟨b, rfl, he, hk⟩
      · rw [if_neg hk] at h; cases h
theorem num_at {hs : List (List UInt8)} {bk at_ nx : Nat} {e : S_api_Entry} (h : stp hs bk at_ = some (e, nx)) : num hs at_ 0 = nx := by
  obtain ⟨b, h1, h2, _⟩ := stp_some h
  obtain ⟨_, _, _, _, _, k, _⟩ := ent_some h2
  unfold num
  rw [List.getD_eq_getElem?_getD, h1, k]
  rfl

section
variable {hs : List (List UInt8)} (hw : ∀ r ∈ hs, r.length = 64) (hl : hs.length ≤ 16384)
include hw hl
omit hl in
theorem n_RWalk_l2 (bk : Nat) : ∀ (n fuel : Nat) (out : List Int) (at_ : Nat), out.length + n = 16384 → n < fuel → m_R20_Walk_l2 hs (bk : Int) fuel out (at_ : Int) = some (out ++ (chn hs bk n at_).1.map (fun x => (x.1 : Int)), if (chn hs bk n at_).2 then 0 else 11) := by
  intro n
  induction n with
  | zero =>
    intro fuel out at_ ho hf
    obtain ⟨f, rfl⟩ : ∃ f, fuel = f + 1 := ⟨fuel - 1, by omega⟩
    unfold m_R20_Walk_l2
    by_cases h0 : at_ = 0
    · subst h0
      rw [chn_zero, bif_neg (by rfl)]
      unfold m_R20_Walk_j1
      simp
    · rw [chn_end h0, bif_pos (ine_t (by omega)), bif_neg (dec_f (by omega))]
      show _ = some (out ++ [], 11)
      rw [List.append_nil]
      by_cases h1 : hs.length ≤ at_
      · rw [bif_pos (dec_t (by omega))]
      · have h64 := hw hs[at_] (List.getElem_mem (by omega))
        obtain ⟨e, nx, k1, k2⟩ := n_RRead h64
        rw [bif_neg (dec_f (by omega)), idx_nat (by omega), Option.bind_some, k1, Option.bind_some]
        cases he : ent hs[at_] with
        | none => rfl
        | some y =>
          obtain ⟨e', m⟩ := y
          obtain ⟨rfl, rfl⟩ := k2 _ _ he
          obtain ⟨_, _, g1, _⟩ := ent_some he
          have := key_len (may_iff g1).1
          show (bif !true then _ else Option.bind (m_R20_Bucket e.Key) _) = _
          rw [bif_neg (by rfl), n_RBucket (by omega), Option.bind_some]
          by_cases h2 : buckN e.Key = bk
          · rw [bif_neg (ine_f (by omega)), bif_pos (dec_t (by omega))]
          · rw [bif_pos (ine_t (by omega))]
  | succ n ih =>
    intro fuel out at_ ho hf
    obtain ⟨f, rfl⟩ : ∃ f, fuel = f + 1 := ⟨fuel - 1, by omega⟩
    unfold m_R20_Walk_l2
    by_cases h0 : at_ = 0
    · subst h0
      rw [chn_zero, bif_neg (by rfl)]
      unfold m_R20_Walk_j1
      simp
    · rw [bif_pos (ine_t (by omega)), bif_neg (dec_f (by omega))]
      by_cases h1 : hs.length ≤ at_
      · have hn : stp hs bk at_ = none := by
          unfold stp
          rw [List.getElem?_eq_none h1]
          rfl
        rw [bif_pos (dec_t (by omega)), chn_none h0 hn]
        simp
      · have h64 := hw hs[at_] (List.getElem_mem (by omega))
        obtain ⟨e, nx, k1, k2⟩ := n_RRead h64
        have hb : hs[at_]? = some hs[at_] := List.getElem?_eq_getElem (by omega)
        rw [bif_neg (dec_f (by omega)), idx_nat (by omega), Option.bind_some, k1, Option.bind_some]
        cases he : ent hs[at_] with
        | none =>
          have hn : stp hs bk at_ = none := by
            unfold stp
            rw [hb, Option.bind_some, he]
            rfl
          rw [chn_none h0 hn]
          show some (out, 11) = some (out ++ [], 11)
          rw [List.append_nil]
        | some y =>
          obtain ⟨e', m⟩ := y
          obtain ⟨rfl, rfl⟩ := k2 _ _ he
          obtain ⟨_, _, g1, _⟩ := ent_some he
          have := key_len (may_iff g1).1
          show (bif !true then _ else Option.bind (m_R20_Bucket e.Key) _) = _
          rw [bif_neg (by rfl), n_RBucket (by omega), Option.bind_some]
          by_cases h2 : buckN e.Key = bk
          · have hn : stp hs bk at_ = some (e, m) := by
              unfold stp
              rw [hb, Option.bind_some, he, Option.bind_some, if_pos h2]
            rw [bif_neg (ine_f (by omega)), bif_neg (dec_f (by omega)), appI_ok (by simp; omega), Option.bind_some, chn_some h0 hn]
            show m_R20_Walk_l2 hs (bk : Int) f (out ++ [(at_ : Int)]) (m : Int) = _
            rw [ih f _ m (by simp; omega) (by omega)]
            simp
          · have hn : stp hs bk at_ = none := by
              unfold stp
              rw [hb, Option.bind_some, he, Option.bind_some, if_neg h2]
            rw [bif_pos (ine_t (by omega)), chn_none h0 hn]
            simp
omit hl in
theorem n_cut4 {h o : Nat} (hh : h < hs.length) (ho : o + 4 ≤ 64) : ∃ b, idx hs (h : Int) = some b ∧ hs[h]? = some b ∧ b.length = 64 ∧ cutI b (o : Int) (wi ((o : Int) + 4)) = some ((b.drop o).take 4) ∧ ofBE ((b.drop o).take 4) = num hs h o ∧ ((b.drop o).take 4).length = 4 := by
  have hb : hs[h]? = some hs[h] := List.getElem?_eq_getElem hh
  have h64 := hw hs[h] (List.getElem_mem hh)
  refine ⟨hs[h], idx_nat hh, hb, h64, ?_, ?_, by simp; omega⟩
  · rw [wi_id (by omega) (by omega)]
    exact cutI_mid (by omega) _ (by omega)
  · unfold num
    rw [List.getD_eq_getElem?_getD, hb]
    rfl
omit hl in
theorem n_RHead {t bk : Nat} (ht : t + 4 ≤ hs.length) (hl2 : hs.length ≤ 100000) (hb : bk < 64) : m_R20_Head hs (t : Int) (bk : Int) = some ((num hs (t + bk / 16) (4 * (bk % 16)) : Nat) : Int) := by
  have hq : bk / 16 < 4 := by omega
  obtain ⟨b, k1, k2, k3, k4, k5, k6⟩ := n_cut4 hw (h := t + bk / 16) (o := 4 * (bk % 16)) (by omega) (by omega)
  unfold m_R20_Head
  have e1 : wi ((t : Int) + wi (Int.tdiv (bk : Int) 16)) = ((t + bk / 16 : Nat) : Int) := by
    rw [show Int.tdiv (bk : Int) 16 = ((bk / 16 : Nat) : Int) from rfl, wi_id (z := ((bk / 16 : Nat) : Int)) (by omega) (by omega), wi_id (by omega) (by omega)]
    omega
  have e2 : wi (4 * Int.tmod (bk : Int) 16) = ((4 * (bk % 16) : Nat) : Int) := by
    rw [show Int.tmod (bk : Int) 16 = ((bk % 16 : Nat) : Int) from rfl, wi_id (by omega) (by omega)]
    omega
  rw [e1, e2, bif_neg (dec_f (by omega)), bif_neg (dec_f (by omega)), k1, Option.bind_some, k4, Option.bind_some, n_R01_Get, Option.bind_some, (getN_4 k6).1, k5]
theorem n_RWalk {t bk : Nat} (ht : t + 4 ≤ hs.length) (hb : bk < 64) : m_R20_Walk hs (t : Int) (bk : Int) = some ((chn hs bk 16384 (num hs (t + bk / 16) (4 * (bk % 16)))).1.map (fun x => (x.1 : Int)), if (chn hs bk 16384 (num hs (t + bk / 16) (4 * (bk % 16)))).2 then 0 else 11) := by
  unfold m_R20_Walk
  rw [n_RHead hw ht (by omega) hb, Option.bind_some, n_RWalk_l2 hw bk 16384 16400 [] _ (by simp) (by omega)]
  simp
/-- What is found of a key. -/
def fnd (hs : List (List UInt8)) (t : Nat) (key : List UInt8) : Option (Nat × S_api_Entry) := (chn hs (buckN key) 16384 (num hs (t + buckN key / 16) (4 * (buckN key % 16)))).1.find? fun x => x.2.Key == key
def fndOk (hs : List (List UInt8)) (t : Nat) (key : List UInt8) : Bool := (chn hs (buckN key) 16384 (num hs (t + buckN key / 16) (4 * (buckN key % 16)))).2
omit hl in
theorem n_RFind_l2 {bk : Nat} (l : List (Nat × S_api_Entry)) (q : Int) (hq : ∀ x ∈ l, ∃ nx, stp hs bk x.1 = some (x.2, nx)) (hll : l.length ≤ 100000) (key : List UInt8) : ∀ (n i : Nat), i ≤ l.length → l.length - i < n → m_R20_Find_l2 (l.map (fun x => (x.1 : Int)), q) hs key n (i : Int) = match (l.drop i).find? (fun x => x.2.Key == key) with
    | some x => some ((x.1 : Int), 0)
    | none => m_R20_Find_j1 (l.map (fun x => (x.1 : Int)), q)
  | 0, i, _, h => by omega
  | n + 1, i, hi, h => by
    unfold m_R20_Find_l2
    by_cases hlt : i < l.length
    · have hd : l.drop i = l[i] :: l.drop (i + 1) := List.drop_eq_getElem_cons hlt
      have hm : i < (l.map (fun x => (x.1 : Int))).length := by rw [List.length_map]; exact hlt
      obtain ⟨nx, hst⟩ := hq l[i] (List.getElem_mem hlt)
      obtain ⟨b, g1, g2, _⟩ := stp_some hst
      have g3 := (List.getElem?_eq_some_iff.1 g1).1
      obtain ⟨e, m, k1, k2⟩ := n_RRead (hw b (List.mem_of_getElem? g1))
      obtain ⟨rfl, rfl⟩ := k2 _ _ g2
      have ei : idx (l.map (fun x => (x.1 : Int))) (i : Int) = some (l[i].1 : Int) := by rw [idx_nat hm, List.getElem_map]
      have eh : idx hs (l[i].1 : Int) = some b := by
        rw [idx_nat g3]
        rw [List.getElem?_eq_getElem g3] at g1
        exact g1
      show (bif decide ((i : Int) < ((l.map (fun x => (x.1 : Int))).length : Int)) then _ else _) = _
      rw [bif_pos (dec_t (by omega))]
      show Option.bind (idx (l.map (fun x => (x.1 : Int))) (i : Int)) _ = _
      rw [ei, Option.bind_some, eh, Option.bind_some, k1, Option.bind_some, hd]
      show (bif l[i].2.Key == key then _ else _) = _
      by_cases hk : l[i].2.Key = key
      · rw [bif_pos (by simpa using hk), List.find?_cons_of_pos (by simpa using hk)]
        rfl
      · rw [bif_neg (by simpa using hk), List.find?_cons_of_neg (by simpa using hk), wi_succ (by omega)]
        exact n_RFind_l2 l q hq hll key n (i + 1) (by omega) (by omega)
    · show (bif decide ((i : Int) < ((l.map (fun x => (x.1 : Int))).length : Int)) then _ else _) = _
      rw [bif_neg (dec_f (by rw [List.length_map]; omega)), List.drop_eq_nil_of_le (by omega)]
      rfl
theorem n_RFind {t : Nat} (ht : t + 4 ≤ hs.length) (key : List UInt8) : m_R20_Find hs (t : Int) key = some (if keyB key then (match fnd hs t key with | some x => ((x.1 : Int), 0) | none => (0, if fndOk hs t key then (35 : Int) else 11)) else (0, 2)) := by
  unfold m_R20_Find
  rw [n_Key, Option.bind_some]
  cases hk : keyB key with
  | false => rfl
  | true =>
    have h40 := key_len hk
    rw [bif_neg (by rfl), n_RBucket (by omega), Option.bind_some, n_RWalk hw hl ht (buckN_lt key), Option.bind_some]
    unfold fnd fndOk
    generalize num hs (t + buckN key / 16) (4 * (buckN key % 16)) = a
    have hm := chn_mem (hs := hs) (bk := buckN key) 16384 a
    have hcl := chn_len (hs := hs) (bk := buckN key) 16384 a
    generalize chn hs (buckN key) 16384 a = c at hm hcl
    have := n_RFind_l2 hw c.1 (if c.2 then 0 else 11) hm (by omega) key ((c.1.map (fun x => (x.1 : Int))).length + 1) 0 (by omega) (by rw [List.length_map]; omega)
    rw [List.drop_zero] at this
    rw [if_pos rfl]
    refine this.trans ?_
    cases c.1.find? (fun x => x.2.Key == key) with
    | some x => rfl
    | none =>
      unfold m_R20_Find_j1
      cases c.2 <;> rfl

/-! ### What names a home, names another one -/
omit hl in
theorem n_name_hit {h o p4 w : Nat} (hh : h < hs.length) (ho : o + 4 ≤ 64) (he : num hs h o = w) (hp : p4 < 4294967296) (f : Nat) : m_R20_name_v0_l1 hs (w : Int) (p4 : Int) (f + 1) (h : Int) (o : Int) = some (hs.set h (wr4 (hs.getD h []) o p4)) := by
  obtain ⟨b, k1, k2, k3, k4, k5, k6⟩ := n_cut4 hw hh ho
  have hb : hs.getD h [] = b := by rw [List.getD_eq_getElem?_getD, k2]; rfl
  unfold m_R20_name_v0_l1
  rw [k1, Option.bind_some, k4, Option.bind_some, n_R01_Get, Option.bind_some, (getN_4 k6).1, k5, bif_pos (ieq_t (by omega)), Option.bind_some]
  have hne : b.isEmpty = false := by cases b with | nil => simp at k3 | cons _ _ => rfl
  rw [hne, bif_neg rfl, appI_ok (by rw [List.length_nil]; omega), Option.bind_some, List.nil_append]
  have ev : vcut b.length (o : Int) (wi ((o : Int) + 4)) = some () := by
    rw [wi_id (by omega) (by omega)]
    unfold vcut
    rw [if_pos ⟨by omega, by omega, by omega⟩]
  rw [ev, Option.bind_some]
  have en := n_number (n := p4) (k := 4) (by omega) (by omega) (by omega) (by omega)
  show Option.bind (m_R20_number (p4 : Int) ((4 : Nat) : Int)) _ = _
  rw [en, Option.bind_some, hne, bif_neg rfl, wi_id (by omega) (by omega), Int.toNat_natCast, show Int.toNat ((o : Int) + 4) - o = 4 by omega, show 0 + o * 1 = o by omega]
  have ec : cpyI b o 4 (be 4 p4) = some (wr4 b o p4) := by
    unfold cpyI
    rw [if_pos (by omega)]
    unfold cpyL wr4
    rw [be_length, Nat.min_self, List.take_of_length_le (l := be 4 p4) (by rw [be_length]; omega)]
  rw [ec, Option.bind_some, lenI_ok (wr4_len (by omega)), Option.bind_some, Option.bind_some, hb, Int.toNat_natCast]
omit hl in
theorem n_name_miss {h o p4 w : Nat} (hh : h < hs.length) (ho : o + 4 ≤ 64) (he : num hs h o ≠ w) (f : Nat) : m_R20_name_v0_l1 hs (w : Int) (p4 : Int) (f + 1) (h : Int) (o : Int) = m_R20_name_v0_l1 hs (w : Int) (p4 : Int) f ((num hs h o : Nat) : Int) ((0 : Nat) : Int) := by
  obtain ⟨b, k1, k2, k3, k4, k5, k6⟩ := n_cut4 hw hh ho
  conv => lhs; unfold m_R20_name_v0_l1
  rw [k1, Option.bind_some, k4, Option.bind_some, n_R01_Get, Option.bind_some, (getN_4 k6).1, k5, bif_neg (ieq_f (by omega))]
  rfl
end
end Go.Proofs.Ytjomnccladjpgaa

/-
  Plain: what an index does, held against what the document says.
-/
namespace Go.Proofs.Ytjomnccladjpgaa
open Go Go.RowKit
set_option linter.unusedVariables false
set_option linter.unusedSimpArgs false

/-- An index at a table of a transaction. -/
structure XIn (H : Hp) (x t tb : Nat) (hs : List (List UInt8)) (mp : List (Int × List UInt8)) : Prop where
  tn : TIn H t hs mp
  ix : H.ix[x]? = some ⟨some t, (tb : Int)⟩
  tbl : tb + 4 ≤ hs.length
section
variable {H : Hp} {x t tb : Nat} {hs : List (List UInt8)} {mp : List (Int × List UInt8)}
theorem n_TRead_r (h : TIn H t hs mp) {k : Nat} {r : List UInt8} (hr : hs[k]? = some r) : m_wal_Txn_Read_r (some t) (k : Int) H = some (r, 0) := by
  have ha := n_TAlive h
  have hw := h.wide hr
  obtain ⟨⟨i, j, d, s, b, sl, us, com, m, h1, h2, h3, h4, h5⟩, h6, h7⟩ := h
  unfold m_wal_Txn_Read_r
  rw [ha, Option.bind_some, bif_neg (ine_f rfl)]
  show Option.bind (H.tx[t]?) _ = _
  rw [h2, Option.bind_some]
  show Option.bind (H.mp[m]?) _ = _
  rw [h3, Option.bind_some]
  rcases h5 k r hr with h8 | ⟨h8, h9⟩
  · rw [h8, bif_pos (by rfl)]
    show Option.bind (m_slices_Clone_byte r) _ = _
    unfold m_slices_Clone_byte
    rw [appI_ok (by rw [List.length_nil]; omega), Option.bind_some, List.nil_append]
    cases r with
    | nil => simp at hw
    | cons c r => rfl
  · rw [h8, bif_neg (by rfl)]
    show Option.bind (m_wal_Log_Read (some j) (k : Int) H) _ = _
    rw [n_LRead h1 h9]
    rfl
theorem n_sector (h : XIn H x t tb hs mp) {k : Nat} {r : List UInt8} (hr : hs[k]? = some r) : m_index_Index_sector (some x) (k : Int) H = some (r, 0) := by
  unfold m_index_Index_sector
  show Option.bind (H.ix[x]?) _ = _
  rw [h.ix, Option.bind_some]
  show Option.bind (m_wal_Txn_Read (some t) (k : Int) H) _ = _
  rw [n_TRead h.tn hr]
  rfl
theorem n_sector_r (h : XIn H x t tb hs mp) {k : Nat} {r : List UInt8} (hr : hs[k]? = some r) : m_index_Index_sector_r (some x) (k : Int) H = some (r, 0) := by
  unfold m_index_Index_sector_r
  show Option.bind (H.ix[x]?) _ = _
  rw [h.ix, Option.bind_some]
  show Option.bind (m_wal_Txn_Read_r (some t) (k : Int) H) _ = _
  rw [n_TRead_r h.tn hr]
  rfl
theorem n_sectorOut (h : XIn H x t tb hs mp) {k : Nat} (hk : hs.length ≤ k) : m_index_Index_sector (some x) (k : Int) H = some ([], 11) := by
  unfold m_index_Index_sector
  show Option.bind (H.ix[x]?) _ = _
  rw [h.ix, Option.bind_some]
  show Option.bind (m_wal_Txn_Read (some t) (k : Int) H) _ = _
  rw [n_TReadOut h.tn (by omega)]
  rfl
theorem n_head (h : XIn H x t tb hs mp) {bk : Nat} (hb : bk < 64) : m_index_Index_head (some x) (bk : Int) H = some ⟨((tb + bk / 16 : Nat) : Int), ((4 * (bk % 16) : Nat) : Int)⟩ := by
  have := h.tbl
  have := h.tn.low
  unfold m_index_Index_head
  show Option.bind (H.ix[x]?) _ = _
  rw [h.ix, Option.bind_some]
  have e1 : wi ((tb : Int) + wi (Int.tdiv (bk : Int) 16)) = ((tb + bk / 16 : Nat) : Int) := by
    rw [show Int.tdiv (bk : Int) 16 = ((bk / 16 : Nat) : Int) from rfl, wi_id (z := ((bk / 16 : Nat) : Int)) (by omega) (by omega), wi_id (by omega) (by omega)]
    omega
  have e2 : wi (4 * Int.tmod (bk : Int) 16) = ((4 * (bk % 16) : Nat) : Int) := by
    rw [show Int.tmod (bk : Int) 16 = ((bk % 16 : Nat) : Int) from rfl, wi_id (by omega) (by omega)]
    omega
  show some (S_index_spot.mk (wi ((tb : Int) + wi (Int.tdiv (bk : Int) 16))) (wi (4 * Int.tmod (bk : Int) 16))) = _
  rw [e1, e2]
theorem n_named (h : XIn H x t tb hs mp) {a o : Nat} (ha : a < hs.length) (ho : o + 4 ≤ 64) : m_index_Index_named (some x) ⟨(a : Int), (o : Int)⟩ H = some (((num hs a o : Nat) : Int), 0) := by
  obtain ⟨b, k1, k2, k3, k4, k5, k6⟩ := n_cut4 h.tn.row ha ho
  unfold m_index_Index_named
  show Option.bind (m_index_Index_sector (some x) (a : Int) H) _ = _
  rw [n_sector h k2, Option.bind_some, bif_neg (ine_f rfl)]
  show Option.bind (cutI b (o : Int) (wi ((o : Int) + 4))) _ = _
  rw [k4, Option.bind_some, n_get k6, Option.bind_some, k5]
/-- What going through a bucket, up to a key, answers. -/
def EachR (hs : List (List UInt8)) (bk : Nat) (key : List UInt8) (n at_ sh so : Nat) (res : Option (S_index_spot × Int × S_index_node × Int)) : Prop := match (chn hs bk n at_).1.find? (fun y => y.2.Key == key) with
  | none => res = some (⟨0, 0⟩, 0, ⟨⟨[], 0, 0, 0⟩, 0⟩, if (chn hs bk n at_).2 then 35 else 11)
  | some y => ∃ a o nx, res = some (⟨((a : Nat) : Int), ((o : Nat) : Int)⟩, (y.1 : Int), ⟨y.2, ((nx : Nat) : Int)⟩, 0) ∧ stp hs bk y.1 = some (y.2, nx) ∧ y.2.Key = key ∧ a < hs.length ∧ o + 4 ≤ 64 ∧ num hs a o = y.1 ∧
        ∀ (p4 : Nat), p4 < 4294967296 → ∀ f, n < f → m_R20_name_v0_l1 hs (y.1 : Int) (p4 : Int) f (sh : Int) (so : Int) = some (hs.set a (wr4 (hs.getD a []) o p4))
theorem EachR.none {bk : Nat} {key : List UInt8} {n at_ sh so : Nat} {b : Bool} (hc : chn hs bk n at_ = ([], b)) : EachR hs bk key n at_ sh so (some (⟨0, 0⟩, 0, ⟨⟨[], 0, 0, 0⟩, 0⟩, if b then 35 else 11)) := by
  unfold EachR
  rw [hc]
  rfl
theorem EachR.hit (hw : ∀ r ∈ hs, r.length = 64) {bk : Nat} {key : List UInt8} {n at_ sh so nx : Nat} {e : S_api_Entry} (h0 : at_ ≠ 0) (hn : stp hs bk at_ = some (e, nx)) (hk : e.Key = key) (h1 : sh < hs.length) (h2 : so + 4 ≤ 64) (h3 : num hs sh so = at_) : EachR hs bk key (n + 1) at_ sh so (some (⟨(sh : Int), (so : Int)⟩, (at_ : Int), ⟨e, (nx : Int)⟩, 0)) := by
  unfold EachR
  rw [chn_some h0 hn, List.find?_cons_of_pos (by simpa using hk)]
  refine ⟨sh, so, nx, rfl, hn, hk, h1, h2, h3, fun p4 hp g hg => ?_⟩
  obtain ⟨g, rfl⟩ : ∃ g', g = g' + 1 := ⟨g - 1, by omega⟩
  exact n_name_hit hw h1 h2 h3 hp g
theorem EachR.miss (hw : ∀ r ∈ hs, r.length = 64) {bk : Nat} {key : List UInt8} {n at_ sh so nx : Nat} {e : S_api_Entry} {res : Option (S_index_spot × Int × S_index_node × Int)} (h0 : at_ ≠ 0) (hn : stp hs bk at_ = some (e, nx)) (hk : e.Key ≠ key) (h1 : sh < hs.length) (h2 : so + 4 ≤ 64) (h3 : num hs sh so = at_) (h : EachR hs bk key n nx at_ 0 res) : EachR hs bk key (n + 1) at_ sh so res := by
  unfold EachR at h ⊢
  rw [chn_some h0 hn, List.find?_cons_of_neg (by simpa using hk)]
  have hpost : ∀ y ∈ (chn hs bk n nx).1.find? (fun y => y.2.Key == key), num hs sh so ≠ y.1 := by
    intro y hy he2
    have hm := List.mem_of_find?_eq_some hy
    have hyk := List.find?_some hy
    obtain ⟨m, hst⟩ := chn_mem n nx y hm
    rw [← he2, h3, hn] at hst
    injection hst with hst
    injection hst with hst _
    rw [← hst] at hyk
    exact hk (by simpa using hyk)
  revert hpost h
  cases (chn hs bk n nx).1.find? (fun y => y.2.Key == key) with
  | none => exact fun h _ => h
  | some y =>
    intro h hpost
    obtain ⟨a, o, m, q1, q2, q3, q4, q5, q6, q7⟩ := h
    refine ⟨a, o, m, q1, q2, q3, q4, q5, q6, fun p4 hp g hg => ?_⟩
    obtain ⟨g, rfl⟩ : ∃ g', g = g' + 1 := ⟨g - 1, by omega⟩
    rw [n_name_miss hw h1 h2 (hpost y rfl), h3]
    exact q7 p4 hp g (by omega)
/-- Going through a bucket, up to a key. -/
theorem n_each_l1 (h : XIn H x t tb hs mp) (bk : Nat) (key : List UInt8) : ∀ (n fuel : Nat) (sh so at_ cnt : Nat), cnt + n = 16384 → n < fuel → sh < hs.length → so + 4 ≤ 64 → num hs sh so = at_ →
    EachR hs bk key n at_ sh so (m_index_Index_each_l1 (some x) H (bk : Int) (fun a0 a1 => m_index_Index_find_c1 a0 a1 key) fuel (sh : Int) (so : Int) (at_ : Int) (cnt : Int)) := by
  have hw := h.tn.row
  have hl := h.tn.low
  intro n
  induction n with
  | zero =>
    intro fuel sh so at_ cnt hc hf h1 h2 h3
    obtain ⟨f, rfl⟩ : ∃ f, fuel = f + 1 := ⟨fuel - 1, by omega⟩
    unfold m_index_Index_each_l1
    by_cases h0 : at_ = 0
    · rw [bif_pos (ieq_t (by omega))]
      exact EachR.none (b := true) (by rw [h0, chn_zero])
    · rw [bif_neg (ieq_f (by omega))]
      refine Eq.mp (congrArg (EachR hs bk key 0 at_ sh so) ?_) (EachR.none (b := false) (chn_end h0))
      symm
      show Option.bind (m_index_Index_sector (some x) (at_ : Int) H) _ = _
      by_cases hlt : at_ < hs.length
      · have hb : hs[at_]? = some hs[at_] := List.getElem?_eq_getElem hlt
        obtain ⟨y, k1, k2⟩ := n_read (hw _ (List.getElem_mem hlt))
        rw [n_sector h hb, Option.bind_some, bif_neg (ine_f rfl), k1, Option.bind_some, n_Bucket, Option.bind_some]
        cases he : ent hs[at_] with
        | none => rfl
        | some z =>
          rw [bif_neg (by rfl)]
          show (bif (if keyB y.Entry.Key then ((buckN y.Entry.Key : Nat) : Int) else 0) != (bk : Int) then _ else _) = _
          rw [wi_id (by omega) (by omega), bif_pos (c := decide ((cnt : Int) + 1 > 16384)) (dec_t (by omega))]
          cases ((if keyB y.Entry.Key then ((buckN y.Entry.Key : Nat) : Int) else 0) != (bk : Int)) <;> rfl
      · rw [n_sectorOut h (by omega)]
        rfl
  | succ n ih =>
    intro fuel sh so at_ cnt hc hf h1 h2 h3
    obtain ⟨f, rfl⟩ : ∃ f, fuel = f + 1 := ⟨fuel - 1, by omega⟩
    unfold m_index_Index_each_l1
    by_cases h0 : at_ = 0
    · rw [bif_pos (ieq_t (by omega))]
      exact EachR.none (b := true) (by rw [h0, chn_zero])
    · rw [bif_neg (ieq_f (by omega))]
      by_cases hlt : at_ < hs.length
      · have hb : hs[at_]? = some hs[at_] := List.getElem?_eq_getElem hlt
        obtain ⟨y, k1, k2⟩ := n_read (hw _ (List.getElem_mem hlt))
        rw [n_sector h hb, Option.bind_some, bif_neg (ine_f rfl), k1, Option.bind_some, n_Bucket, Option.bind_some]
        cases he : ent hs[at_] with
        | none =>
          have hn : stp hs bk at_ = none := by
            unfold stp
            rw [hb, Option.bind_some, he]
            rfl
          exact EachR.none (b := false) (chn_none h0 hn (n + 1))
        | some z =>
          obtain ⟨e, nx⟩ := z
          have ky := k2 e nx he
          subst ky
          obtain ⟨_, _, g1, _⟩ := ent_some he
          have gk := (may_iff g1).1
          rw [bif_neg (by rfl)]
          show EachR hs bk key (n + 1) at_ sh so (bif (if keyB e.Key then ((buckN e.Key : Nat) : Int) else 0) != (bk : Int) then _ else _)
          rw [if_pos gk]
          by_cases hbk : buckN e.Key = bk
          · have hn : stp hs bk at_ = some (e, nx) := by
              unfold stp
              rw [hb, Option.bind_some, he, Option.bind_some, if_pos hbk]
            rw [bif_neg (ine_f (by omega)), wi_id (z := (cnt : Int) + 1) (by omega) (by omega), bif_neg (dec_f (by omega))]
            show EachR hs bk key (n + 1) at_ sh so (bif e.Key == key then _ else _)
            by_cases hk : e.Key = key
            · rw [bif_pos (by simpa using hk)]
              exact EachR.hit hw h0 hn hk h1 h2 h3
            · rw [bif_neg (by simpa using hk)]
              refine EachR.miss hw h0 hn hk h1 h2 h3 ?_
              exact ih f at_ 0 nx (cnt + 1) (by omega) (by omega) hlt (by omega) (num_at hn)
          · have hn : stp hs bk at_ = none := by
              unfold stp
              rw [hb, Option.bind_some, he, Option.bind_some, if_neg hbk]
            rw [bif_pos (ine_t (by omega))]
            exact EachR.none (b := false) (chn_none h0 hn (n + 1))
      · have hn : stp hs bk at_ = none := by
          unfold stp
          rw [List.getElem?_eq_none (by omega)]
          rfl
        rw [n_sectorOut h (by omega)]
        exact EachR.none (b := false) (chn_none h0 hn (n + 1))
/-- What is found of a key, by the code. -/
theorem n_find (h : XIn H x t tb hs mp) {key : List UInt8} (hk : keyB key = true) :
    EachR hs (buckN key) key 16384 (num hs (tb + buckN key / 16) (4 * (buckN key % 16))) (tb + buckN key / 16) (4 * (buckN key % 16)) (m_index_Index_find (some x) key H) := by
  have hb := buckN_lt key
  have ht := h.tbl
  have := n_each_l1 h (buckN key) key 16384 16400 (tb + buckN key / 16) (4 * (buckN key % 16)) _ 0 (by omega) (by omega) (by omega) (by omega) rfl
  refine Eq.mp (congrArg _ ?_) this
  symm
  unfold m_index_Index_find
  rw [n_Bucket, Option.bind_some, hk]
  show Option.bind (m_index_Index_each (some x) ((buckN key : Nat) : Int) (fun a0 a1 => m_index_Index_find_c1 a0 a1 key) H) _ = _
  unfold m_index_Index_each
  rw [n_head h hb, Option.bind_some, n_named h (by omega) (by omega), Option.bind_some, bif_neg (ine_f rfl)]
  generalize m_index_Index_each_l1 (some x) H _ _ _ _ _ _ _ = r
  cases r <;> rfl
theorem n_find_bad {key : List UInt8} (hk : keyB key = false) : m_index_Index_find (some x) key H = some (⟨0, 0⟩, 0, ⟨⟨[], 0, 0, 0⟩, 0⟩, 2) := by
  unfold m_index_Index_find
  rw [n_Bucket, Option.bind_some, hk]
  rfl
theorem XIn.set_mp (h : XIn H x t tb hs mp) {H' : Hp} {hs' : List (List UInt8)} {mp' : List (Int × List UInt8)} (h' : TIn H' t hs' mp') (hi : H'.ix = H.ix) (hl : hs'.length = hs.length) : XIn H' x t tb hs' mp' := ⟨h', by rw [hi]; exact h.ix, by rw [hl]; exact h.tbl⟩
theorem n_xname (h : XIn H x t tb hs mp) {a o p : Nat} (ha : a < hs.length) (ho : o + 4 ≤ 64) (hp : p < 4294967296) :
    ∃ H' mp', m_index_Index_name (some x) ⟨(a : Int), (o : Int)⟩ (p : Int) H = some (0, H') ∧ XIn H' x t tb (hs.set a (wr4 (hs.getD a []) o p)) mp' := by
  obtain ⟨b, k1, k2, k3, k4, k5, k6⟩ := n_cut4 h.tn.row ha ho
  have hb : hs.getD a [] = b := by rw [List.getD_eq_getElem?_getD, k2]; rfl
  obtain ⟨H', w1, w2, m, v, w3⟩ := n_TWrite h.tn ha (x := wr4 b o p) (by rw [wr4_len (by omega)]; exact k3)
  refine ⟨H', _, ?_, h.set_mp (by rw [hb]; exact w2) (by rw [w3]; rfl) (by rw [List.length_set])⟩
  unfold m_index_Index_name
  show Option.bind (m_index_Index_sector_r (some x) (a : Int) H) _ = _
  rw [n_sector_r h k2, Option.bind_some, bif_neg (ine_f rfl)]
  have ev : vcut b.length (o : Int) (wi ((o : Int) + 4)) = some () := by
    rw [wi_id (by omega) (by omega)]
    unfold vcut
    rw [if_pos ⟨by omega, by omega, by omega⟩]
  have hne : b.isEmpty = false := by cases b with | nil => simp at k3 | cons _ _ => rfl
  show Option.bind (vcut b.length (o : Int) (wi ((o : Int) + 4))) _ = _
  rw [ev, Option.bind_some]
  show (bif b.isEmpty then none else _) = _
  rw [hne, bif_neg rfl]
  have ep : m_index_put_v0 b (0 + Int.toNat (o : Int) * 1) (Int.toNat (wi ((o : Int) + 4)) - Int.toNat (o : Int)) (p : Int) = some (wr4 b o p) := by
    rw [wi_id (by omega) (by omega), Int.toNat_natCast, show Int.toNat ((o : Int) + 4) - o = 4 by omega, show 0 + o * 1 = o by omega]
    exact n_put (by omega) (by omega) (by omega) (by omega) (by omega)
  show Option.bind (m_index_put_v0 b (0 + Int.toNat (o : Int) * 1) (Int.toNat (wi ((o : Int) + 4)) - Int.toNat (o : Int)) (p : Int)) _ = _
  rw [ep, Option.bind_some]
  show Option.bind (lenI (wr4 b o p).length b.length) _ = _
  rw [lenI_ok (wr4_len (by omega)), Option.bind_some]
  show Option.bind (H.ix[x]?) _ = _
  rw [h.ix, Option.bind_some]
  show Option.bind (m_wal_Txn_Write (some t) (a : Int) (wr4 b o p) H) _ = _
  rw [w1]
  rfl
end
end Go.Proofs.Ytjomnccladjpgaa

/-
  Plain: put, set, drop and find are the document's.
-/
namespace Go.Proofs.Ytjomnccladjpgaa
open Go Go.RowKit
set_option linter.unusedVariables false
set_option linter.unusedSimpArgs false

section
variable {H : Hp} {x t tb : Nat} {hs : List (List UInt8)} {mp : List (Int × List UInt8)}
theorem n_BucketT {k : List UInt8} (hk : keyB k = true) : m_index_Bucket k = some (((buckN k : Nat) : Int), true) := by
  rw [n_Bucket, hk]
  rfl
theorem num_lt (hs : List (List UInt8)) (a o : Nat) : num hs a o < 4294967296 := by
  unfold num
  have := ofBE_lt _ (((hs.getD a []).drop o).take 4) rfl
  have hl : (((hs.getD a []).drop o).take 4).length ≤ 4 := by rw [List.length_take]; omega
  exact Nat.lt_of_lt_of_le this (Nat.pow_le_pow_right (by omega) hl)
theorem n_RFind_X (h : XIn H x t tb hs mp) (key : List UInt8) : m_R20_Find hs (tb : Int) key = some (if keyB key then (match fnd hs tb key with | some y => ((y.1 : Int), 0) | none => (0, if fndOk hs tb key then (35 : Int) else 11)) else (0, 2)) := n_RFind h.tn.row h.tn.low h.tbl key
/-- The place of a bucket's head, as the document numbers it. -/
theorem n_place {tb bk : Nat} (h1 : tb ≤ 100000) (h2 : bk < 64) : wi ((tb : Int) + wi (Int.tdiv (bk : Int) 16)) = ((tb + bk / 16 : Nat) : Int) ∧ wi (4 * Int.tmod (bk : Int) 16) = ((4 * (bk % 16) : Nat) : Int) := by
  constructor
  · rw [show Int.tdiv (bk : Int) 16 = ((bk / 16 : Nat) : Int) from rfl, wi_id (z := ((bk / 16 : Nat) : Int)) (by omega) (by omega), wi_id (by omega) (by omega)]
    omega
  · rw [show Int.tmod (bk : Int) 16 = ((bk % 16 : Nat) : Int) from rfl, wi_id (by omega) (by omega)]
    omega
theorem n_FindX (h : XIn H x t tb hs mp) (key : List UInt8) : ∃ E a e, m_index_Index_Find (some x) key H = some (E, a, e) ∧ m_R20_Find hs (tb : Int) key = some (a, e) := by
  rw [n_RFind_X h]
  unfold m_index_Index_Find
  cases hk : keyB key with
  | false =>
    rw [n_find_bad hk]
    exact ⟨_, _, _, rfl, rfl⟩
  | true =>
    have := n_find h hk
    unfold EachR at this
    rw [if_pos rfl]
    unfold fnd fndOk
    revert this
    cases (chn hs (buckN key) 16384 (num hs (tb + buckN key / 16) (4 * (buckN key % 16)))).1.find? (fun y => y.2.Key == key) with
    | none =>
      intro this
      rw [this]
      exact ⟨_, _, _, rfl, rfl⟩
    | some y =>
      rintro ⟨a, o, nx, h1, _⟩
      rw [h1]
      exact ⟨_, _, _, rfl, rfl⟩
theorem n_PutX (h : XIn H x t tb hs mp) {home : Int} (h0 : 0 ≤ home) (h1 : home < (hs.length : Int)) (e : S_api_Entry) :
    ∃ r H' hs' mp', m_index_Index_Put (some x) home e H = some (r, H') ∧ m_R20_Put_v0 hs (tb : Int) home e = some (r, hs') ∧ XIn H' x t tb hs' mp' ∧ hs'.length = hs.length := by
  have hl := h.tn.low
  have ht := h.tbl
  have hix : H.ge_ix x = some ⟨some t, (tb : Int)⟩ := h.ix
  have same : ∀ r : Int, ∃ r' H' hs' mp', some (r, H) = some (r', H') ∧ some (r, hs) = some (r', hs') ∧ XIn H' x t tb hs' mp' ∧ hs'.length = hs.length := fun r => ⟨r, H, hs, mp, rfl, rfl, h, rfl⟩
  unfold m_index_Index_Put m_R20_Put_v0
  rw [n_may20, Option.bind_some, n_RMay, Option.bind_some]
  cases hm : mayB e with
  | false => exact same 2
  | true =>
    simp only [Bool.not_true, cond_false]
    by_cases hh : home < 1
    · simp only [dec_t hh, cond_true]
      exact same 2
    · simp only [dec_f hh, cond_false]
      rw [bif_neg (dec_f (p := home > 16384) (by omega)), ptM_s, hix, Option.bind_some]
      have go : ¬ ((tb : Int) ≤ home ∧ home < (tb : Int) + 4) → ∃ r H' hs' mp', m_index_Index_Put_j1 (some x) e H home = some (r, H') ∧ m_R20_Put_v0_j1 hs (tb : Int) e home = some (r, hs') ∧ XIn H' x t tb hs' mp' ∧ hs'.length = hs.length := by
        intro hout
        have hkk := (may_iff hm).1
        have hbk := buckN_lt e.Key
        have hkl := key_len hkk
        unfold m_index_Index_Put_j1 m_R20_Put_v0_j1
        rw [n_RFind_X h, Option.bind_some, if_pos hkk]
        have hf := n_find h hkk
        unfold EachR at hf
        unfold fnd fndOk
        revert hf
        cases (chn hs (buckN e.Key) 16384 (num hs (tb + buckN e.Key / 16) (4 * (buckN e.Key % 16)))).1.find? (fun y => y.2.Key == e.Key) with
        | some y =>
          rintro ⟨a, o, nx, k1, _⟩
          rw [k1, Option.bind_some]
          exact same 42
        | none =>
          intro k1
          rw [k1, Option.bind_some]
          cases (chn hs (buckN e.Key) 16384 (num hs (tb + buckN e.Key / 16) (4 * (buckN e.Key % 16)))).2 with
          | false => exact same 11
          | true =>
            generalize hA : tb + buckN e.Key / 16 = A
            generalize hO : 4 * (buckN e.Key % 16) = O
            have hAl : A < hs.length := by omega
            have hOl : O + 4 ≤ 64 := by omega
            have hnum := num_lt hs A O
            obtain ⟨hm1, rfl⟩ : ∃ q : Nat, home = (q : Int) := ⟨home.toNat, by omega⟩
            have hql : hm1 < hs.length := by omega
            have hnA : hm1 ≠ A := by omega
            obtain ⟨H1, w1, w2, m, v, w3⟩ := n_TWrite h.tn hql (x := nodeB e (num hs A O)) (nodeB_len (by omega))
            have h2 : XIn H1 x t tb (hs.set hm1 (nodeB e (num hs A O))) (mset mp (hm1 : Int) (nodeB e (num hs A O))) := h.set_mp w2 (by rw [w3]; rfl) (by rw [List.length_set])
            have hA1 : A < (hs.set hm1 (nodeB e (num hs A O))).length := by rw [List.length_set]; exact hAl
            obtain ⟨H2, mp2, v1, v2⟩ := n_xname h2 hA1 hOl (p := hm1) (by omega)
            refine ⟨0, H2, _, mp2, ?_, ?_, v2, by rw [List.length_set, List.length_set]⟩
            · rw [bif_neg (by rfl), n_BucketT hkk, Option.bind_some, n_head h hbk, Option.bind_some, hA, hO, n_named h hAl hOl, Option.bind_some, bif_neg (by rfl), ptM_s, hix, Option.bind_some]
              show Option.bind (m_index_node_bytes ⟨e, ((num hs A O : Nat) : Int)⟩) _ = _
              rw [n_node_bytes hm hnum, Option.bind_some]
              show Option.bind (m_wal_Txn_Write (some t) (hm1 : Int) (nodeB e (num hs A O)) H) _ = _
              rw [w1, Option.bind_some, bif_neg (by rfl)]
              show Option.bind (m_index_Index_head (some x) ((buckN e.Key : Nat) : Int) H1) _ = _
              rw [n_head h2 hbk, Option.bind_some, hA, hO, v1]
              rfl
            · rw [bif_neg (by rfl), bif_neg (by rfl), n_RBucket (by omega), Option.bind_some, n_RHead h.tn.row ht (by omega) hbk, Option.bind_some, hA, hO, n_RBytes hm hnum, Option.bind_some, idx_nat hql, Option.bind_some]
              unfold m_R20_name_v0
              rw [(n_place (tb := tb) (by omega) hbk).1, (n_place (tb := tb) (by omega) hbk).2, hA, hO, Int.toNat_natCast]
              have hit := n_name_hit (hs := hs.set hm1 (nodeB e (num hs A O))) h2.tn.row (h := A) (o := O) (p4 := hm1) (w := num hs A O) hA1 hOl (by
                unfold num
                rw [List.getD_eq_getElem?_getD, List.getD_eq_getElem?_getD, List.getElem?_set_ne hnA]) (by omega) 16399
              rw [hit, Option.bind_some, lenI_ok (by rw [List.length_set])]
              rfl
      by_cases hge : (tb : Int) ≤ home
      · simp only [dec_t (p := home ≥ (tb : Int)) hge, cond_true]
        rw [wi_id (z := home - (tb : Int)) (by omega) (by omega), wi_id (z := (tb : Int) + 4) (by omega) (by omega)]
        by_cases hlt : home < (tb : Int) + 4
        · rw [bif_pos (c := decide (home - (tb : Int) < 4)) (dec_t (by omega)), bif_pos (c := decide (home < (tb : Int) + 4)) (dec_t hlt)]
          exact same 2
        · rw [bif_neg (c := decide (home - (tb : Int) < 4)) (dec_f (by omega)), bif_neg (c := decide (home < (tb : Int) + 4)) (dec_f hlt)]
          exact go (by omega)
      · simp only [dec_f (p := home ≥ (tb : Int)) hge, cond_false]
        exact go (by omega)
theorem n_SetX (h : XIn H x t tb hs mp) (e : S_api_Entry) :
    ∃ r H' hs' mp', m_index_Index_Set (some x) e H = some (r, H') ∧ m_R20_Set_v0 hs (tb : Int) e = some (r, hs') ∧ XIn H' x t tb hs' mp' ∧ hs'.length = hs.length := by
  have hl := h.tn.low
  have ht := h.tbl
  have hix : H.ge_ix x = some ⟨some t, (tb : Int)⟩ := h.ix
  have same : ∀ r : Int, ∃ r' H' hs' mp', some (r, H) = some (r', H') ∧ some (r, hs) = some (r', hs') ∧ XIn H' x t tb hs' mp' ∧ hs'.length = hs.length := fun r => ⟨r, H, hs, mp, rfl, rfl, h, rfl⟩
  unfold m_index_Index_Set m_R20_Set_v0
  rw [n_may20, Option.bind_some, n_RMay, Option.bind_some]
  cases hm : mayB e with
  | false => exact same 2
  | true =>
    have hkk := (may_iff hm).1
    have hkl := key_len hkk
    simp only [Bool.not_true, cond_false]
    rw [n_RFind_X h, Option.bind_some, if_pos hkk]
    have hf := n_find h hkk
    unfold EachR at hf
    unfold fnd fndOk
    revert hf
    cases (chn hs (buckN e.Key) 16384 (num hs (tb + buckN e.Key / 16) (4 * (buckN e.Key % 16)))).1.find? (fun y => y.2.Key == e.Key) with
    | none =>
      intro k1
      rw [k1, Option.bind_some]
      cases (chn hs (buckN e.Key) 16384 (num hs (tb + buckN e.Key / 16) (4 * (buckN e.Key % 16)))).2 with
      | false => exact same 11
      | true => exact same 35
    | some y =>
      rintro ⟨a, o, nx, k1, k2, _⟩
      obtain ⟨b, g1, g2, _⟩ := stp_some k2
      obtain ⟨_, _, _, _, _, _, hnx⟩ := ent_some g2
      have hyl := (List.getElem?_eq_some_iff.1 g1).1
      have hyi : idx hs (y.1 : Int) = some b := by
        rw [idx_nat hyl, ← List.getElem?_eq_getElem hyl, g1]
      obtain ⟨e', m', q1, q2⟩ := n_RRead (h.tn.row b (List.mem_of_getElem? g1))
      obtain ⟨rfl, rfl⟩ := q2 _ _ g2
      obtain ⟨H1, w1, w2, m, v, w3⟩ := n_TWrite h.tn hyl (x := nodeB e nx) (nodeB_len (by omega))
      refine ⟨0, H1, hs.set y.1 (nodeB e nx), _, ?_, ?_, h.set_mp w2 (by rw [w3]; rfl) (by rw [List.length_set]), by rw [List.length_set]⟩
      · rw [k1, Option.bind_some, bif_neg (by rfl), ptM_s, hix, Option.bind_some]
        show Option.bind (m_index_node_bytes ⟨e, (nx : Int)⟩) _ = _
        rw [n_node_bytes hm hnx, Option.bind_some]
        show Option.bind (m_wal_Txn_Write (some t) (y.1 : Int) (nodeB e nx) H) _ = _
        rw [w1]
        rfl
      · show Option.bind (idx hs (y.1 : Int)) _ = _
        rw [hyi, Option.bind_some, q1, Option.bind_some]
        show Option.bind (m_R20_Bytes e (nx : Int)) _ = _
        rw [n_RBytes hm hnx, Option.bind_some]
        rfl
theorem n_DropX (h : XIn H x t tb hs mp) (key : List UInt8) :
    ∃ a r H' hs' mp', m_index_Index_Drop (some x) key H = some (a, r, H') ∧ m_R20_Drop_v0 hs (tb : Int) key = some (a, r, hs') ∧ XIn H' x t tb hs' mp' ∧ hs'.length = hs.length := by
  have hl := h.tn.low
  have ht := h.tbl
  have same : ∀ r : Int, ∃ a' r' H' hs' mp', some ((0 : Int), r, H) = some (a', r', H') ∧ some ((0 : Int), r, hs) = some (a', r', hs') ∧ XIn H' x t tb hs' mp' ∧ hs'.length = hs.length := fun r => ⟨0, r, H, hs, mp, rfl, rfl, h, rfl⟩
  unfold m_index_Index_Drop m_R20_Drop_v0
  rw [n_RFind_X h, Option.bind_some]
  cases hkk : keyB key with
  | false =>
    rw [n_find_bad hkk]
    exact same 2
  | true =>
    have hkl := key_len hkk
    have hbk := buckN_lt key
    rw [if_pos rfl]
    have hf := n_find h hkk
    unfold EachR at hf
    unfold fnd fndOk
    revert hf
    cases (chn hs (buckN key) 16384 (num hs (tb + buckN key / 16) (4 * (buckN key % 16)))).1.find? (fun y => y.2.Key == key) with
    | none =>
      intro k1
      rw [k1, Option.bind_some]
      cases (chn hs (buckN key) 16384 (num hs (tb + buckN key / 16) (4 * (buckN key % 16)))).2 with
      | false => exact same 11
      | true => exact same 35
    | some y =>
      rintro ⟨a, o, nx, k1, k2, k3, k4, k5, k6, k7⟩
      obtain ⟨b, g1, g2, _⟩ := stp_some k2
      obtain ⟨_, _, _, _, _, _, hnx⟩ := ent_some g2
      have hyl := (List.getElem?_eq_some_iff.1 g1).1
      have hyi : idx hs (y.1 : Int) = some b := by
        rw [idx_nat hyl, ← List.getElem?_eq_getElem hyl, g1]
      obtain ⟨e', m', q1, q2⟩ := n_RRead (h.tn.row b (List.mem_of_getElem? g1))
      obtain ⟨rfl, rfl⟩ := q2 _ _ g2
      obtain ⟨H2, mp2, v1, v2⟩ := n_xname h k4 k5 hnx
      refine ⟨(y.1 : Int), 0, H2, _, mp2, ?_, ?_, v2, by rw [List.length_set]⟩
      · rw [k1, Option.bind_some, bif_neg (by rfl)]
        show Option.bind (m_index_Index_name (some x) ⟨(a : Int), (o : Int)⟩ (nx : Int) H) _ = _
        rw [v1]
        rfl
      · show Option.bind (idx hs (y.1 : Int)) _ = _
        rw [hyi, Option.bind_some, q1, Option.bind_some, n_RBucket (by omega), Option.bind_some]
        show Option.bind (m_R20_name_v0 hs (tb : Int) ((buckN key : Nat) : Int) (y.1 : Int) (nx : Int)) _ = _
        unfold m_R20_name_v0
        rw [(n_place (tb := tb) (by omega) hbk).1, (n_place (tb := tb) (by omega) hbk).2, k7 nx hnx 16400 (by omega), Option.bind_some, lenI_ok (by rw [List.length_set])]
        rfl
/-- Whether a home is an entry's is always told. -/
theorem n_used (h : XIn H x t 2 hs mp) (home : Int) : ∃ r, m_L20_used hs home = some r := by
  have hl2 : ∀ (kl : Int → Option Bool) (l : List Int) (q : Int) (z : Int) (hll : l.length ≤ 100000) (n i : Nat), i ≤ l.length → l.length - i < n → (∃ r, kl (wi (z + 1)) = some r) → ∃ r, m_L20_used_l2 kl (l, q) home z n (i : Int) = some r := by
    intro kl l q z hll n
    induction n with
    | zero => intro i _ h; omega
    | succ n ih =>
      intro i hi h hk
      unfold m_L20_used_l2
      by_cases hlt : i < l.length
      · show ∃ r, (bif decide ((i : Int) < (l.length : Int)) then _ else _) = some r
        rw [bif_pos (dec_t (by omega))]
        show ∃ r, Option.bind (idx l (i : Int)) _ = some r
        rw [idx_nat hlt, Option.bind_some]
        cases (l[i] == home) with
        | true => exact ⟨true, rfl⟩
        | false =>
          rw [bif_neg rfl, wi_succ (by omega)]
          exact ih (i + 1) (by omega) (by omega) hk
      · show ∃ r, (bif decide ((i : Int) < (l.length : Int)) then _ else _) = some r
        rw [bif_neg (dec_f (by omega))]
        exact hk
  have hl1 : ∀ (n i : Nat), i ≤ 64 → 64 - i < n → ∃ r, m_L20_used_l1 hs home n (i : Int) = some r := by
    intro n
    induction n with
    | zero => intro i _ h; omega
    | succ n ih =>
      intro i hi hn
      unfold m_L20_used_l1
      by_cases hlt : i < 64
      · rw [bif_pos (dec_t (by omega))]
        have hw := n_RWalk h.tn.row h.tn.low (t := 2) (bk := i) h.tbl hlt
        rw [show ((2 : Nat) : Int) = 2 from rfl] at hw
        rw [hw, Option.bind_some]
        have hcl := chn_len (hs := hs) (bk := i) 16384 (num hs (2 + i / 16) (4 * (i % 16)))
        exact hl2 _ _ _ (i : Int) (by rw [List.length_map]; omega) _ 0 (by omega) (by show _ - 0 < _; simp) (by
          rw [wi_succ (by omega)]
          exact ih (i + 1) (by omega) (by omega))
      · rw [bif_neg (dec_f (by omega))]
        exact ⟨false, rfl⟩
  exact hl1 65 0 (by omega) (by omega)
end
end Go.Proofs.Ytjomnccladjpgaa

/-
  Plain: IndexDoes is true.
-/
namespace Go.Proofs.Ytjomnccladjpgaa
open Go Go.RowKit
set_option linter.unusedVariables false
set_option linter.unusedSimpArgs false

theorem awake20 : (m_L20_awake Hp.e).map (·.1) = some true := by kernel_rfl
theorem n_awake20 : ∃ w1, m_L20_awake Hp.e = some (true, w1) := by
  have h := awake20
  cases hx : m_L20_awake Hp.e with
  | none => rw [hx] at h; cases h
  | some y =>
    obtain ⟨b, w1⟩ := y
    rw [hx] at h
    injection h with h
    exact ⟨w1, by rw [show b = true from h]⟩
/-! ### The homes, and the transaction that has them -/
theorem n_sectors_r_l1 (p : List (List UInt8)) (hp : p.length ≤ 1000000000) : ∀ (n i : Nat) (out : List (List UInt8)), i ≤ 20 → 20 - i < n → out.length = i → (∀ r ∈ out, r.length = 64) → ∃ l, m_L20_sectors_r_l1 p n (i : Int) out = some l ∧ l.length = 20 ∧ ∀ r ∈ l, r.length = 64
  | 0, i, out, _, h, _, _ => by omega
  | n + 1, i, out, hi, h, ho, hr => by
    unfold m_L20_sectors_r_l1
    by_cases hlt : i < 20
    · have go : ∀ y : List UInt8, y.length = 64 → ∃ l, m_L20_sectors_r_j2 (m_L20_sectors_r_l1 p n) out (i : Int) y = some l ∧ l.length = 20 ∧ ∀ r ∈ l, r.length = 64 := by
        intro y hy
        unfold m_L20_sectors_r_j2
        rw [appI_ok (by simp; omega), Option.bind_some, wi_succ (by omega)]
        exact n_sectors_r_l1 p hp n (i + 1) _ (by omega) (by omega) (by simp; omega) (fun r h => by
          rcases List.mem_append.1 h with h | h
          · exact hr r h
          · rw [List.mem_singleton.1 h]; exact hy)
      rw [bif_pos (dec_t (by omega)), show mkI 1 64 = some 64 from rfl, Option.bind_some]
      by_cases h1 : i < p.length
      · rw [bif_pos (dec_t (by omega)), idx_nat h1, Option.bind_some]
        by_cases h2 : p[i].length = 64
        · rw [bif_pos (ieq_t (by omega)), Option.bind_some]
          have ec : cpyI (List.replicate 64 (0 : UInt8)) 0 64 p[i] = some p[i] := by
            unfold cpyI
            rw [if_pos (by simp)]
            unfold cpyL
            rw [List.take_of_length_le (l := p[i]) (by omega), h2]
            simp
          rw [ec, Option.bind_some, lenI_ok (by simp [h2]), Option.bind_some]
          exact go _ h2
        · rw [bif_neg (ieq_f (by omega))]
          exact go _ (by simp)
      · rw [bif_neg (dec_f (by omega))]
        exact go _ (by simp)
    · rw [bif_neg (dec_f (by omega))]
      exact ⟨out, rfl, by omega, hr⟩
theorem n_Begun_l1 {t : Nat} {y : (Option Nat) × Int × Hp} (hy : y.1 = some t) (p : List (List UInt8)) (hpl : p.length ≤ 20) (hp : ∀ r ∈ p, r.length = 64) : ∀ (n i : Nat) (H : Hp) (hs : List (List UInt8)) (mp : List (Int × List UInt8)), i ≤ p.length → p.length - i < n → TIn H t hs mp → hs.length = 20 → (∀ k, k < i → hs[k]? = p[k]?) →
    ∃ H' hs' mp', m_L20_Begun_l1 p y n (i : Int) H = some (some t, H') ∧ TIn H' t hs' mp' ∧ hs'.length = 20 ∧ (∀ k, k < p.length → hs'[k]? = p[k]?) ∧ (∀ k, p.length ≤ k → hs'[k]? = hs[k]?)
  | 0, i, H, hs, mp, _, h, _, _, _ => by omega
  | n + 1, i, H, hs, mp, hi, h, hT, hl, hk => by
    unfold m_L20_Begun_l1
    by_cases hlt : i < p.length
    · obtain ⟨H1, w1, w2, m, v, w3⟩ := n_TWrite hT (k := i) (by omega) (x := p[i]) (hp _ (List.getElem_mem hlt))
      rw [bif_pos (dec_t (by omega)), idx_nat hlt, Option.bind_some, hy, w1, Option.bind_some, wi_succ (by omega)]
      obtain ⟨H', hs', mp', q1, q2, q3, q4, q5⟩ := n_Begun_l1 hy p hpl hp n (i + 1) H1 (hs.set i p[i]) _ (by omega) (by omega) w2 (by rw [List.length_set]; exact hl) (fun k hki => by
        by_cases e : k = i
        · subst e
          rw [List.getElem?_set_self (by omega), List.getElem?_eq_getElem hlt]
        · rw [List.getElem?_set_ne (by omega)]
          exact hk k (by omega))
      exact ⟨H', hs', mp', q1, q2, q3, q4, fun k hpk => by rw [q5 k hpk, List.getElem?_set_ne (by omega)]⟩
    · have e : i = p.length := by omega
      subst e
      rw [bif_neg (dec_f (by omega)), hy]
      exact ⟨H, hs, mp, rfl, hT, hl, hk, fun _ _ => rfl⟩
/-- Twenty homes that are noughts, or what is told first. -/
theorem n_Begun (p : List (List UInt8)) (hpl : p.length ≤ 20) (hp : ∀ r ∈ p, r.length = 64) (w1 : Hp) : ∃ t H' hs mp, m_L20_Begun p w1 = some (some t, H') ∧ TIn H' t hs mp ∧ hs.length = 20 ∧ (∀ k, k < p.length → hs[k]? = p[k]?) ∧ (∀ k, p.length ≤ k → k < 20 → hs[k]? = some Z64) ∧ (p = [] → mp = []) := by
  obtain ⟨H1, H2, H3, i, j, d, e1, e2, e3, e4, e5, e6⟩ := open_new w1 (n := 30) (s := 8) (by omega) (by omega) (by omega)
  obtain ⟨H4, b1, b2, b3⟩ := n_Begin e4.toLIn
  have hl : d.now.length = 30 := by rw [e6]; simp
  have hz : ∀ k, k < 20 → (d.now.drop (2 + 8))[k]? = some Z64 := fun k hk => by
    rw [List.getElem?_drop, e6, List.getElem?_set_ne (by omega), List.getElem?_set_ne (by omega), List.getElem?_replicate, if_pos (by omega)]
  unfold m_L20_Begun
  rw [show ((30 : Nat) : Int) = 30 from rfl] at e1
  rw [e1, Option.bind_some]
  show ∃ t H' hs mp, Option.bind (m_wal_Format (some i) ((8 : Nat) : Int) H1) _ = _ ∧ _
  rw [e2, Option.bind_some]
  show ∃ t H' hs mp, Option.bind (m_wal_Open (some i) H2) _ = _ ∧ _
  rw [e3, Option.bind_some]
  show ∃ t H' hs mp, Option.bind (m_wal_Log_Begin (some j) H3) _ = _ ∧ _
  rw [b1, Option.bind_some]
  by_cases hp0 : p = []
  · subst hp0
    exact ⟨H3.tx.length, H4, _, [], rfl, b2, by rw [List.length_drop, hl], fun k h => absurd h (Nat.not_lt_zero _), fun k _ h => hz k h, fun _ => rfl⟩
  · obtain ⟨H', hs', mp', q1, q2, q3, q4, q5⟩ := n_Begun_l1 (t := H3.tx.length) (y := (some H3.tx.length, 0, H4)) rfl p hpl hp (p.length + 1) 0 H4 _ [] (by omega) (by omega) b2 (by rw [List.length_drop, hl]) (fun k h => absurd h (Nat.not_lt_zero _))
    exact ⟨H3.tx.length, H', hs', mp', q1, q2, q3, q4, fun k h1 h2 => by rw [q5 k h1, hz k h2], fun e => absurd e hp0⟩
theorem n_At {H : Hp} {t tb : Nat} {hs : List (List UInt8)} {mp : List (Int × List UInt8)} (h : TIn H t hs mp) (ht : tb + 4 ≤ hs.length) : ∃ H', m_index_At (some t) (tb : Int) H = some (some H.ix.length, H') ∧ XIn H' H.ix.length t tb hs mp := by
  refine ⟨H.nw_ix ⟨some t, (tb : Int)⟩, rfl, h.tell rfl rfl rfl rfl rfl, ?_, ht⟩
  show (H.ix ++ [_])[H.ix.length]? = _
  exact List.getElem?_concat_length
theorem n_few20 (p : List S_L20_Do) (hp : p.length ≤ 9223372036854775807) : ∃ r, m_L20_few p = some r ∧ (r = true → p.length ≤ 30) := by
  have key : ∀ (n i : Nat), i ≤ p.length → p.length - i < n → ∃ r, m_L20_few_l2 p n (i : Int) = some r ∧ (r = true → p.length ≤ 30) := by
    intro n
    induction n with
    | zero => intro i _ h; omega
    | succ n ih =>
      intro i hi h
      unfold m_L20_few_l2
      by_cases hlt : i < p.length
      · rw [bif_pos (dec_t (by omega)), idx_nat hlt, Option.bind_some]
        cases decide ((p[i].E.Key.length : Int) > 100) with
        | true => exact ⟨false, rfl, fun h => Bool.noConfusion h⟩
        | false =>
          rw [bif_neg rfl, wi_succ (by omega)]
          exact ih (i + 1) (by omega) (by omega)
      · rw [bif_neg (dec_f (by omega))]
        exact ⟨_, rfl, fun h => by
          have := of_decide_eq_true h
          omega⟩
  exact key _ 0 (by omega) (by omega)

/-! ### The play -/
theorem n_does_l2 {H : Hp} {t : Nat} {hs : List (List UInt8)} {mp : List (Int × List UInt8)} (h : TIn H t hs mp) {y : (Option Nat) × Hp} (hy : y.1 = some t) : ∀ (n i : Nat), i ≤ hs.length → hs.length - i < n → m_L20_IndexDoes_l2 hs y H n (i : Int) = some (true, H)
  | 0, i, _, hn => by omega
  | n + 1, i, hi, hn => by
    have := h.low
    unfold m_L20_IndexDoes_l2
    by_cases hlt : i < hs.length
    · have hb : hs[i]? = some hs[i] := List.getElem?_eq_getElem hlt
      have h64 := h.wide hb
      rw [bif_pos (dec_t (by omega)), hy, n_TRead h hb, Option.bind_some, bif_neg (by rfl), idx_nat hlt, Option.bind_some, n_R01_Same _ _ (by show hs[i].length < _; omega), Option.bind_some, beq_self_eq_true, bif_neg (by rfl), wi_succ (by omega)]
      exact n_does_l2 h hy n (i + 1) (by omega) (by omega)
    · rw [bif_neg (dec_f (by omega))]
theorem n_does_l3 (p : List S_L20_Do) (hp : p.length ≤ 30) {x t : Nat} {y z : (Option Nat) × Hp} (hy : y.1 = some x) (hz : z.1 = some t) : ∀ (n i : Nat) (H : Hp) (hs : List (List UInt8)) (mp : List (Int × List UInt8)), i ≤ p.length → p.length - i < n → XIn H x t 2 hs mp →
    ∃ H', m_L20_IndexDoes_l3 p y z n (i : Int) hs H = some (true, H')
  | 0, i, H, hs, mp, _, hn, _ => by omega
  | n + 1, i, H, hs, mp, hi, hn, h => by
    have hl := h.tn.low
    unfold m_L20_IndexDoes_l3
    by_cases hlt : i < p.length
    · rw [bif_pos (dec_t (by omega)), idx_nat hlt, Option.bind_some, wi_succ (by omega)]
      have go := fun H hs mp (h : XIn H x t 2 hs mp) => n_does_l3 p hp hy hz n (i + 1) H hs mp (by omega) (by omega) h
      by_cases k1 : p[i].Kind = 1
      · rw [bif_pos (ieq_t k1)]
        by_cases g1 : p[i].Home < 0
        · rw [bif_pos (dec_t g1)]
          exact go H hs mp h
        · rw [bif_neg (dec_f g1)]
          by_cases g2 : p[i].Home ≥ (hs.length : Int)
          · rw [bif_pos (dec_t g2)]
            exact go H hs mp h
          · rw [bif_neg (dec_f g2)]
            obtain ⟨u, hu⟩ := n_used h p[i].Home
            rw [hu, Option.bind_some]
            cases u with
            | true => exact go H hs mp h
            | false =>
              obtain ⟨r, H', hs', mp', q1, q2, q3, q4⟩ := n_PutX h (home := p[i].Home) (by omega) (by omega) p[i].E
              rw [bif_neg rfl, hy, ptM_s, q1, Option.bind_some]
              show ∃ H', Option.bind (m_R20_Put_v0 hs ((2 : Nat) : Int) p[i].Home p[i].E) _ = _
              rw [q2, Option.bind_some, lenI_ok q4, Option.bind_some, bif_neg (ine_f rfl)]
              exact go H' hs' mp' q3
      · rw [bif_neg (ieq_f k1)]
        by_cases k2 : p[i].Kind = 2
        · rw [bif_pos (ieq_t k2)]
          obtain ⟨r, H', hs', mp', q1, q2, q3, q4⟩ := n_SetX h p[i].E
          rw [hy, ptM_s, q1, Option.bind_some]
          show ∃ H', Option.bind (m_R20_Set_v0 hs ((2 : Nat) : Int) p[i].E) _ = _
          rw [q2, Option.bind_some, lenI_ok q4, Option.bind_some, bif_neg (ine_f rfl)]
          exact go H' hs' mp' q3
        · rw [bif_neg (ieq_f k2)]
          by_cases k3 : p[i].Kind = 3
          · rw [bif_pos (ieq_t k3)]
            obtain ⟨a, r, H', hs', mp', q1, q2, q3, q4⟩ := n_DropX h p[i].E.Key
            rw [hy, q1, Option.bind_some]
            show ∃ H', Option.bind (m_R20_Drop_v0 hs ((2 : Nat) : Int) p[i].E.Key) _ = _
            rw [q2, Option.bind_some, lenI_ok q4, Option.bind_some, bif_neg (ine_f rfl), bif_neg (ine_f rfl)]
            exact go H' hs' mp' q3
          · rw [bif_neg (ieq_f k3)]
            obtain ⟨E, a, e, q1, q2⟩ := n_FindX h p[i].E.Key
            rw [hy, q1, Option.bind_some]
            show ∃ H', Option.bind (m_R20_Find hs ((2 : Nat) : Int) p[i].E.Key) _ = _
            rw [q2, Option.bind_some, bif_neg (ine_f rfl), bif_neg (ine_f rfl)]
            exact go H hs mp h
    · rw [bif_neg (dec_f (by omega))]
      unfold m_L20_IndexDoes_j1
      exact ⟨H, n_does_l2 h.tn hz _ 0 (by omega) (by omega)⟩
theorem n_IndexDoes (p : List S_L20_Do) (hp : p.length ≤ 9223372036854775807) : ∃ w', m_L20_IndexDoes p Hp.e = some (true, w') := by
  obtain ⟨w1, ha⟩ := n_awake20
  unfold m_L20_IndexDoes
  rw [ha, Option.bind_some, bif_neg (by rfl)]
  obtain ⟨r, hf, hr⟩ := n_few20 p hp
  rw [hf, Option.bind_some]
  cases r with
  | false => exact ⟨w1, rfl⟩
  | true =>
    rw [bif_neg (by rfl)]
    obtain ⟨l, s1, s2, s3⟩ := n_sectors_r_l1 [] (by simp) 21 0 [] (by omega) (by omega) rfl (fun r h => absurd h List.not_mem_nil)
    have hs : m_L20_sectors_r [] = some l := s1
    rw [hs, Option.bind_some]
    have hne : l.isEmpty = false := by cases l with | nil => simp at s2 | cons _ _ => rfl
    rw [hne, bif_neg rfl]
    obtain ⟨t, H', hs', mp, b1, b2, b3, b4, b5, b6⟩ := n_Begun l (by omega) s3 w1
    have hl : hs' = l := List.ext_getElem? fun k => by
      by_cases hk : k < l.length
      · exact b4 k hk
      · rw [List.getElem?_eq_none (by omega), List.getElem?_eq_none (by omega)]
    subst hl
    rw [b1, Option.bind_some]
    obtain ⟨H2, a1, a2⟩ := n_At b2 (tb := 2) (by omega)
    show ∃ w', Option.bind (m_index_At (some t) ((2 : Nat) : Int) H') _ = _
    rw [a1, Option.bind_some]
    exact n_does_l3 p (hr rfl) (x := H'.ix.length) (t := t) rfl rfl (p.length + 1) 0 H2 hs' mp (by omega) (by omega) a2
end Go.Proofs.Ytjomnccladjpgaa

/-
  IndexDoes' contract: it starts with no heap, and returns true.
-/
namespace Go.Proofs.Ytjomnccladjpgaa
open Go Go.RowKit
set_option linter.unusedVariables false
theorem law20 (p : List S_L20_Do) (hp : p.length ≤ 9223372036854775807) : FC Try.prog 8 [.t (.d (.seq 6 (List.map cS_L20_Do p)))] [] (.t (.d (.lit (.bool true)))) := by
  obtain ⟨w', h⟩ := n_IndexDoes p hp
  exact fc_of_h (fch_L20_IndexDoes p Hp.e (true, w') h) (fun c => hpA_e c) rfl (by show 1 ≤ OB; decide)
end Go.Proofs.Ytjomnccladjpgaa

/-
  What came in: from the reading of the arguments to data.
-/
namespace Go.Proofs.Ytjomnccladjpgaa
open Go Go.RowKit Go.ChangeShapes Go.WideShapes Go.ChangeAt
set_option linter.unusedVariables false
set_option maxRecDepth 20000

/-- All that a world's cells hold. -/
def memW (w : World) : Mem := fun b p => w.cell? ⟨b, p, none⟩
theorem memW_sat (w : World) : ∀ b p u, memW w b p = some u → w.cell? ⟨b, p, none⟩ = some u := fun _ _ _ h => h

/-- What a type's cells are, as data. -/
def OpT {H : Type} (enc : TypeId × Value → H) (w : World) {α : Type} (t : TypeId) (c : α → List D) (ok : α → Prop) : Prop :=
  ∀ (base : Nat) (spare : Nat → Bool) (held : Bool) (fuel : Nat) (cs : List Value) (x : DataW H × List MemPlace), DataW.trod enc Try.prog w base spare held fuel t cs = some x → ∃ v : α, RepL (memW w) (c v) cs ∧ ok v
/-- .. read with less than so much fuel. -/
def OpF {H : Type} (enc : TypeId × Value → H) (w : World) {α : Type} (m : Nat) (t : TypeId) (c : α → List D) (ok : α → Prop) : Prop :=
  ∀ (base : Nat) (spare : Nat → Bool) (held : Bool) (fuel : Nat) (cs : List Value) (x : DataW H × List MemPlace), fuel < m → DataW.trod enc Try.prog w base spare held fuel t cs = some x → ∃ v : α, RepL (memW w) (c v) cs ∧ ok v
theorem OpT.lt {H : Type} {enc : TypeId × Value → H} {w : World} {α : Type} {t : TypeId} {c : α → List D} {ok : α → Prop} (h : OpT enc w t c ok) (m : Nat) : OpF enc w m t c ok := fun b s l f cs x _ k => h b s l f cs x k
theorem OpT.of {H : Type} {enc : TypeId × Value → H} {w : World} {α : Type} {t : TypeId} {c : α → List D} {ok : α → Prop} (h : ∀ m, OpF enc w m t c ok) : OpT enc w t c ok := fun b s l f cs x k => h (f + 1) b s l f cs x (Nat.lt_succ_self f) k

def okInt (k : IntKind) (n : Int) : Prop := (Lit.int k n).wf = true
def okLen {α : Type} (l : List α) : Prop := l.length ≤ 9223372036854775807
def okList {α : Type} (ok : α → Prop) (l : List α) : Prop := l.length ≤ 9223372036854775807 ∧ ∀ x ∈ l, ok x

theorem repl_one {m : Mem} {d : D} {u : Value} (h : RepD m d u) : RepL m [d] [u] := by
  refine ⟨rfl, fun j e hj => ?_⟩
  match j, hj with
  | 0, hj => injection hj with hj; subst hj; exact ⟨u, rfl, h⟩
  | j + 1, hj => simp at hj
theorem repl_cons {m : Mem} {l1 l2 : List D} {cs : List Value} {o k : Nat} (h1 : RepL m l1 ((cs.drop o).take k)) (h2 : RepL m l2 (cs.drop (o + k))) : RepL m (l1 ++ l2) (cs.drop o) := by
  have e : cs.drop o = (cs.drop o).take k ++ cs.drop (o + k) := by rw [← List.drop_drop, List.take_append_drop]
  rw [e]
  refine ⟨by rw [List.length_append, List.length_append, h1.1, h2.1], fun j d hj => ?_⟩
  rcases Nat.lt_or_ge j l1.length with hl | hl
  · rw [List.getElem?_append_left hl] at hj
    obtain ⟨u, a, b⟩ := h1.2 j d hj
    exact ⟨u, by rw [List.getElem?_append_left (by rw [h1.1]; exact hl)]; exact a, b⟩
  · rw [List.getElem?_append_right hl] at hj
    obtain ⟨u, a, b⟩ := h2.2 _ d hj
    exact ⟨u, by rw [List.getElem?_append_right (by rw [h1.1]; exact hl), h1.1]; exact a, b⟩
theorem repl_nil {m : Mem} {cs : List Value} {n : Nat} (h : cs.length = n) : RepL m [] (cs.drop n) := by
  rw [List.drop_of_length_le (by omega)]
  exact ⟨rfl, fun j d hj => by simp at hj⟩

section
variable {H : Type} {enc : TypeId × Value → H} {w : World}
theorem op_int {t : TypeId} {k : IntKind} (ht : Try.prog.underlying t = some (.int k)) : OpT enc w t (cInt k) (okInt k) := fun b s l f cs x h => by
  obtain ⟨n, rfl, _, hw⟩ := DataW.trod_int ht h
  exact ⟨n, repl_one (.lit _ rfl), hw⟩
theorem op_str {t : TypeId} (ht : Try.prog.underlying t = some .string) : OpT enc w t cStr okLen := fun b s l f cs x h => by
  obtain ⟨n, rfl, _, hs⟩ := DataW.trod_string ht h
  refine ⟨n.data.toList, repl_one ?_, ?_⟩
  · obtain ⟨⟨y⟩⟩ := n
    exact .lit _ rfl
  · unfold maxLen at hs
    show n.data.toList.length ≤ _
    have : n.data.toList.length = n.size := by simp
    omega
theorem some_list {α : Type} (P : Nat → α → Prop) : ∀ n : Nat, (∀ i, i < n → ∃ x, P i x) → ∃ l : List α, l.length = n ∧ ∀ i (h : i < l.length), P i l[i]
  | 0, _ => ⟨[], rfl, fun i h => absurd h (by simp)⟩
  | n + 1, h => by
    obtain ⟨l, hl, hp⟩ := some_list P n fun i hi => h i (by omega)
    obtain ⟨x, hx⟩ := h n (by omega)
    refine ⟨l ++ [x], by simp [hl], fun i hi => ?_⟩
    by_cases h1 : i < l.length
    · rw [List.getElem_append_left h1]; exact hp i h1
    · have : i = n := by simp at hi; omega
      subst this
      rw [List.getElem_append_right (by omega)]
      simpa [hl] using hx
theorem op_sliceF {α : Type} {t te : TypeId} {k m : Nat} {c : α → List D} {ok : α → Prop} (ht : Try.prog.underlying t = some (.slice te)) (hk : Try.prog.cellsOf te = k) (hk0 : 0 < k) (he : OpF enc w m te c ok) : OpF enc w (m + 1) t (cSl k c) (okList ok) := fun b s l f cs x hf h => by
  rcases DataW.trod_slice ht h with ⟨rfl, _⟩ | ⟨a, len, cap, elems, rest, n, hn, rfl, _, hba, hlc, hcm, hel, hev, _⟩
  · exact ⟨[], repl_one (RepD.nilSeq _ _), by simp, fun x hx => by cases hx⟩
  · have get : ∀ i, i < len → ∃ v : α, (∃ cs' : List Value, cs'.length = k ∧ (∀ j u, cs'[j]? = some u → w.cell? ((a.add (i * k)).add j) = some u) ∧ RepL (memW w) (c v) cs') ∧ ok v := by
      intro i hi
      have h1 := hev i hi
      obtain ⟨y, hy⟩ : ∃ y, elems[i]? = some y := ⟨elems[i], List.getElem?_eq_getElem (by omega)⟩
      rw [hy, hk] at h1
      obtain ⟨cs', hcs', ht'⟩ := Option.bind_eq_some_iff.1 h1
      obtain ⟨hc1, hc2, hc3⟩ := World.cells?_some hcs'
      obtain ⟨v, hrep, hok⟩ := he _ _ _ n cs' y (by omega) ht'
      refine ⟨v, ⟨cs', hc2, fun j u hu => ?_, hrep⟩, hok⟩
      have hjl : j < cs'.length := (List.getElem?_eq_some_iff.1 hu).1
      have hg := hc3 j (by omega)
      rw [hg, ← hu]
    by_cases h0 : len = 0
    · subst h0
      exact ⟨[], repl_one (.seq k [] _ cap 0 0 (fun _ _ => undef) (by simp) hcm (fun h => absurd rfl h) (fun i r h => by simp at h) (fun i r j d h => by simp at h) (fun i r j d h => by simp at h)), by simp, fun x hx => by cases hx⟩
    · have hs : a.spot = none := by
        obtain ⟨v, ⟨cs', hl4, hcell, _⟩, _⟩ := get 0 (by omega)
        have := World.cell?_spot (hcell 0 _ (List.getElem?_eq_getElem (by omega)))
        simpa [Addr.add] using this
      obtain ⟨g, o, sp⟩ := a
      simp only at hs
      subst hs
      obtain ⟨l, hll, hlp⟩ := some_list _ len get
      refine ⟨l, repl_one ?_, by unfold maxLen at hcm; omega, fun x hx => ?_⟩
      · have := RepD.seq (m := memW w) k (l.map c) (some ⟨g, o, none⟩) cap g o (fun i j => (memW w g (o + i * k + j)).getD undef) (by simp; omega) hcm (fun _ => rfl) (fun i r hi => ?_) (fun i r j d hi hj => ?_) (fun i r j d hi hj => ?_)
        · rwa [List.length_map, hll] at this
        all_goals
          rw [List.getElem?_map] at hi
          have hlt : i < l.length := by
            rcases Nat.lt_or_ge i l.length with g | g
            · exact g
            · rw [List.getElem?_eq_none g] at hi; cases hi
          rw [List.getElem?_eq_getElem hlt] at hi
          injection hi with hi
          subst hi
          obtain ⟨⟨cs', h1, h2, h3⟩, _⟩ := hlp i hlt
        · have := h3.1
          omega
        all_goals
          obtain ⟨u, k1, k2⟩ := h3.2 j d hj
          have k3 := h2 j u k1
          rw [Addr.add_mid, Addr.add_mid] at k3
          have k4 : memW w g (o + i * k + j) = some u := k3
          rw [k4]
        · rfl
        · exact k2
      · obtain ⟨i, hi, rfl⟩ := List.getElem_of_mem hx
        exact (hlp i hi).2
theorem op_slice {α : Type} {t te : TypeId} {k : Nat} {c : α → List D} {ok : α → Prop} (ht : Try.prog.underlying t = some (.slice te)) (hk : Try.prog.cellsOf te = k) (hk0 : 0 < k) (he : OpT enc w te c ok) : OpT enc w t (cSl k c) (okList ok) :=
  fun b s l f cs x h => op_sliceF ht hk hk0 (he.lt f) b s l f cs x (Nat.lt_succ_self f) h
end
/-- A law that returns true, called with what came in. -/
theorem fc_law {f : FuncId} {args : List A} (h : FC Try.prog f args [] (.t (.d (.lit (.bool true))))) {w : World} {vals : Array Value} (hs : vals.size = args.length) (hsat : ∀ b p u, memW w b p = some u → w.cell? ⟨b, p, none⟩ = some u) (hr : ∀ s, RepA (memW w) w (fun _ => none) (argS args) s (argS args s) (vals.getD s undef)) (htbl : Mle TBL (memW w) := by intro b p u h; simp [TBL, TBLS] at h) :
    Calls Try.prog f vals w fun e w' => e = .returned (.bool true) ∧ Below w.heap.size w w' := by
  refine (h w (memW w) (fun _ => none) vals hsat htbl (fun _ _ h => by cases h) (fun _ _ _ h => by cases h) hs hr).mono ?_
  rintro e w' ⟨u, m', o', S', a', ρ, rfl, J, hu, _⟩
  have hS : Same (fun _ => False) w w' := J.same.weaken fun g h => h rfl
  have hu : RepD m' (.lit (.bool true)) u := hu
  cases hu
  exact ⟨rfl, hS.below⟩
theorem repl_head {m : Mem} {d : D} {cs : List Value} (h : RepL m [d] cs) : ∃ u, cs = [u] ∧ RepD m d u := by
  match cs, h.1 with
  | [u], _ =>
    obtain ⟨v, h1, h2⟩ := h.2 0 d rfl
    injection h1 with h1
    subst h1
    exact ⟨_, rfl, h2⟩
end Go.Proofs.Ytjomnccladjpgaa
