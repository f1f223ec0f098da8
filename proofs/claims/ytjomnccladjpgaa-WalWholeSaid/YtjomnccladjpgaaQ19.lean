/-
  Texts joined: see the remark at the head of each part.
-/
import Derived.Test.YtjomnccladjpgaaQ18
set_option linter.unusedVariables false
set_option linter.unusedSimpArgs false
/-
  Plain: torn slots.
-/
namespace Go.Proofs.Ytjomnccladjpgaa
open Go Go.RowKit
set_option linter.unusedVariables false
set_option linter.unusedSimpArgs false

/-- A slot's row that tells no base. -/
def Unread (o : List UInt8) : Prop := o = Z64 ∨ o.take 8 ≠ o.drop 56
/-- A slot's row beside a slot with base b: of a smaller base, or it tells none. -/
structure Older (b s : Nat) (o : List UInt8) : Prop where
  len : o.length = 64
  top : o.take 7 = List.replicate 7 0
  last : lastB o < b
  old : (∃ c, 1 ≤ c ∧ c < b ∧ o = slotB c s) ∨ Unread o
theorem be8_small {n : Nat} (h : n < 256) : be 8 n = List.replicate 7 0 ++ [UInt8.ofNat n] := by
  have e : be 8 n = be 7 (n / 256) ++ [UInt8.ofNat (n % 256)] := by simp only [be, le, List.reverse_cons]
  rw [e, Nat.div_eq_of_lt h, Nat.mod_eq_of_lt h]
  congr 1
theorem slot_top {b s : Nat} (h : b < 256) : (slotB b s).take 7 = List.replicate 7 0 := by
  unfold slotB
  rw [be8_small h, List.append_assoc, List.take_left' (by simp)]
theorem slot_head (b s : Nat) : (slotB b s).take 8 = be 8 b := by
  unfold slotB
  rw [List.take_left' (be_length 8 b)]
theorem slot_end (b s : Nat) : (slotB b s).drop 56 = be 8 b := by
  unfold slotB
  rw [show be 8 b ++ (be 4 s ++ (List.replicate 44 (0 : UInt8) ++ be 8 b)) = (be 8 b ++ (be 4 s ++ List.replicate 44 (0 : UInt8))) ++ be 8 b by simp only [List.append_assoc], List.drop_left' (by simp [be_length])]
theorem last_drop (o : List UInt8) : lastB o = ((o.drop 56).getD 7 0).toNat := by
  unfold lastB
  rw [List.getD_eq_getElem?_getD, List.getD_eq_getElem?_getD, List.getElem?_drop]
theorem slot_last {b s : Nat} (h : b < 256) : lastB (slotB b s) = b := by
  rw [last_drop, slot_end]
  exact be_last h
/-- A torn slot's row: as it was, or wholly new, or it tells none. -/
theorem slot_torn {b s m : Nat} {o : List UInt8} {c : Nat} (h : Older b s o) (hm : b ≤ m) (hm2 : m < 256) (hm0 : 0 < m) (hc : c ≤ 64) : over o (slotB m s) c = slotB m s ∨ Older b s (over o (slotB m s) c) := by
  by_cases h64 : c = 64
  · left
    subst h64
    unfold over
    rw [List.take_of_length_le (by rw [slotB_len]; omega), List.drop_of_length_le (by rw [h.len]; omega), List.append_nil]
  · right
    by_cases h7 : c ≤ 7
    · have e : over o (slotB m s) c = o := by
        unfold over
        have e1 : (slotB m s).take c = o.take c := by
          have a1 := congrArg (List.take c) (slot_top (s := s) hm2)
          have a2 := congrArg (List.take c) h.top
          rw [List.take_take, Nat.min_eq_left h7] at a1 a2
          rw [a1, a2]
        rw [e1, List.take_append_drop]
      rw [e]
      exact h
    · have hl : (over o (slotB m s) c).length = 64 := over_len h.len (slotB_len m s)
      have hlast : lastB (over o (slotB m s) c) = lastB o := by
        rcases over_last (c := c) h.len (slotB_len m s) hc with e | e
        · exfalso
          have e1 : lastB (over o (slotB m s) c) = lastB o := by
            unfold lastB over
            rw [List.getD_eq_getElem?_getD, List.getElem?_append_right (by rw [List.length_take, slotB_len]; omega), List.length_take, slotB_len, List.getElem?_drop, List.getD_eq_getElem?_getD, show c + (63 - min c 64) = 63 by omega]
          rw [e, slot_last hm2] at e1
          have := h.last
          omega
        · exact e
      have hhead : (over o (slotB m s) c).take 8 = be 8 m := by
        unfold over
        rw [List.take_append, List.take_take, Nat.min_eq_left (by omega), slot_head, List.length_take, slotB_len, show 8 - min c 64 = 0 by omega, List.take_zero, List.append_nil]
      refine ⟨hl, ?_, by rw [hlast]; exact h.last, .inr (.inr fun e => ?_)⟩
      · have := congrArg (List.take 7) hhead
        rw [List.take_take, Nat.min_eq_left (by omega)] at this
        rw [this, be8_small hm2, List.take_left' (by simp)]
      · have h1 := last_drop (over o (slotB m s) c)
        rw [← e, hhead, be_last hm2, hlast] at h1
        have := h.last
        omega
theorem Older.mono {b m s : Nat} {o : List UInt8} (h : Older b s o) (hm : b ≤ m) : Older m s o :=
  ⟨h.len, h.top, Nat.lt_of_lt_of_le h.last hm, h.old.imp (fun ⟨c, h1, h2, h3⟩ => ⟨c, h1, by omega, h3⟩) id⟩
theorem older_slot {b m s : Nat} (h1 : 1 ≤ b) (hm : b < m) (hb : b < 256) : Older m s (slotB b s) :=
  ⟨slotB_len b s, slot_top hb, by rw [slot_last hb]; exact hm, .inl ⟨b, h1, hm, rfl⟩⟩
theorem older_z {m s : Nat} (hm : 0 < m) : Older m s Z64 := ⟨by simp, rfl, by show 0 < m; exact hm, .inr (.inl rfl)⟩
section
variable {H : Hp} {i : Nat} {d : Dsk} {s : Nat}
theorem n_readUn {k : Nat} {r : List UInt8} (h : DIn H i d) (ho : d.off = false) (hr : d.now[k]? = some r) (hu : Unread r) : ∃ u v, m_wal_readSlot (some i) (k : Int) H = some (u, v, false) := by
  rcases hu with rfl | hu
  · exact ⟨0, 0, n_readZero h ho hr⟩
  · have hl := h.row hr
    refine ⟨0, 0, ?_⟩
    unfold m_wal_readSlot
    rw [n_Read h ho hr, Option.bind_some, bif_neg (by rfl)]
    have e1 : cutI r 0 8 = some (r.take 8) := cutI_take (n := 8) (by omega)
    have e2 : cutI r 56 (r.length : Int) = some (r.drop 56) := cutI_drop (n := 56) (by omega)
    have e3 : cutI r 8 12 = some ((r.drop 8).take 4) := cutI_mid (l := r) (lo := 8) (n := 4) (by omega) 12 rfl
    have l1 : (r.take 8).length = 8 := by rw [List.length_take]; omega
    have l2 : (r.drop 56).length = 8 := by rw [List.length_drop]; omega
    show Option.bind (cutI r 0 8) _ = _
    rw [e1, Option.bind_some, n_Get, Option.bind_some]
    show Option.bind (cutI r 56 (r.length : Int)) _ = _
    rw [e2, Option.bind_some, n_Get, Option.bind_some]
    show Option.bind (cutI r 8 12) _ = _
    rw [e3, Option.bind_some, n_Get, Option.bind_some]
    show (bif (getE (r.take 8) != 0) then _ else bif (getE (r.drop 56) != 0) then _ else bif (getE ((r.drop 8).take 4) != 0) then _ else bif (getN (r.take 8) != getN (r.drop 56)) then _ else _) = _
    by_cases c1 : getE (r.take 8) = 0
    · by_cases c2 : getE (r.drop 56) = 0
      · have n1 : getN (r.take 8) = ofBE (r.take 8) := by
          unfold getE at c1
          unfold getN
          rw [l1] at c1 ⊢
          by_cases hb : 4611686018427387904 < ofBE (r.take 8)
          · rw [if_neg (by omega), if_neg (by omega), if_pos hb] at c1
            exact absurd c1 (by omega)
          · rw [if_neg (by omega)]
        have n2 : getN (r.drop 56) = ofBE (r.drop 56) := by
          unfold getE at c2
          unfold getN
          rw [l2] at c2 ⊢
          by_cases hb : 4611686018427387904 < ofBE (r.drop 56)
          · rw [if_neg (by omega), if_neg (by omega), if_pos hb] at c2
            exact absurd c2 (by omega)
          · rw [if_neg (by omega)]
        have hne : getN (r.take 8) ≠ getN (r.drop 56) := by
          rw [n1, n2]
          intro e
          have e' : ofBE (r.take 8) = ofBE (r.drop 56) := by omega
          apply hu
          rw [← be_ofBE 8 _ l1, ← be_ofBE 8 _ l2, e']
        rw [bif_neg (ine_f c1), bif_neg (ine_f c2)]
        by_cases c3 : getE ((r.drop 8).take 4) = 0
        · rw [bif_neg (ine_f c3), bif_pos (ine_t hne)]
        · rw [bif_pos (ine_t c3)]
      · rw [bif_neg (ine_f c1), bif_pos (ine_t c2)]
    · rw [bif_pos (ine_t c1)]
/-- Opening finds the slot with the greatest base. -/
theorem n_Open_find {n b sl : Nat} {o : List UInt8} (h : DIn H i d) (ho : d.off = false) (hl : d.now.length = n) (hn : n ≤ 16384) (hs : 3 ≤ s) (h2 : 2 + s < n) (hb : 1 ≤ b) (hb2 : b + s ≤ 2305843009213693952) (hsl : sl ≤ 1) (h0 : d.now[sl]? = some (slotB b s)) (h1 : d.now[1 - sl]? = some o) (hold : Older b s o) :
    ∃ K, m_wal_Open (some i) H = m_wal_Open_j4 H K ∧ LIn K i H.lg.length d s b sl 0 0 := by
  unfold m_wal_Open
  rw [n_Size h (by omega), Option.bind_some, bif_neg (ieq_f (by omega)), n_Off h (by omega), Option.bind_some, ho, bif_neg (by rfl)]
  show ∃ K, Option.bind (m_disk_Disk_Lives (some i) H) _ = _ ∧ _
  rw [n_Lives h (by omega), Option.bind_some]
  have hK0 : DIn (H.nw_lg ⟨some i, 0, 0, 0, 0, d.lives, 0⟩) i d := h.lg rfl rfl
  have hx0 : (H.nw_lg ⟨some i, 0, 0, 0, 0, d.lives, 0⟩).lg[H.lg.length]? = some ⟨some i, 0, 0, 0, 0, d.lives, 0⟩ := by
    show (H.lg ++ [_])[H.lg.length]? = _
    simp
  show ∃ K, m_wal_Open_l5 i H (2 + 1) ((0 : Nat) : Int) (H.nw_lg ⟨some i, 0, 0, 0, 0, d.lives, 0⟩) = _ ∧ _
  have fin : ∀ K, m_wal_Open_l5 i H (0 + 1) ((1 + 1 : Nat) : Int) K = m_wal_Open_j4 H K := fun K => by
    show m_wal_Open_l5 i H (0 + 1) 2 K = _
    rw [m_wal_Open_l5, bif_neg (by decide)]
  match sl, hsl, h0, h1 with
  | 0, _, h0, h1 =>
    obtain ⟨K1, g1, g2, g3⟩ := n_Open_take (H0 := H) (n := 2) (z := 0) hK0 hx0 (by omega) (n_readSlot hK0 ho hl hn hs h2 hb (by omega) h0) (by show (0 : Int) < (b : Int); omega)
    rw [g1]
    refine ⟨K1, ?_, ⟨g3, ho, g2, hs, by omega, by omega, hb2⟩⟩
    rcases hold.old with ⟨c, c1, c2, rfl⟩ | hu
    · have hr := n_readSlot g3 ho hl hn hs h2 c1 (by omega) h1
      rw [show (0 + 1 : Nat) = 1 from rfl, m_wal_Open_l5, bif_pos (dec_t (by omega)), hr, Option.bind_some, bif_pos (by rfl)]
      show Option.bind (K1.lg[H.lg.length]?) _ = _
      rw [g2, Option.bind_some, dec_f (show ¬ (c : Int) > (b : Int) by omega)]
      unfold m_wal_Open_j6
      rw [bif_neg (by rfl), wi_succ (by omega)]
      exact fin K1
    · obtain ⟨u, v, hr⟩ := n_readUn g3 ho h1 hu
      rw [n_Open_skip (z := 0 + 1) (by omega) hr]
      exact fin K1
  | 1, _, h0, h1 =>
    have h1' : d.now[0]? = some o := h1
    rcases hold.old with ⟨c, c1, c2, rfl⟩ | hu
    · obtain ⟨K1, g1, g2, g3⟩ := n_Open_take (H0 := H) (n := 2) (z := 0) hK0 hx0 (by omega) (n_readSlot hK0 ho hl hn hs h2 c1 (by omega) h1') (by show (0 : Int) < (c : Int); omega)
      obtain ⟨K2, k1, k2, k3⟩ := n_Open_take (H0 := H) (n := 1) (z := 0 + 1) g3 g2 (by omega) (n_readSlot g3 ho hl hn hs h2 hb (by omega) h0) (by show (c : Int) < (b : Int); omega)
      rw [g1, k1]
      exact ⟨K2, fin K2, ⟨k3, ho, k2, hs, by omega, by omega, hb2⟩⟩
    · obtain ⟨u, v, hr⟩ := n_readUn hK0 ho h1' hu
      rw [n_Open_skip (z := 0) (by omega) hr]
      obtain ⟨K2, k1, k2, k3⟩ := n_Open_take (H0 := H) (n := 1) (z := 0 + 1) hK0 hx0 (by omega) (n_readSlot hK0 ho hl hn hs h2 hb (by omega) h0) (by show (0 : Int) < (b : Int); omega)
      rw [k1]
      exact ⟨K2, fin K2, ⟨k3, ho, k2, hs, by omega, by omega, hb2⟩⟩
end
end Go.Proofs.Ytjomnccladjpgaa

/-
  Plain: what a log does on a disk whose fuse burns: it answers 30 where power went, and what then waits is told.
-/
namespace Go.Proofs.Ytjomnccladjpgaa
open Go Go.RowKit
set_option linter.unusedVariables false
set_option linter.unusedSimpArgs false

section
variable {H : Hp} {i j : Nat} {d : Dsk} {s base slot used : Nat} {com : Int}
theorem LIn.wrF (h : LIn H i j d s base slot used com) (hf : d.fuse < 1000000) {k : Nat} (hk : k < d.now.length) {x : List UInt8} (hx : x.length = 64) (hw : d.wait.length < 1000000) :
    ∃ H' r d1, m_disk_Disk_Write (some i) (k : Int) x H = some (r, H') ∧ DIn H' i d1 ∧ d1.kept = d.kept ∧ d1.now = d.now.set k x ∧ d1.wait = d.wait ++ [⟨k, x⟩] ∧ d1.lives = d.lives ∧ d1.fuse < 1000000 ∧ (r = 30 ∨ r = 0 ∧ LIn H' i j d1 s base slot used com) := by
  obtain ⟨H', e1, e2, e3⟩ := n_WriteF h.dsk h.off hf hk hx hw
  by_cases hn : d.fuse < 0
  · rw [Dsk.burn_neg (by exact hn)] at e2
    rw [if_neg (by omega)] at e1
    refine ⟨H', 0, _, e1, e2, rfl, rfl, rfl, rfl, hf, .inr ⟨rfl, e2, h.off, by rw [e3]; exact h.lg, h.s3, ?_, ?_, h.bs⟩⟩
    · show _ < (d.now.set k x).length
      rw [List.length_set]; exact h.sl
    · show (d.now.set k x).length ≤ _
      rw [List.length_set]; exact h.ln
  · rw [Dsk.burn_pos (by show 0 ≤ d.fuse; omega)] at e2
    refine ⟨H', _, _, e1, e2, rfl, rfl, rfl, rfl, by show d.fuse - 1 < 1000000; omega, ?_⟩
    by_cases hz : d.fuse = 0
    · left
      rw [if_pos hz]
    · right
      refine ⟨by rw [if_neg hz], e2, decide_eq_false hz, by rw [e3]; exact h.lg, h.s3, ?_, ?_, h.bs⟩
      · show _ < (d.now.set k x).length
        rw [List.length_set]; exact h.sl
      · show (d.now.set k x).length ≤ _
        rw [List.length_set]; exact h.ln
theorem LIn.flF (h : LIn H i j d s base slot used com) (hf : d.fuse < 1000000) (hw : d.wait.length < 1000000) :
    ∃ H' r d1, m_disk_Disk_Flush (some i) H = some (r, H') ∧ DIn H' i d1 ∧ d1.now = d.now ∧ d1.lives = d.lives ∧ d1.fuse < 1000000 ∧ (r = 30 ∧ d1.kept = d.kept ∧ d1.wait = d.wait ∨ r = 0 ∧ d1.kept = d.now ∧ d1.wait = [] ∧ LIn H' i j d1 s base slot used com) := by
  have := h.sl
  obtain ⟨H', e1, e2, e3⟩ := n_FlushF h.dsk h.off hf (by omega) hw
  by_cases hz : d.fuse = 0
  · rw [if_pos hz] at e1 e2
    rw [Dsk.burn_pos (by omega)] at e2
    exact ⟨H', 30, _, e1, e2, rfl, rfl, by show d.fuse - 1 < 1000000; omega, .inl ⟨rfl, rfl, rfl⟩⟩
  · rw [if_neg hz] at e1 e2
    by_cases hn : d.fuse < 0
    · rw [Dsk.burn_neg (by exact hn)] at e2
      exact ⟨H', 0, _, e1, e2, rfl, rfl, hf, .inr ⟨rfl, rfl, rfl, e2, h.off, by rw [e3]; exact h.lg, h.s3, h.sl, h.ln, h.bs⟩⟩
    · rw [Dsk.burn_pos (by show 0 ≤ d.fuse; omega)] at e2
      exact ⟨H', 0, _, e1, e2, rfl, rfl, by show d.fuse - 1 < 1000000; omega, .inr ⟨rfl, rfl, rfl, e2, decide_eq_false hz, by rw [e3]; exact h.lg, h.s3, h.sl, h.ln, h.bs⟩⟩
theorem LIn.jl (h : LIn H i j d s base slot used com) : j < H.lg.length := (List.getElem?_eq_some_iff.1 h.lg).1
/-- The disk's write of a home. -/
def hw (s : Nat) (w : S_api_Write) : S_disk_write := ⟨((2 + s + w.Home.toNat : Nat) : Int), w.Data⟩
theorem n_redoF {ws : List S_api_Write} (hwl : ws.length ≤ 100000) : ∀ (n z : Nat) (H : Hp) (d : Dsk), LIn H i j d s base slot used com → d.fuse < 1000000 → Good s d.now.length ws → d.wait.length + (ws.length - z) ≤ 200000 → z ≤ ws.length → ws.length - z < n →
    ∃ H' r d' m, m_wal_Log_redo_l1 ws (some j) n (z : Int) H = some (r, H') ∧ DIn H' i d' ∧ d'.kept = d.kept ∧ d'.now.length = d.now.length ∧ d'.wait = d.wait ++ ((ws.drop z).take m).map (hw s) ∧ d'.lives = d.lives ∧ d'.fuse < 1000000 ∧ (r = 30 ∨ r = 0 ∧ LIn H' i j d' s base slot used com ∧ d'.now = rd s d.now (ws.drop z) ∧ m = (ws.drop z).length)
  | 0, z, _, _, _, _, _, _, _, h => by omega
  | n + 1, z, H, d, h, hf, hg, hwt, hz, hn => by
    have := h.ln
    have := h.sl
    unfold m_wal_Log_redo_l1
    by_cases hlt : z < ws.length
    · obtain ⟨w1, w2, w3⟩ := hg _ (List.getElem_mem hlt)
      have hH : ws[z].Home = (ws[z].Home.toNat : Int) := (Int.toNat_of_nonneg w1).symm
      have hb : 2 + s + ws[z].Home.toNat < d.now.length := by omega
      have hdr : ws.drop z = ws[z] :: ws.drop (z + 1) := List.drop_eq_getElem_cons hlt
      rw [bif_pos (dec_t (by omega)), idx_nat hlt, Option.bind_some]
      show ∃ H' r d' m, Option.bind (H.lg[j]?) _ = _ ∧ _
      rw [h.lg, Option.bind_some]
      have e1 : m_wal_Log_home (some j) ws[z].Home H = some ((2 + s + ws[z].Home.toNat : Nat) : Int) := by
        have := n_home h ws[z].Home.toNat (by omega)
        rwa [← hH] at this
      rw [e1, Option.bind_some]
      obtain ⟨H1, r1, d1, g1, g2, g3, g4, g5, g6, g7, g8⟩ := h.wrF hf hb w3 (by omega)
      show ∃ H' r d' m, Option.bind (m_disk_Disk_Write (some i) ((2 + s + ws[z].Home.toNat : Nat) : Int) ws[z].Data H) _ = _ ∧ _
      rw [g1, Option.bind_some]
      have hl1 : d1.now.length = d.now.length := by rw [g4, List.length_set]
      rcases g8 with rfl | ⟨rfl, g8⟩
      · rw [bif_pos (by rfl)]
        refine ⟨H1, 30, d1, 1, rfl, g2, g3, hl1, ?_, g6, g7, .inl rfl⟩
        rw [g5, hdr]
        rfl
      · rw [bif_neg (by rfl), wi_succ (by omega)]
        obtain ⟨H', r, d', m, k1, k2, k3, k3', k4, k5, k6, k7⟩ := n_redoF hwl n (z + 1) H1 d1 g8 g7 (by rw [hl1]; exact hg) (by rw [g5, List.length_append]; show d.wait.length + 1 + _ ≤ _; omega) (by omega) (by omega)
        refine ⟨H', r, d', m + 1, k1, k2, by rw [k3, g3], by rw [k3', hl1], ?_, by rw [k5, g6], k6, k7.imp id fun ⟨q1, q2, q3, q4⟩ => ⟨q1, q2, ?_, ?_⟩⟩
        · rw [k4, g5, hdr, List.take_succ_cons, List.map_cons, List.append_assoc]
          rfl
        · rw [q3, g4, hdr]
          rfl
        · rw [q4, hdr, List.length_cons]
    · have e : z = ws.length := by omega
      subst e
      rw [bif_neg (dec_f (by omega))]
      refine ⟨H, 0, d, 0, rfl, h.dsk, rfl, rfl, by simp, rfl, hf, .inr ⟨rfl, h, by rw [List.drop_length]; rfl, by simp⟩⟩
theorem n_raiseF (h : LIn H i j d s base slot used com) (hf : d.fuse < 1000000) (hs : slot ≤ 1) (hb : base + s + s ≤ 2305843009213693952) (hw : d.wait = []) :
    ∃ H' r d', m_wal_Log_raise (some j) H = some (r, H') ∧ DIn H' i d' ∧ d'.now = d.now.set (1 - slot) (slotB (base + s) s) ∧ d'.lives = d.lives ∧ d'.fuse < 1000000 ∧ (r = 30 ∧ d'.kept = d.kept ∧ d'.wait = [⟨((1 - slot : Nat) : Int), slotB (base + s) s⟩] ∨ r = 0 ∧ d'.kept = d'.now ∧ d'.wait = [] ∧ LIn H' i j d' s (base + s) (1 - slot) 0 com) := by
  have := h.sl
  have := h.ln
  unfold m_wal_Log_raise
  show ∃ H' r d', Option.bind (H.lg[j]?) _ = _ ∧ _
  rw [h.lg, Option.bind_some]
  show ∃ H' r d', Option.bind (m_wal_slotBytes (wi ((base : Int) + (s : Int))) (s : Int)) _ = _ ∧ _
  rw [wi_id (z := (base : Int) + (s : Int)) (by omega) (by omega), show (base : Int) + (s : Int) = ((base + s : Nat) : Int) by omega, n_slotBytes (by omega) (by omega), Option.bind_some]
  obtain ⟨H1, r1, d1, g1, g2, g3, g4, g5, g6, g7, g8⟩ := h.wrF hf (k := 1 - slot) (by omega) (slotB_len (base + s) s) (by rw [hw]; show 0 < 1000000; omega)
  rw [hw, List.nil_append] at g5
  show ∃ H' r d', Option.bind (m_disk_Disk_Write (some i) (wi (1 - (slot : Int))) (slotB (base + s) s) H) _ = _ ∧ _
  rw [wi_id (z := 1 - (slot : Int)) (by omega) (by omega), show 1 - (slot : Int) = ((1 - slot : Nat) : Int) by omega, g1, Option.bind_some]
  rcases g8 with rfl | ⟨rfl, g8⟩
  · rw [bif_pos (by rfl)]
    exact ⟨H1, 30, d1, rfl, g2, g4, g6, g7, .inl ⟨rfl, g3, g5⟩⟩
  · rw [bif_neg (by rfl)]
    show ∃ H' r d', Option.bind (H1.lg[j]?) _ = _ ∧ _
    rw [g8.lg, Option.bind_some]
    obtain ⟨H2, r2, d2, k1, k2, k3, k4, k5, k6⟩ := g8.flF g7 (by rw [g5]; show 1 < 1000000; omega)
    show ∃ H' r d', Option.bind (m_disk_Disk_Flush (some i) H1) _ = _ ∧ _
    rw [k1, Option.bind_some]
    rcases k6 with ⟨rfl, k6, k7⟩ | ⟨rfl, k6, k7, k8⟩
    · rw [bif_pos (by rfl)]
      exact ⟨H2, 30, d2, rfl, k2, by rw [k3, g4], by rw [k4, g6], k5, .inl ⟨rfl, by rw [k6, g3], by rw [k7, g5]⟩⟩
    · rw [bif_neg (by rfl)]
      show ∃ H' r d', Option.bind (H2.lg[j]?) _ = _ ∧ _
      rw [k8.lg, Option.bind_some]
      have hj := k8.jl
      refine ⟨_, 0, d2, rfl, k2.lg rfl rfl, by rw [k3, g4], by rw [k4, g6], k5, .inr ⟨rfl, by rw [k6, k3], k7, k2.lg rfl rfl, k8.off, ?_, h.s3, k8.sl, k8.ln, by omega⟩⟩
      show (((H2.lg.set j _).set j _).set j _)[j]? = _
      rw [List.getElem?_set_self (by simp; omega)]
      show some (S_wal_Log.mk _ _ (wi ((base : Int) + (s : Int))) _ _ _ _) = _
      rw [wi_id (z := (base : Int) + (s : Int)) (by omega) (by omega), show (base : Int) + (s : Int) = ((base + s : Nat) : Int) by omega]
      rfl
/-- A checkpoint: power went ahead of its flush, behind it (the slot waits), or not at all. -/
theorem n_CheckpointF (h : LIn H i j d s base slot used com) (hf : d.fuse < 1000000) (hs : slot ≤ 1) (hb : base + s + s ≤ 2305843009213693952) (hw : d.wait.length < 999999) :
    ∃ H' r d', m_wal_Log_Checkpoint (some j) H = some (r, H') ∧ DIn H' i d' ∧ d'.lives = d.lives ∧ d'.fuse < 1000000 ∧ (r = 30 ∧ d'.kept = d.kept ∧ d'.wait = d.wait ∨ r = 30 ∧ d'.kept = d.now ∧ d'.wait = [⟨((1 - slot : Nat) : Int), slotB (base + s) s⟩] ∨ r = 0 ∧ d'.now = d.now.set (1 - slot) (slotB (base + s) s) ∧ d'.kept = d'.now ∧ d'.wait = [] ∧ LIn H' i j d' s (base + s) (1 - slot) 0 com) := by
  have := h.sl
  have := h.ln
  unfold m_wal_Log_Checkpoint
  rw [n_alive h, Option.bind_some, bif_neg (by rfl)]
  show ∃ H' r d', Option.bind (H.lg[j]?) _ = _ ∧ _
  rw [h.lg, Option.bind_some]
  show ∃ H' r d', (bif decide ((base : Int) > wi (2305843009213693952 - (s : Int))) then _ else _) = _ ∧ _
  rw [wi_id (z := 2305843009213693952 - (s : Int)) (by omega) (by omega), bif_neg (dec_f (by omega))]
  obtain ⟨H1, r1, d1, g1, g2, g3, g4, g5, g6⟩ := h.flF hf (by omega)
  show ∃ H' r d', Option.bind (m_disk_Disk_Flush (some i) H) _ = _ ∧ _
  rw [g1, Option.bind_some]
  rcases g6 with ⟨rfl, g6, g7⟩ | ⟨rfl, g6, g7, g8⟩
  · rw [bif_pos (by rfl)]
    exact ⟨H1, 30, d1, rfl, g2, g4, g5, .inl ⟨rfl, g6, g7⟩⟩
  · rw [bif_neg (by rfl)]
    obtain ⟨H', r, d', k1, k2, k3, k4, k5, k6⟩ := n_raiseF g8 g5 hs hb g7
    show ∃ H' r d', Option.bind (m_wal_Log_raise (some j) H1) _ = _ ∧ _
    rw [k1, Option.bind_some]
    refine ⟨H', r, d', rfl, k2, by rw [k4, g4], k5, .inr ?_⟩
    rcases k6 with ⟨q1, q2, q3⟩ | ⟨q1, q2, q3, q4⟩
    · exact .inl ⟨q1, by rw [q2, g6], q3⟩
    · exact .inr ⟨q1, by rw [k3, g3], q2, q3, q4⟩
end
end Go.Proofs.Ytjomnccladjpgaa

/-
  Plain: commit on a disk whose fuse burns.
-/
namespace Go.Proofs.Ytjomnccladjpgaa
open Go Go.RowKit
set_option linter.unusedVariables false
set_option linter.unusedSimpArgs false

/-- The disk's writes of entries. -/
def ew (o b : Nat) : List S_wal_entry → Nat → List S_disk_write
  | [], _ => []
  | e :: r, p => ⟨((o + p : Nat) : Int), rowE e (b + p)⟩ :: ew o b r (p + 1)
theorem ew_len (o b : Nat) : ∀ (es : List S_wal_entry) (p : Nat), (ew o b es p).length = es.length
  | [], _ => rfl
  | e :: r, p => by show (ew o b r (p + 1)).length + 1 = r.length + 1; rw [ew_len o b r]
section
variable {H : Hp} {i j : Nat} {d : Dsk} {s base slot used : Nat} {com : Int}
theorem n_l4F {es : List S_wal_entry} {ws : List S_api_Write} (hok : ∀ e ∈ es, OkE e) (hes : used + es.length ≤ s) : ∀ (n z : Nat) (H : Hp) (d : Dsk), LIn H i j d s base slot used com → d.fuse < 1000000 → d.wait.length + (es.length - z) ≤ 200000 → z ≤ es.length → es.length - z < n →
    ∃ H' d' m, DIn H' i d' ∧ d'.kept = d.kept ∧ d'.wait = d.wait ++ (ew (2 + used) (base + used) (es.drop z) z).take m ∧ d'.lives = d.lives ∧ d'.fuse < 1000000 ∧ d'.now.length = d.now.length ∧ m ≤ es.length - z ∧ (m_wal_Log_Commit_l4 es (some j) ws n (z : Int) H = some (30, H') ∨ m_wal_Log_Commit_l4 es (some j) ws n (z : Int) H = m_wal_Log_Commit_j3 (some j) ws H' ∧ LIn H' i j d' s base slot used com ∧ d'.now = wrs (2 + used) (base + used) (es.drop z) z d.now ∧ m = es.length - z)
  | 0, z, _, _, _, _, _, _, h => by omega
  | n + 1, z, H, d, h, hf, hw, hz, hn => by
    have := h.ln
    have := h.sl
    have := h.bs
    unfold m_wal_Log_Commit_l4
    by_cases hlt : z < es.length
    · have hoe := hok _ (List.getElem_mem hlt)
      have hdr : es.drop z = es[z] :: es.drop (z + 1) := List.drop_eq_getElem_cons hlt
      obtain ⟨H1, r1, d1, g1, g2, g3, g4, g5, g6, g7, g8⟩ := h.wrF hf (k := 2 + used + z) (by omega) (rowE_len (st := base + used + z) hoe) (by omega)
      have hl1 : d1.now.length = d.now.length := by rw [g4, List.length_set]
      have step : ∀ (R : Option (Int × Hp)), ((bif decide ((z : Int) < (es.length : Int)) then (Option.bind (idx es (z : Int)) fun x22 =>
    ptM (some j) (none) (fun i25 =>
    Option.bind (H.ge_lg i25) fun x26 =>
    Option.bind (m_wal_entry_bytes x22 (wi (x26.base_ + (wi (x26.used_ + (z : Int)))))) fun x28 =>
    Option.bind (m_disk_Disk_Write x26.d_ (wi (2 + (wi (x26.used_ + (z : Int))))) x28 H) fun x30 =>
    bif (x30.1 != 0) then (some (x30.1, x30.2)) else ((m_wal_Log_Commit_l4 es (some j) ws n) (wi ((z : Int) + 1)) x30.2))) else (m_wal_Log_Commit_j3 (some j) ws H)) = R ↔ (bif (r1 != 0) then (some (r1, H1)) else ((m_wal_Log_Commit_l4 es (some j) ws n) ((z + 1 : Nat) : Int) H1)) = R) := fun R => by
        rw [bif_pos (dec_t (by omega)), idx_nat hlt, Option.bind_some]
        show Option.bind (H.lg[j]?) _ = _ ↔ _
        rw [h.lg, Option.bind_some]
        show Option.bind (m_wal_entry_bytes es[z] (wi ((base : Int) + wi ((used : Int) + (z : Int))))) _ = _ ↔ _
        rw [wi_id (z := (used : Int) + (z : Int)) (by omega) (by omega), wi_id (z := (base : Int) + ((used : Int) + (z : Int))) (by omega) (by omega), show (base : Int) + ((used : Int) + (z : Int)) = ((base + used + z : Nat) : Int) by omega, n_rowE hoe (by omega), Option.bind_some, wi_id (z := 2 + ((used : Int) + (z : Int))) (by omega) (by omega), show 2 + ((used : Int) + (z : Int)) = ((2 + used + z : Nat) : Int) by omega]
        show Option.bind (m_disk_Disk_Write (some i) ((2 + used + z : Nat) : Int) (rowE es[z] (base + used + z)) H) _ = _ ↔ _
        rw [g1, Option.bind_some, wi_succ (by omega)]
      rcases g8 with rfl | ⟨rfl, g8⟩
      · refine ⟨H1, d1, 1, g2, g3, ?_, g6, g7, hl1, by omega, .inl ((step _).2 rfl)⟩
        rw [g5, hdr]
        rfl
      · obtain ⟨H', d', m, k1, k2, k3, k4, k5, k5', k6, k7⟩ := n_l4F hok hes n (z + 1) H1 d1 g8 g7 (by rw [g5, List.length_append]; show d.wait.length + 1 + _ ≤ _; omega) (by omega) (by omega)
        refine ⟨H', d', m + 1, k1, by rw [k2, g3], ?_, by rw [k4, g6], k5, by rw [k5', hl1], by omega, k7.imp (fun q => (step _).2 q) fun ⟨q1, q2, q3, q4⟩ => ⟨(step _).2 q1, q2, ?_, by omega⟩⟩
        · rw [k3, g5, hdr, List.append_assoc]
          rfl
        · rw [q3, g4, hdr]
          rfl
    · have e : z = es.length := by omega
      subst e
      rw [bif_neg (dec_f (by omega))]
      exact ⟨H, d, 0, h.dsk, rfl, by simp, rfl, hf, rfl, by omega, .inr ⟨rfl, h, by rw [List.drop_length]; rfl, by omega⟩⟩
/-- Behind the checks, with room for the transaction. -/
theorem n_j2F (h : LIn H i j d s base slot used com) (hf : d.fuse < 1000000) {ws : List S_api_Write} (hg : Good s d.now.length ws) (h1 : 0 < ws.length) (hl : ws.length ≤ 10000) (hu : used + (2 * ws.length + 1) ≤ s) (hwt : d.wait.length ≤ 1000) :
    ∃ H' r d' com', m_wal_Log_Commit_j2 ws (some j) H = some (r, H') ∧ DIn H' i d' ∧ d'.lives = d.lives ∧ d'.fuse < 1000000 ∧ d'.now.length = d.now.length ∧
      (r = 30 ∧ d'.kept = d.kept ∧ (∃ m, m ≤ 2 * ws.length + 1 ∧ d'.wait = d.wait ++ (ew (2 + used) (base + used) (entsA ws) 0).take m) ∨
       r = 30 ∧ d'.kept = wrs (2 + used) (base + used) (entsA ws) 0 d.now ∧ (∃ m, d'.wait = (ws.take m).map (hw s)) ∨
       r = 0 ∧ d'.kept = wrs (2 + used) (base + used) (entsA ws) 0 d.now ∧ d'.wait = ws.map (hw s) ∧ d'.now = rd s d'.kept ws ∧ LIn H' i j d' s base slot (used + (2 * ws.length + 1)) com') := by
  have := h.ln
  have := h.sl
  have := h.bs
  unfold m_wal_Log_Commit_j2
  rw [n_entries ws hl (fun w hw => (hg w hw).2.2), Option.bind_some, entsA_len]
  obtain ⟨H1, d1, m1, g1, g2, g3, g4, g5, g6, g7, g8⟩ := n_l4F (ws := ws) (ok_entsA ws hg (by omega) hl) (by rw [entsA_len]; omega) ((entsA ws).length + 1) 0 H d h hf (by rw [entsA_len]; omega) (by omega) (by omega)
  rw [entsA_len] at g7 g8
  rw [List.drop_zero] at g3 g8
  rw [show ((0 : Nat) : Int) = 0 from rfl] at g8
  rcases g8 with g8 | ⟨g8, g9, g10, g11⟩
  · exact ⟨H1, 30, d1, com, g8, g1, g4, g5, g6, .inl ⟨rfl, g2, m1, by omega, g3⟩⟩
  · rw [g8]
    unfold m_wal_Log_Commit_j3
    show ∃ H' r d' com', Option.bind (H1.lg[j]?) _ = _ ∧ _
    rw [g9.lg, Option.bind_some]
    have hwl : d1.wait.length ≤ d.wait.length + (2 * ws.length + 1) := by
      rw [g3, List.length_append, List.length_take, ew_len, entsA_len]
      omega
    obtain ⟨H2, r2, d2, k1, k2, k3, k4, k5, k6⟩ := g9.flF g5 (by omega)
    show ∃ H' r d' com', Option.bind (m_disk_Disk_Flush (some i) H1) _ = _ ∧ _
    rw [k1, Option.bind_some]
    rcases k6 with ⟨rfl, k6, k7⟩ | ⟨rfl, k6, k7, k8⟩
    · rw [bif_pos (by rfl)]
      exact ⟨H2, 30, d2, com, rfl, k2, by rw [k4, g4], k5, by rw [k3, g6], .inl ⟨rfl, by rw [k6, g2], m1, by omega, by rw [k7, g3]⟩⟩
    · rw [bif_neg (by rfl)]
      show ∃ H' r d' com', Option.bind (H2.lg[j]?) _ = _ ∧ _
      have ew : wi (wi (2 * (ws.length : Int)) + 1) = ((2 * ws.length + 1 : Nat) : Int) := by
        rw [wi_id (z := 2 * (ws.length : Int)) (by omega) (by omega), wi_id (by omega) (by omega)]
        omega
      rw [k8.lg, Option.bind_some, ew]
      have hj := k8.jl
      have hW : LIn ((H2.st_lg j (S_wal_Log.mk (some i) (s : Int) (base : Int) (slot : Int) (wi ((used : Int) + ((2 * ws.length + 1 : Nat) : Int))) d2.lives com)).st_lg j (S_wal_Log.mk (some i) (s : Int) (base : Int) (slot : Int) (wi ((used : Int) + ((2 * ws.length + 1 : Nat) : Int))) d2.lives (wi (com + 1)))) i j d2 s base slot (used + (2 * ws.length + 1)) (wi (com + 1)) := by
        refine ⟨k2.lg rfl rfl, k8.off, ?_, h.s3, k8.sl, k8.ln, h.bs⟩
        show ((H2.lg.set j _).set j _)[j]? = _
        rw [List.getElem?_set_self (by simp; omega), wi_id (z := (used : Int) + ((2 * ws.length + 1 : Nat) : Int)) (by omega) (by omega), show (used : Int) + ((2 * ws.length + 1 : Nat) : Int) = ((used + (2 * ws.length + 1) : Nat) : Int) by omega]
      have hl2 : d2.now.length = d.now.length := by rw [k3, g6]
      obtain ⟨H3, r3, d3, m3, q1, q2, q3, q3', q4, q5, q6, q7⟩ := n_redoF (ws := ws) (by omega) (ws.length + 1) 0 _ d2 hW k5 (by rw [hl2]; exact hg) (by rw [k7]; show 0 + _ ≤ _; omega) (by omega) (by omega)
      rw [List.drop_zero, k7, List.nil_append] at q4
      rw [List.drop_zero] at q7
      have hred : ∃ com', m_wal_Log_redo (some j) ws ((H2.st_lg j (S_wal_Log.mk (some i) (s : Int) (base : Int) (slot : Int) (wi ((used : Int) + ((2 * ws.length + 1 : Nat) : Int))) d2.lives com)).st_lg j (S_wal_Log.mk (some i) (s : Int) (base : Int) (slot : Int) (wi ((used : Int) + ((2 * ws.length + 1 : Nat) : Int))) d2.lives (wi (com + 1)))) = some (r3, H3) ∧ (wi (com + 1)) = com' := ⟨_, q1, rfl⟩
      obtain ⟨com', hred, hcom⟩ := hred
      refine ⟨H3, r3, d3, com', ?_, q2, by rw [q5, k4, g4], q6, by rw [q3', hl2], ?_⟩
      · show Option.bind (m_wal_Log_redo (some j) ws _) _ = _
        refine (congrArg (fun t => Option.bind t _) hred).trans ?_
        rfl
      · rcases q7 with rfl | ⟨rfl, q7, q8, q9⟩
        · exact .inr (.inl ⟨rfl, by rw [q3, k6, g10], m3, q4⟩)
        · refine .inr (.inr ⟨rfl, by rw [q3, k6, g10], ?_, by rw [q8, q3, k6, k3], hcom ▸ q7⟩)
          rw [q4, q9, List.take_of_length_le (Nat.le_refl _)]
end
end Go.Proofs.Ytjomnccladjpgaa

/-
  Plain: images, and what a crash makes of them.
-/
namespace Go.Proofs.Ytjomnccladjpgaa
open Go Go.RowKit
set_option linter.unusedVariables false
set_option linter.unusedSimpArgs false

/-- An image of n rows: slot sl is in force with base b, and its log holds the transactions L. -/
structure Img (s n : Nat) (X : List (List UInt8)) (b sl : Nat) (L : List (List S_api_Write)) : Prop where
  len : X.length = n
  row : ∀ (q : Nat) (x : List UInt8), X[q]? = some x → x.length = 64
  sl1 : sl ≤ 1
  slot : X[sl]? = some (slotB b s)
  oth : ∃ o, X[1 - sl]? = some o ∧ Older b s o
  ch : Ch s n X b 0 L
  tail : ∀ p, p < s → ∀ r, X[2 + p]? = some r → lastB r ≤ b + p
/-- Behind the transactions nothing of this base was ever written. -/
def Fresh (s : Nat) (X : List (List UInt8)) (b : Nat) (q : Nat) : Prop := ∀ p, q ≤ p → p < s → ∀ r, X[2 + p]? = some r → lastB r < b + p
theorem holds_congr {X Y : List (List UInt8)} {b q T s : Nat} {w : List S_api_Write} (h : ∀ p, p < s → X[2 + p]? = Y[2 + p]?) (hq : q + T ≤ s) (hH : Holds X b q w T) : Holds Y b q w T := fun y e hy he => by
  rw [← h (q + y) (by omega)]
  exact hH y e hy he
theorem ch_congr {X Y : List (List UInt8)} {b s n : Nat} (h : ∀ p, p < s → X[2 + p]? = Y[2 + p]?) : ∀ (L : List (List S_api_Write)) (q : Nat), Ch s n X b q L → Ch s n Y b q L
  | [], q, hc => by
    obtain ⟨w, z, hg, h1, hl, hz, hH, hq, hb⟩ := hc
    refine ⟨w, z, hg, h1, hl, hz, holds_congr h hq hH, hq, ?_⟩
    by_cases e : q + z = s
    · exact .inl e
    · rcases hb with hb | ⟨r, hr, hv⟩
      · exact absurd hb e
      · exact .inr ⟨r, by rw [← h (q + z) (by omega)]; exact hr, hv⟩
  | w :: r, q, hc => by
    obtain ⟨hg, h1, hl, hH, hq, hr⟩ := hc
    exact ⟨hg, h1, hl, holds_congr h hq hH, hq, ch_congr h r _ hr⟩
/-- What stands may be told anew from the place behind the transactions. -/
theorem ch_end {X Y : List (List UInt8)} {b s n : Nat} : ∀ (L : List (List S_api_Write)) (q : Nat), (∀ p, p < q + places L → X[2 + p]? = Y[2 + p]?) → Ch s n X b q L → Ch s n Y b (q + places L) [] → Ch s n Y b q L
  | [], q, _, _, h => h
  | v :: r, q, hXY, hc, h => by
    obtain ⟨hg, h1, hl, hH, hq, hr⟩ := hc
    have e : q + places (v :: r) = q + (2 * v.length + 1) + places r := by
      show q + (2 * v.length + 1 + places r) = _
      omega
    refine ⟨hg, h1, hl, fun y x hy hx => ?_, hq, ch_end r _ (fun p hp => hXY p (by omega)) hr (by rw [← e]; exact h)⟩
    rw [← hXY (q + y) (by omega)]
    exact hH y x hy hx
/-- Writes of homes of L are torn: the image is as it was, and says the same. -/
theorem tear_homes {s n b sl : Nat} {K : List (List UInt8)} {L : List (List S_api_Write)} {W : List S_disk_write} (h : Img s n K b sl L) (hW : ∀ w ∈ W, w.b_.length = 64 ∧ ∃ v ∈ L.flatten, w.n_.toNat = 2 + s + v.Home.toNat) (ch : List UInt8) :
    Img s n (tear K W ch) b sl L ∧ put1 ((tear K W ch).drop (2 + s)) L.flatten = put1 (K.drop (2 + s)) L.flatten := by
  have hlow : ∀ q, q < 2 + s → (tear K W ch)[q]? = K[q]? := fun q hq => tear_no W K ch fun w hw e => by
    obtain ⟨_, v, _, hv⟩ := hW w hw
    omega
  have hsl := h.sl1
  refine ⟨⟨by rw [tear_len]; exact h.len, tear_row W K ch (fun w hw => (hW w hw).1) h.row, h.sl1, by rw [hlow sl (by omega)]; exact h.slot, ?_, ch_congr (fun p hp => (hlow (2 + p) (by omega)).symm) L 0 h.ch, fun p hp r hr => h.tail p hp r (by rw [← hlow (2 + p) (by omega)]; exact hr)⟩, put1_agree _ _ _ (by rw [List.length_drop, List.length_drop, tear_len]) fun r hr => ?_⟩
  · obtain ⟨o, h1, h2⟩ := h.oth
    exact ⟨o, by rw [hlow (1 - sl) (by omega)]; exact h1, h2⟩
  · rw [List.getElem?_drop, List.getElem?_drop]
    refine tear_no W K ch fun w hw e => ?_
    obtain ⟨_, v, hv1, hv2⟩ := hW w hw
    exact hr v hv1 (by omega)
/-- A slot's row is torn: the slot in force stays, or the new one is it. -/
theorem tear_slot {s n b sl : Nat} {K : List (List UInt8)} {L : List (List S_api_Write)} {w0 : List S_api_Write} (h : Img s n K b sl L) (hb1 : 1 ≤ b) (hb : b + s < 256) (hs : 3 ≤ s) (hn : 2 + s < n) (hg : Good s n w0) (h0 : 0 < w0.length) (hl : w0.length ≤ 10000) (ch : List UInt8) :
    Img s n (tear K [⟨((1 - sl : Nat) : Int), slotB (b + s) s⟩] ch) b sl L ∨ Img s n (tear K [⟨((1 - sl : Nat) : Int), slotB (b + s) s⟩] ch) (b + s) (1 - sl) [] := by
  have hsl := h.sl1
  obtain ⟨o, ho1, ho2⟩ := h.oth
  have hout : ∀ q, q ≠ 1 - sl → (tear K [⟨((1 - sl : Nat) : Int), slotB (b + s) s⟩] ch)[q]? = K[q]? := fun q hq => tear_no _ K ch fun w hw e => by
    rw [List.mem_singleton.1 hw] at e
    exact hq e.symm
  obtain ⟨c, hc, hrow⟩ := tear_one (q := 1 - sl) (b := slotB (b + s) s) [⟨((1 - sl : Nat) : Int), slotB (b + s) s⟩] K ch (by rw [List.filter_cons, if_pos (by simp)]; rfl) ho1
  have hrows := tear_row [⟨((1 - sl : Nat) : Int), slotB (b + s) s⟩] K ch (fun w hw => by rw [List.mem_singleton.1 hw]; exact slotB_len _ _) h.row
  have hlen : (tear K [⟨((1 - sl : Nat) : Int), slotB (b + s) s⟩] ch).length = n := by rw [tear_len]; exact h.len
  have hslot : (tear K [⟨((1 - sl : Nat) : Int), slotB (b + s) s⟩] ch)[sl]? = some (slotB b s) := by rw [hout sl (by omega)]; exact h.slot
  rcases slot_torn ho2 (m := b + s) (by omega) hb (by omega) hc with e | e
  · right
    rw [e] at hrow
    refine ⟨hlen, hrows, by omega, hrow, ⟨slotB b s, by rw [show 1 - (1 - sl) = sl by omega]; exact hslot, older_slot hb1 (by omega) (by omega)⟩, ?_, fun p hp r hr => ?_⟩
    · have hlt : 2 + 0 < K.length := by rw [h.len]; omega
      have hr0 : (tear K [⟨((1 - sl : Nat) : Int), slotB (b + s) s⟩] ch)[2 + (0 + 0)]? = some K[2 + 0] := by
        rw [hout _ (by omega)]
        exact List.getElem?_eq_getElem hlt
      refine ⟨w0, 0, hg, h0, hl, by omega, fun y e hy => by omega, by omega, .inr ⟨_, hr0, fun hv => ?_⟩⟩
      have h1 := last_valid hv (hrows _ _ hr0) (by omega)
      have h2 := h.tail 0 (by omega) _ (List.getElem?_eq_getElem hlt)
      omega
    · rw [hout (2 + p) (by omega)] at hr
      have := h.tail p hp r hr
      omega
  · left
    exact ⟨hlen, hrows, hsl, hslot, ⟨_, hrow, e⟩, ch_congr (fun p hp => (hout (2 + p) (by omega)).symm) L 0 h.ch, fun p hp r hr => h.tail p hp r (by rw [← hout (2 + p) (by omega)]; exact hr)⟩
end Go.Proofs.Ytjomnccladjpgaa

/-
  Plain: images under a crash: torn entries.
-/
namespace Go.Proofs.Ytjomnccladjpgaa
open Go Go.RowKit
set_option linter.unusedVariables false
set_option linter.unusedSimpArgs false

theorem ew_ge (o b : Nat) : ∀ (es : List S_wal_entry) (p : Nat), ∀ x ∈ ew o b es p, o + p ≤ x.n_.toNat ∧ x.n_.toNat < o + p + es.length
  | [], _, x, hx => absurd hx List.not_mem_nil
  | e :: r, p, x, hx => by
    rcases List.mem_cons.1 hx with rfl | hx
    · show o + p ≤ ((o + p : Nat) : Int).toNat ∧ _ < o + p + (r.length + 1)
      rw [Int.toNat_natCast]
      omega
    · have := ew_ge o b r (p + 1) x hx
      show _ ∧ _ < o + p + (r.length + 1)
      omega
theorem ew_filter (o b : Nat) : ∀ (es : List S_wal_entry) (p m y : Nat) (e : S_wal_entry), es[y]? = some e → y < m → ((ew o b es p).take m).filter (fun w => decide (w.n_.toNat = o + p + y)) = [⟨((o + p + y : Nat) : Int), rowE e (b + p + y)⟩]
  | [], _, _, _, _, h, _ => by simp at h
  | e0 :: r, p, 0, y, e, h, hm => by omega
  | e0 :: r, p, m + 1, 0, e, h, hm => by
    have h1 : e0 = e := by simpa using h
    subst h1
    show List.filter _ (⟨((o + p : Nat) : Int), rowE e0 (b + p)⟩ :: (ew o b r (p + 1)).take m) = _
    rw [List.filter_cons, if_pos (by simp; omega)]
    have : ((ew o b r (p + 1)).take m).filter (fun w => decide (w.n_.toNat = o + p + 0)) = [] := by
      rw [List.filter_eq_nil_iff]
      intro x hx
      have := ew_ge o b r (p + 1) x (List.mem_of_mem_take hx)
      simp
      omega
    rw [this]
    rfl
  | e0 :: r, p, m + 1, y + 1, e, h, hm => by
    have h2 : r[y]? = some e := by simpa using h
    show List.filter _ (⟨((o + p : Nat) : Int), rowE e0 (b + p)⟩ :: (ew o b r (p + 1)).take m) = _
    rw [List.filter_cons, if_neg (by simp; omega)]
    have := ew_filter o b r (p + 1) m y e h2 (by omega)
    rw [show o + (p + 1) + y = o + p + (y + 1) by omega, show b + (p + 1) + y = b + p + (y + 1) by omega] at this
    exact this
theorem ew_rows (o b : Nat) : ∀ (es : List S_wal_entry) (p : Nat), (∀ e ∈ es, OkE e) → ∀ x ∈ ew o b es p, x.b_.length = 64
  | [], _, _, x, hx => absurd hx List.not_mem_nil
  | e :: r, p, h, x, hx => by
    rcases List.mem_cons.1 hx with rfl | hx
    · exact rowE_len (h e List.mem_cons_self)
    · exact ew_rows o b r (p + 1) (fun e he => h e (List.mem_cons_of_mem _ he)) x hx
/-- Either all of the first T entries stand, or the first that does not is no entry. -/
theorem holds_find {X : List (List UInt8)} {b q s : Nat} {w : List S_api_Write} (hrow : ∀ y e, (entsA w)[y]? = some e → X[2 + (q + y)]? = some (rowE e (b + (q + y))) ∨ ∃ r, X[2 + (q + y)]? = some r ∧ ¬ Valid (b + (q + y)) r) : ∀ T, T ≤ 2 * w.length + 1 → Holds X b q w T ∨ ∃ z, z < T ∧ Holds X b q w z ∧ ∃ r, X[2 + (q + z)]? = some r ∧ ¬ Valid (b + (q + z)) r
  | 0, _ => .inl fun y e hy => by omega
  | T + 1, hT => by
    rcases holds_find (s := s) hrow T (by omega) with h | ⟨z, hz, h1, h2⟩
    · have hlt : T < (entsA w).length := by rw [entsA_len]; omega
      have he : (entsA w)[T]? = some (entsA w)[T] := List.getElem?_eq_getElem hlt
      rcases hrow T _ he with h3 | h3
      · left
        intro y e hy hye
        by_cases c : y = T
        · subst c
          rw [he] at hye
          injection hye with hye
          rw [← hye]
          exact h3
        · exact h y e (by omega) hye
      · exact .inr ⟨T, by omega, h, h3⟩
    · exact .inr ⟨z, by omega, h1, h2⟩
/-- Entries of one more transaction are torn: it stands wholly, or not at all. -/
theorem tear_entries {s n b sl m : Nat} {K : List (List UInt8)} {L : List (List S_api_Write)} {W : List S_disk_write} {w : List S_api_Write} (h : Img s n K b sl L) (hf : Fresh s K b (places L)) (hb : b + s < 256) (hn : 2 + s < n) (hn2 : n ≤ 16384) (hg : Good s n w) (h0 : 0 < w.length) (hl : w.length ≤ 10000) (hu : places L + (2 * w.length + 1) ≤ s)
    (hW : ∀ x ∈ W, x.b_.length = 64 ∧ ∃ v ∈ L.flatten, x.n_.toNat = 2 + s + v.Home.toNat) (ch : List UInt8) :
    ∃ L', (L' = L ∨ L' = L ++ [w]) ∧ Img s n (tear K (W ++ (ew (2 + places L) (b + places L) (entsA w) 0).take m) ch) b sl L' ∧ put1 ((tear K (W ++ (ew (2 + places L) (b + places L) (entsA w) 0).take m) ch).drop (2 + s)) L.flatten = put1 (K.drop (2 + s)) L.flatten := by
  have hsl := h.sl1
  have hok := ok_entsA w hg hn2 hl
  generalize hu' : places L = u at *
  generalize hV : W ++ (ew (2 + u) (b + u) (entsA w) 0).take m = V
  have hVm : ∀ x ∈ V, (x.b_.length = 64 ∧ ∃ v ∈ L.flatten, x.n_.toNat = 2 + s + v.Home.toNat) ∨ (x.b_.length = 64 ∧ 2 + u ≤ x.n_.toNat ∧ x.n_.toNat < 2 + u + (2 * w.length + 1)) := fun x hx => by
    rw [← hV] at hx
    rcases List.mem_append.1 hx with hx | hx
    · exact .inl (hW x hx)
    · have h1 := ew_ge (2 + u) (b + u) (entsA w) 0 x (List.mem_of_mem_take hx)
      rw [entsA_len] at h1
      exact .inr ⟨ew_rows _ _ _ 0 hok x (List.mem_of_mem_take hx), by omega, by omega⟩
  have hout : ∀ q, q < 2 + u ∨ (2 + u + (2 * w.length + 1) ≤ q ∧ q < 2 + s) → (tear K V ch)[q]? = K[q]? := fun q hq => tear_no V K ch fun x hx e => by
    rcases hVm x hx with ⟨_, v, _, hv⟩ | ⟨_, h1, h2⟩ <;> omega
  have hrows := tear_row V K ch (fun x hx => by rcases hVm x hx with h1 | h1 <;> exact h1.1) h.row
  have hlen : (tear K V ch).length = n := by rw [tear_len]; exact h.len
  have hent : ∀ y e, (entsA w)[y]? = some e → (tear K V ch)[2 + (u + y)]? = some (rowE e (b + (u + y))) ∨ ∃ r, (tear K V ch)[2 + (u + y)]? = some r ∧ lastB r < b + (u + y) := fun y e he => by
    have hy : y < 2 * w.length + 1 := by
      have := (List.getElem?_eq_some_iff.1 he).1
      rwa [entsA_len] at this
    have hKlt : 2 + (u + y) < K.length := by rw [h.len]; omega
    have hK : K[2 + (u + y)]? = some K[2 + (u + y)] := List.getElem?_eq_getElem hKlt
    have hlast := hf (u + y) (by omega) (by omega) _ hK
    by_cases hym : y < m
    · have hfil : V.filter (fun x => decide (x.n_.toNat = 2 + (u + y))) = [⟨((2 + (u + y) : Nat) : Int), rowE e (b + (u + y))⟩] := by
        rw [← hV, List.filter_append]
        have e1 : W.filter (fun x => decide (x.n_.toNat = 2 + (u + y))) = [] := by
          rw [List.filter_eq_nil_iff]
          intro x hx
          obtain ⟨_, v, _, hv⟩ := hW x hx
          simp
          omega
        have e2 := ew_filter (2 + u) (b + u) (entsA w) 0 m y e he hym
        rw [show 2 + u + 0 + y = 2 + (u + y) by omega, show b + u + 0 + y = b + (u + y) by omega] at e2
        rw [e1, e2]
        rfl
      obtain ⟨c, hc, hr⟩ := tear_one V K ch hfil hK
      rcases over_last (c := c) (h.row _ _ hK) (rowE_len (st := b + (u + y)) (hok e (List.mem_of_getElem? he))) hc with e1 | e1
      · left
        rw [hr, e1]
      · exact .inr ⟨_, hr, by rw [e1]; exact hlast⟩
    · right
      refine ⟨_, ?_, hlast⟩
      rw [← hK]
      refine tear_no V K ch fun x hx e => ?_
      rw [← hV] at hx
      rcases List.mem_append.1 hx with hx | hx
      · obtain ⟨_, v, _, hv⟩ := hW x hx
        omega
      · have hx' : x ∈ ew (2 + u) (b + u) ((entsA w).take m) 0 := by
          have e3 : ∀ (es : List S_wal_entry) (p k : Nat), (ew (2 + u) (b + u) es p).take k = ew (2 + u) (b + u) (es.take k) p := by
            intro es
            induction es with
            | nil => intro p k; simp [ew]
            | cons a r ih =>
              intro p k
              cases k with
              | zero => rfl
              | succ k =>
                show _ :: (ew _ _ r (p + 1)).take k = _ :: ew _ _ (r.take k) (p + 1)
                rw [ih]
          rw [← e3]
          exact hx
        have h1 := ew_ge (2 + u) (b + u) ((entsA w).take m) 0 x hx'
        rw [List.length_take] at h1
        omega
  have htail : ∀ p, p < s → ∀ r, (tear K V ch)[2 + p]? = some r → lastB r ≤ b + p := fun p hp r hr => by
    by_cases c : p < u ∨ u + (2 * w.length + 1) ≤ p
    · rw [hout (2 + p) (by omega)] at hr
      exact h.tail p hp r hr
    · have hlt : p - u < (entsA w).length := by rw [entsA_len]; omega
      have he : (entsA w)[p - u]? = some (entsA w)[p - u] := List.getElem?_eq_getElem hlt
      have hoe := hok _ (List.getElem_mem hlt)
      have := hent (p - u) _ he
      rw [show u + (p - u) = p by omega, hr] at this
      rcases this with h1 | ⟨r', h1, h2⟩
      · injection h1 with h1
        rw [h1, last_rowE hoe (by omega)]
        omega
      · injection h1 with h1
        rw [h1]
        omega
  have hbad : ∀ p, p < s → ∀ r, (tear K V ch)[2 + p]? = some r → lastB r < b + p → ¬ Valid (b + p) r := fun p hp r hr hlt hv => by
    have := last_valid hv (hrows _ _ hr) (by omega)
    omega
  have hput : put1 ((tear K V ch).drop (2 + s)) L.flatten = put1 (K.drop (2 + s)) L.flatten := put1_agree _ _ _ (by rw [List.length_drop, List.length_drop, tear_len]) fun r hr => by
    rw [List.getElem?_drop, List.getElem?_drop]
    refine tear_no V K ch fun x hx e => ?_
    rcases hVm x hx with ⟨_, v, hv1, hv2⟩ | ⟨_, h1, h2⟩
    · exact hr v hv1 (by omega)
    · omega
  have hslot : (tear K V ch)[sl]? = some (slotB b s) := by rw [hout sl (by omega)]; exact h.slot
  have hoth : ∃ o, (tear K V ch)[1 - sl]? = some o ∧ Older b s o := by
    obtain ⟨o, h1, h2⟩ := h.oth
    exact ⟨o, by rw [hout (1 - sl) (by omega)]; exact h1, h2⟩
  have hpl : 0 + places L = u := by omega
  have hpre : ∀ p, p < 0 + places L → K[2 + p]? = (tear K V ch)[2 + p]? := fun p hp => (hout (2 + p) (by omega)).symm
  rcases holds_find (s := s) (q := u) (X := tear K V ch) (b := b) (fun y e he => (hent y e he).imp id fun ⟨r, h1, h2⟩ => ⟨r, h1, hbad (u + y) (by have := (List.getElem?_eq_some_iff.1 he).1; rw [entsA_len] at this; omega) r h1 h2⟩) (2 * w.length + 1) (Nat.le_refl _) with hH | ⟨z, hz, hH, hv⟩
  · -- it stands wholly
    have hend : Ch s n (tear K V ch) b (u + (2 * w.length + 1)) [] := by
      refine ⟨w, 0, hg, h0, hl, by omega, fun y e hy => by omega, by omega, ?_⟩
      by_cases c : u + (2 * w.length + 1) + 0 = s
      · exact .inl c
      · right
        have hlt : 2 + (u + (2 * w.length + 1) + 0) < K.length := by rw [h.len]; omega
        have hr : (tear K V ch)[2 + (u + (2 * w.length + 1) + 0)]? = some K[2 + (u + (2 * w.length + 1) + 0)] := by
          rw [hout _ (by omega)]
          exact List.getElem?_eq_getElem hlt
        exact ⟨_, hr, hbad _ (by omega) _ hr (hf _ (by omega) (by omega) _ (List.getElem?_eq_getElem hlt))⟩
    have hone : Ch s n (tear K V ch) b (0 + places L) [w] := by
      rw [hpl]
      exact ⟨hg, h0, hl, hH, by omega, hend⟩
    -- (the chain of L up to here, then w)
    have hnil : Ch s n K b (0 + places L) [] := by
      rw [hpl]
      refine ⟨w, 0, hg, h0, hl, by omega, fun y e hy => by omega, by omega, .inr ?_⟩
      have hlt : 2 + (u + 0) < K.length := by rw [h.len]; omega
      refine ⟨_, List.getElem?_eq_getElem hlt, fun hv => ?_⟩
      have h1 := last_valid hv (h.row _ _ (List.getElem?_eq_getElem hlt)) (by omega)
      have h2 := hf (u + 0) (by omega) (by omega) _ (List.getElem?_eq_getElem hlt)
      omega
    have hchain : ∀ (M : List (List S_api_Write)) (q : Nat), (∀ p, p < q + places M → K[2 + p]? = (tear K V ch)[2 + p]?) → Ch s n K b q M → Ch s n (tear K V ch) b (q + places M) [w] → Ch s n (tear K V ch) b q (M ++ [w]) := by
      intro M
      induction M with
      | nil => intro q _ _ hx; exact hx
      | cons v r ih =>
        intro q hXY hc hx
        obtain ⟨g1, g2, g3, g4, g5, g6⟩ := hc
        have e : q + places (v :: r) = q + (2 * v.length + 1) + places r := by
          show q + (2 * v.length + 1 + places r) = _
          omega
        refine ⟨g1, g2, g3, fun y x hy hxy => ?_, g5, ih _ (fun p hp => hXY p (by omega)) g6 (by rw [← e]; exact hx)⟩
        rw [← hXY (q + y) (by omega)]
        exact g4 y x hy hxy
    exact ⟨L ++ [w], .inr rfl, ⟨hlen, hrows, hsl, hslot, hoth, hchain L 0 hpre h.ch hone, htail⟩, hput⟩
  · refine ⟨L, .inl rfl, ⟨hlen, hrows, hsl, hslot, hoth, ch_end L 0 hpre h.ch ?_, htail⟩, hput⟩
    rw [hpl]
    exact ⟨w, z, hg, h0, hl, by omega, hH, by omega, .inr hv⟩
end Go.Proofs.Ytjomnccladjpgaa

/-
  Plain: opening on a disk whose fuse burns.
-/
namespace Go.Proofs.Ytjomnccladjpgaa
open Go Go.RowKit
set_option linter.unusedVariables false
set_option linter.unusedSimpArgs false

section
variable {H : Hp} {i j : Nat} {d : Dsk} {s base slot used : Nat} {com : Int}
theorem n_OpenF {n b sl : Nat} {L : List (List S_api_Write)} (h : DIn H i d) (ho : d.off = false) (hf : d.fuse < 1000000) (hI : Img s n d.now b sl L) (hwt : d.wait = []) (hn : n ≤ 16384) (hs : 3 ≤ s) (h2 : 2 + s < n) (hb : 1 ≤ b) (hb2 : b + s + s ≤ 2305843009213693952) :
    ∃ H' r p d', m_wal_Open (some i) H = some (p, r, H') ∧ DIn H' i d' ∧ d'.lives = d.lives ∧ d'.fuse < 1000000 ∧
      (r = 30 ∧ d'.kept = d.kept ∧ (∃ m, d'.wait = (L.flatten.take m).map (hw s)) ∨
       r = 30 ∧ d'.kept = rd s d.now L.flatten ∧ d'.wait = [⟨((1 - sl : Nat) : Int), slotB (b + s) s⟩] ∨
       r = 0 ∧ p = some H.lg.length ∧ d'.now = (rd s d.now L.flatten).set (1 - sl) (slotB (b + s) s) ∧ d'.kept = d'.now ∧ d'.wait = [] ∧ LIn H' i H.lg.length d' s (b + s) (1 - sl) 0 0) := by
  have hl := hI.len
  obtain ⟨o, ho1, ho2⟩ := hI.oth
  obtain ⟨K, e1, e2⟩ := n_Open_find h ho hl hn hs h2 hb (by omega) hI.sl1 hI.slot ho1 ho2
  have hc : Ch s d.now.length d.now b 0 L := by rw [hl]; exact hI.ch
  have hsay := ch_says e2 hc
  have hg := ch_good L 0 _ _ _ hc
  have hpl := ch_places L 0 _ _ _ hc
  have hpl2 := places_len L
  rw [e1]
  unfold m_wal_Open_j4
  show ∃ H' r p d', Option.bind (K.lg[H.lg.length]?) _ = _ ∧ _
  rw [e2.lg, Option.bind_some]
  show ∃ H' r p d', (bif ((b : Int) == 0) then _ else bif decide ((b : Int) > wi (2305843009213693952 - (s : Int))) then _ else _) = _ ∧ _
  rw [bif_neg (ieq_f (by omega)), wi_id (z := 2305843009213693952 - (s : Int)) (by omega) (by omega), bif_neg (dec_f (by omega))]
  show ∃ H' r p d', Option.bind (m_wal_Log_says (some H.lg.length) K) _ = _ ∧ _
  rw [hsay, Option.bind_some]
  obtain ⟨H1, r1, d1, m, g1, g2, g3, g3', g4, g5, g6, g7⟩ := n_redoF (ws := L.flatten) (by omega) (L.flatten.length + 1) 0 K d e2 hf hg (by rw [hwt]; show 0 + _ ≤ _; omega) (by omega) (by omega)
  rw [List.drop_zero, hwt, List.nil_append] at g4
  rw [List.drop_zero] at g7
  have hred : m_wal_Log_redo (some H.lg.length) L.flatten K = some (r1, H1) := g1
  show ∃ H' r p d', Option.bind (m_wal_Log_redo (some H.lg.length) L.flatten K) _ = _ ∧ _
  rw [hred, Option.bind_some]
  rcases g7 with rfl | ⟨rfl, g7, g8, g9⟩
  · rw [bif_pos (by rfl)]
    exact ⟨H1, 30, none, d1, rfl, g2, g5, g6, .inl ⟨rfl, g3, m, g4⟩⟩
  · rw [bif_neg (by rfl)]
    obtain ⟨H2, r2, d2, k1, k2, k3, k4, k5⟩ := n_CheckpointF g7 g6 hI.sl1 hb2 (by rw [g4, List.length_map, List.length_take]; omega)
    show ∃ H' r p d', Option.bind (m_wal_Log_Checkpoint (some H.lg.length) H1) _ = _ ∧ _
    rw [k1, Option.bind_some]
    rcases k5 with ⟨rfl, k5, k6⟩ | ⟨rfl, k5, k6⟩ | ⟨rfl, k5, k6, k7, k8⟩
    · rw [bif_pos (by rfl)]
      exact ⟨H2, 30, none, d2, rfl, k2, by rw [k3, g5], k4, .inl ⟨rfl, by rw [k5, g3], m, by rw [k6, g4]⟩⟩
    · rw [bif_pos (by rfl)]
      exact ⟨H2, 30, none, d2, rfl, k2, by rw [k3, g5], k4, .inr (.inl ⟨rfl, by rw [k5, g8], k6⟩)⟩
    · rw [bif_neg (by rfl)]
      exact ⟨H2, 0, some H.lg.length, d2, rfl, k2, by rw [k3, g5], k4, .inr (.inr ⟨rfl, rfl, by rw [k5, g8], k6, k7, k8⟩)⟩
/-- The image after the homes were written anew holds the same, and says the same. -/
theorem rd_low (s : Nat) : ∀ (ws : List S_api_Write) (t : List (List UInt8)) (q : Nat), q < 2 + s → (rd s t ws)[q]? = t[q]?
  | [], t, q, _ => rfl
  | w :: r, t, q, hq => by
    show (rd s (t.set _ _) r)[q]? = _
    rw [rd_low s r _ q hq, List.getElem?_set_ne (by omega)]
theorem rd_rows {s n : Nat} : ∀ (ws : List S_api_Write) (t : List (List UInt8)), Good s n ws → (∀ (q : Nat) (x : List UInt8), t[q]? = some x → x.length = 64) → ∀ (q : Nat) (x : List UInt8), (rd s t ws)[q]? = some x → x.length = 64
  | [], t, _, ht, q, x, hx => ht q x hx
  | w :: r, t, hg, ht, q, x, hx => by
    refine rd_rows r (t.set (2 + s + w.Home.toNat) w.Data) (fun v hv => hg v (List.mem_cons_of_mem _ hv)) (fun q' y hy => ?_) q x hx
    by_cases e : 2 + s + w.Home.toNat = q'
    · have hlt : q' < t.length := by
        have := (List.getElem?_eq_some_iff.1 hy).1
        rwa [List.length_set] at this
      rw [e, List.getElem?_set_self hlt] at hy
      injection hy with hy
      rw [← hy]
      exact (hg w List.mem_cons_self).2.2
    · rw [List.getElem?_set_ne e] at hy
      exact ht q' y hy
theorem img_rd {s n b sl : Nat} {X : List (List UInt8)} {L : List (List S_api_Write)} {ws : List S_api_Write} (h : Img s n X b sl L) (hg : Good s n ws) : Img s n (rd s X ws) b sl L := by
  have hsl := h.sl1
  refine ⟨by rw [rd_len]; exact h.len, rd_rows ws X hg h.row, hsl, by rw [rd_low s ws X sl (by omega)]; exact h.slot, ?_, ch_congr (fun p hp => (rd_low s ws X (2 + p) (by omega)).symm) L 0 h.ch, fun p hp r hr => h.tail p hp r (by rw [← rd_low s ws X (2 + p) (by omega)]; exact hr)⟩
  obtain ⟨o, h1, h2⟩ := h.oth
  exact ⟨o, by rw [rd_low s ws X (1 - sl) (by omega)]; exact h1, h2⟩
/-- An image recovers to the homes h, with a base of at most B. -/
def Rec (s n B : Nat) (X h : List (List UInt8)) : Prop := ∃ b sl L, Img s n X b sl L ∧ 1 ≤ b ∧ b ≤ B ∧ put1 (X.drop (2 + s)) L.flatten = h
/-- Whatever a crash makes of the disk recovers to h. -/
def Safe (s n B : Nat) (d : Dsk) (h : List (List UInt8)) : Prop := ∀ ch, Rec s n B (tear d.kept d.wait ch) h
theorem hw_ok {s n : Nat} {L : List (List S_api_Write)} {ws : List S_api_Write} (hg : Good s n ws) (hsub : ∀ w ∈ ws, w ∈ L.flatten) : ∀ x ∈ ws.map (hw s), x.b_.length = 64 ∧ ∃ v ∈ L.flatten, x.n_.toNat = 2 + s + v.Home.toNat := fun x hx => by
  obtain ⟨w, h1, rfl⟩ := List.mem_map.1 hx
  exact ⟨(hg w h1).2.2, w, hsub w h1, Int.toNat_natCast _⟩
/-- Opening keeps what the image recovers to, wherever power goes. -/
theorem open_safe {n b sl B : Nat} {L : List (List S_api_Write)} (h : DIn H i d) (ho : d.off = false) (hf : d.fuse < 1000000) (hI : Img s n d.now b sl L) (hkn : d.kept = d.now) (hw' : d.wait = []) (hn : n ≤ 16384) (hs : 3 ≤ s) (h2 : 2 + s < n) (hb : 1 ≤ b) (hbB : b ≤ B) (hb2 : b + s < 256) :
    ∃ H' r p d', m_wal_Open (some i) H = some (p, r, H') ∧ DIn H' i d' ∧ d'.wait.length < 1000000 ∧ (r = 30 ∨ r = 0) ∧ Safe s n (B + s) d' (put1 (d.now.drop (2 + s)) L.flatten) := by
  have hc : Ch s n d.now b 0 L := hI.ch
  have hg := ch_good L 0 _ _ _ hc
  obtain ⟨H', r, p, d', e1, e2, e3, e4, e5⟩ := n_OpenF h ho hf hI hw' hn hs h2 hb (by omega)
  have w0 : Good s n [⟨0, List.replicate 64 0⟩] := fun w hw => by
    rw [List.mem_singleton.1 hw]
    exact ⟨Int.le_refl _, by show (0 : Int) < _; omega, by simp⟩
  have hrd : put1 ((rd s d.now L.flatten).drop (2 + s)) L.flatten = put1 (d.now.drop (2 + s)) L.flatten := by rw [rd_drop, put1_twice]
  have hslotcase : ∀ ch, Rec s n (B + s) (tear (rd s d.now L.flatten) [⟨((1 - sl : Nat) : Int), slotB (b + s) s⟩] ch) (put1 (d.now.drop (2 + s)) L.flatten) := fun ch => by
    have hrest : (tear (rd s d.now L.flatten) [⟨((1 - sl : Nat) : Int), slotB (b + s) s⟩] ch).drop (2 + s) = (rd s d.now L.flatten).drop (2 + s) := by
      apply List.ext_getElem?
      intro k
      rw [List.getElem?_drop, List.getElem?_drop]
      refine tear_no _ _ ch fun w hw e => ?_
      rw [List.mem_singleton.1 hw] at e
      have : (1 - sl : Nat) = 2 + s + k := e
      omega
    rcases tear_slot (img_rd hI hg) hb hb2 hs h2 w0 (by simp) (by simp) ch with q | q
    · exact ⟨b, sl, L, q, hb, by omega, by rw [hrest, hrd]⟩
    · exact ⟨b + s, 1 - sl, [], q, by omega, by omega, by rw [hrest, rd_drop]; rfl⟩
  have hpl := ch_places L 0 _ _ _ hc
  have hpl2 := places_len L
  refine ⟨H', r, p, d', e1, e2, ?_, ?_, fun ch => ?_⟩
  · rcases e5 with ⟨_, _, m, q⟩ | ⟨_, _, q⟩ | ⟨_, _, _, _, q, _⟩
    · rw [q, List.length_map, List.length_take]; omega
    · rw [q]; simp
    · rw [q]; simp
  · rcases e5 with ⟨q, _⟩ | ⟨q, _⟩ | ⟨q, _⟩
    · exact .inl q
    · exact .inl q
    · exact .inr q
  · rcases e5 with ⟨_, q1, m, q2⟩ | ⟨_, q1, q2⟩ | ⟨_, _, q1, q2, q3, _⟩
    · rw [q1, q2, hkn]
      obtain ⟨t1, t2⟩ := tear_homes (L := L) (W := (L.flatten.take m).map (hw s)) hI (hw_ok (fun w hw => hg w (List.mem_of_mem_take hw)) fun w hw => List.mem_of_mem_take hw) ch
      exact ⟨b, sl, L, t1, hb, by omega, t2⟩
    · rw [q1, q2]
      exact hslotcase ch
    · have hfull : d'.kept = tear (rd s d.now L.flatten) [⟨((1 - sl : Nat) : Int), slotB (b + s) s⟩] [64] := by
        rw [q2, q1]
        show _ = (rd s d.now L.flatten).set _ _
        have e : over ((rd s d.now L.flatten).getD ((1 - sl : Nat) : Int).toNat []) (slotB (b + s) s) (min (64 : UInt8).toNat 64) = slotB (b + s) s := by
          have hsl := hI.sl1
          have hlt : 1 - sl < (rd s d.now L.flatten).length := by rw [rd_len, hI.len]; omega
          have hrow := rd_rows L.flatten d.now hg hI.row (1 - sl) _ (List.getElem?_eq_getElem hlt)
          unfold over
          rw [Int.toNat_natCast, List.getD_eq_getElem?_getD, List.getElem?_eq_getElem hlt]
          show (slotB (b + s) s).take 64 ++ ((rd s d.now L.flatten)[1 - sl]).drop 64 = _
          rw [List.take_of_length_le (by rw [slotB_len]; omega), List.drop_of_length_le (by omega), List.append_nil]
        rw [e, Int.toNat_natCast]
      rw [q3, hfull]
      have : tear (tear (rd s d.now L.flatten) [⟨((1 - sl : Nat) : Int), slotB (b + s) s⟩] [64]) [] ch = tear (rd s d.now L.flatten) [⟨((1 - sl : Nat) : Int), slotB (b + s) s⟩] [64] := by
        cases ch <;> rfl
      rw [this]
      exact hslotcase [64]
end
end Go.Proofs.Ytjomnccladjpgaa

/-
  Plain: opening where power does not go.
-/
namespace Go.Proofs.Ytjomnccladjpgaa
open Go Go.RowKit
set_option linter.unusedVariables false
set_option linter.unusedSimpArgs false

section
variable {H : Hp} {i j : Nat} {d : Dsk} {s base slot used : Nat} {com : Int}
theorem img_next {s n b sl : Nat} {X : List (List UInt8)} {L : List (List S_api_Write)} (h : Img s n X b sl L) (hb1 : 1 ≤ b) (hb : b + s < 256) (hs : 3 ≤ s) (h2 : 2 + s < n) : Img s n (X.set (1 - sl) (slotB (b + s) s)) (b + s) (1 - sl) [] ∧ Fresh s (X.set (1 - sl) (slotB (b + s) s)) (b + s) 0 := by
  have hsl := h.sl1
  have hout : ∀ q, q ≠ 1 - sl → (X.set (1 - sl) (slotB (b + s) s))[q]? = X[q]? := fun q hq => List.getElem?_set_ne (by omega)
  have hlt : 1 - sl < X.length := by rw [h.len]; omega
  have hself : (X.set (1 - sl) (slotB (b + s) s))[1 - sl]? = some (slotB (b + s) s) := List.getElem?_set_self hlt
  have hfr : Fresh s (X.set (1 - sl) (slotB (b + s) s)) (b + s) 0 := fun p _ hp r hr => by
    rw [hout (2 + p) (by omega)] at hr
    have := h.tail p hp r hr
    omega
  have hrow : ∀ (q : Nat) (x : List UInt8), (X.set (1 - sl) (slotB (b + s) s))[q]? = some x → x.length = 64 := fun q x hx => by
    by_cases e : q = 1 - sl
    · rw [e, hself] at hx
      injection hx with hx
      rw [← hx]
      exact slotB_len _ _
    · rw [hout q e] at hx
      exact h.row q x hx
  refine ⟨⟨by rw [List.length_set]; exact h.len, hrow, by omega, hself, ⟨slotB b s, by rw [show 1 - (1 - sl) = sl by omega, hout sl (by omega)]; exact h.slot, older_slot hb1 (by omega) (by omega)⟩, ?_, fun p hp r hr => Nat.le_of_lt (hfr p (by omega) hp r hr)⟩, hfr⟩
  have hlt0 : 2 + (0 + 0) < X.length := by rw [h.len]; omega
  have hr0 : (X.set (1 - sl) (slotB (b + s) s))[2 + (0 + 0)]? = some X[2 + (0 + 0)] := by
    rw [hout _ (by omega)]
    exact List.getElem?_eq_getElem hlt0
  refine ⟨[⟨0, List.replicate 64 0⟩], 0, fun w hw => ?_, by simp, by simp, by omega, fun y e hy => by omega, by omega, .inr ⟨_, hr0, fun hv => ?_⟩⟩
  · rw [List.mem_singleton.1 hw]
    exact ⟨Int.le_refl _, by show (0 : Int) < _; omega, by simp⟩
  · have h1 := last_valid hv (hrow _ _ hr0) (by omega)
    have h3 := hfr (0 + 0) (by omega) (by omega) _ hr0
    omega
theorem open_live {n b sl : Nat} {L : List (List S_api_Write)} (h : DIn H i d) (ho : d.off = false) (hf : d.fuse < 0) (hI : Img s n d.now b sl L) (hwt : d.wait = []) (hn : n ≤ 16384) (hs : 3 ≤ s) (h2 : 2 + s < n) (hb : 1 ≤ b) (hb2 : b + s < 256) :
    ∃ H' d', m_wal_Open (some i) H = some (some H.lg.length, 0, H') ∧ WIn H' i H.lg.length d' s (b + s) (1 - sl) 0 0 ∧ d'.kept = d'.now ∧ d'.wait = [] ∧ d'.lives = d.lives ∧ Img s n d'.now (b + s) (1 - sl) [] ∧ Fresh s d'.now (b + s) 0 ∧ d'.now.drop (2 + s) = put1 (d.now.drop (2 + s)) L.flatten := by
  have hl := hI.len
  have hsl := hI.sl1
  obtain ⟨o, ho1, ho2⟩ := hI.oth
  obtain ⟨K, e1, e2⟩ := n_Open_find h ho hl hn hs h2 hb (by omega) hsl hI.slot ho1 ho2
  have hc : Ch s d.now.length d.now b 0 L := by rw [hl]; exact hI.ch
  have hsay := ch_says e2 hc
  have hg := ch_good L 0 _ _ _ hc
  have hpl := ch_places L 0 _ _ _ hc
  have hpl2 := places_len L
  obtain ⟨H', d', k1, k2, k3, k4, k5, k6⟩ := n_Open_j4 (H := H) ⟨e2, hf⟩ hb hsl (by omega) hsay hg (by omega) (by rw [hwt]; simp)
  rw [hl] at hg
  have hnx := img_next (img_rd hI hg) hb hb2 hs h2
  rw [← k3] at hnx
  refine ⟨H', d', by rw [e1, k1], k2, k4, k5, k6, hnx.1, hnx.2, ?_⟩
  rw [k3, List.drop_set, if_pos (by omega), rd_drop]
/-- What a crashed disk opens to. -/
theorem rec_open {n B : Nat} {hh : List (List UInt8)} (h : DIn H i d) (ho : d.off = false) (hf : d.fuse < 0) (hR : Rec s n B d.now hh) (hwt : d.wait = []) (hn : n ≤ 16384) (hs : 3 ≤ s) (h2 : 2 + s < n) (hB : B + s < 256) :
    ∃ H' d' j' base slot, m_wal_Open (some i) H = some (some j', 0, H') ∧ WIn H' i j' d' s base slot 0 0 ∧ d'.kept = d'.now ∧ d'.wait = [] ∧ d'.lives = d.lives ∧ d'.now.drop (2 + s) = hh ∧ Rec s n (B + s) d'.now hh := by
  obtain ⟨b, sl, L, hI, hb, hbB, hput⟩ := hR
  obtain ⟨H', d', e1, e2, e3, e4, e5, e6, e7, e8⟩ := open_live h ho hf hI hwt hn hs h2 hb (by omega)
  exact ⟨H', d', H.lg.length, b + s, 1 - sl, e1, e2, e3, e4, e5, by rw [e8, hput], b + s, 1 - sl, [], e6, by omega, by omega, by rw [e8, hput]; rfl⟩
end
end Go.Proofs.Ytjomnccladjpgaa

/-
  Plain: the state between commits, and a checkpoint from it.
-/
namespace Go.Proofs.Ytjomnccladjpgaa
open Go Go.RowKit
set_option linter.unusedVariables false
set_option linter.unusedSimpArgs false

/-- Between commits: what was kept holds the transactions L and nothing of this base behind them; what waits are writes of homes of L; the homes are h. -/
structure Idle (s n : Nat) (H : Hp) (i j : Nat) (d : Dsk) (b sl used : Nat) (com : Int) (L : List (List S_api_Write)) (h : List (List UInt8)) : Prop where
  lg : LIn H i j d s b sl used com
  fuse : d.fuse < 1000000
  img : Img s n d.kept b sl L
  fr : Fresh s d.kept b (places L)
  used_ : used = places L
  wt : ∀ x ∈ d.wait, x.b_.length = 64 ∧ ∃ v ∈ L.flatten, x.n_.toNat = 2 + s + v.Home.toNat
  wl : d.wait.length ≤ 1000
  low : ∀ q, q < 2 + s → d.now[q]? = d.kept[q]?
  put : put1 (d.kept.drop (2 + s)) L.flatten = h
  now_ : d.now.drop (2 + s) = h
section
variable {H : Hp} {i j : Nat} {d : Dsk} {s n b sl used : Nat} {com : Int} {L : List (List S_api_Write)} {h : List (List UInt8)}
theorem Idle.len (I : Idle s n H i j d b sl used com L h) : d.now.length = n := by
  rw [← I.lg.dsk.len]
  exact I.img.len
theorem Idle.safe (I : Idle s n H i j d b sl used com L h) (hb : 1 ≤ b) {B : Nat} (hB : b ≤ B) : Safe s n B d h := fun ch => by
  obtain ⟨h1, h2⟩ := tear_homes I.img I.wt ch
  exact ⟨b, sl, L, h1, hb, hB, by rw [h2, I.put]⟩
theorem Idle.imgNow (I : Idle s n H i j d b sl used com L h) : Img s n d.now b sl L := by
  have hsl := I.img.sl1
  refine ⟨I.len, fun q x hx => I.lg.dsk.row hx, hsl, by rw [I.low sl (by omega)]; exact I.img.slot, ?_, ch_congr (fun p hp => (I.low (2 + p) (by omega)).symm) L 0 I.img.ch, fun p hp r hr => I.img.tail p hp r (by rw [← I.low (2 + p) (by omega)]; exact hr)⟩
  obtain ⟨o, h1, h2⟩ := I.img.oth
  exact ⟨o, by rw [I.low (1 - sl) (by omega)]; exact h1, h2⟩
theorem Idle.putNow (I : Idle s n H i j d b sl used com L h) : put1 (d.now.drop (2 + s)) L.flatten = h := by
  rw [I.now_, ← I.put, put1_twice]
theorem idle_checkpoint (I : Idle s n H i j d b sl used com L h) (hb : 1 ≤ b) (hb2 : b + s < 256) {B : Nat} (hB : b + s ≤ B) :
    ∃ H' r d', m_wal_Log_Checkpoint (some j) H = some (r, H') ∧ DIn H' i d' ∧ d'.wait.length < 1000000 ∧ (r = 30 ∧ Safe s n B d' h ∨ r = 0 ∧ Idle s n H' i j d' (b + s) (1 - sl) 0 com [] h) := by
  have hsl := I.img.sl1
  have hs := I.lg.s3
  have h2 := I.lg.sl
  have hlen := I.len
  obtain ⟨H', r, d', k1, k2, k3, k4, k5⟩ := n_CheckpointF I.lg I.fuse hsl (by omega) (by have := I.wl; omega)
  have hwl := I.wl
  refine ⟨H', r, d', k1, k2, ?_, ?_⟩
  · rcases k5 with ⟨_, _, q⟩ | ⟨_, _, q⟩ | ⟨_, _, _, q, _⟩
    · rw [q]; omega
    · rw [q]; simp
    · rw [q]; simp
  rcases k5 with ⟨rfl, k5, k6⟩ | ⟨rfl, k5, k6⟩ | ⟨rfl, k5, k6, k7, k8⟩
  · left
    refine ⟨rfl, fun ch => ?_⟩
    rw [k5, k6]
    exact I.safe hb (by omega) ch
  · left
    refine ⟨rfl, fun ch => ?_⟩
    rw [k5, k6]
    have w0 : Good s n [⟨0, List.replicate 64 0⟩] := fun w hw => by
      rw [List.mem_singleton.1 hw]
      exact ⟨Int.le_refl _, by show (0 : Int) < _; omega, by simp⟩
    have hrest : (tear d.now [⟨((1 - sl : Nat) : Int), slotB (b + s) s⟩] ch).drop (2 + s) = d.now.drop (2 + s) := by
      apply List.ext_getElem?
      intro k
      rw [List.getElem?_drop, List.getElem?_drop]
      refine tear_no _ _ ch fun w hw e => ?_
      rw [List.mem_singleton.1 hw] at e
      have : (1 - sl : Nat) = 2 + s + k := e
      omega
    rcases tear_slot I.imgNow hb hb2 hs (by omega) w0 (by simp) (by simp) ch with q | q
    · exact ⟨b, sl, L, q, hb, by omega, by rw [hrest, I.putNow]⟩
    · exact ⟨b + s, 1 - sl, [], q, by omega, by omega, by rw [hrest, I.now_]; rfl⟩
  · right
    obtain ⟨q1, q2⟩ := img_next I.imgNow hb hb2 hs (by omega)
    have hd : d'.now.drop (2 + s) = h := by
      rw [k5, List.drop_set, if_pos (by omega), I.now_]
    refine ⟨rfl, k8, k4, by rw [k6, k5]; exact q1, by rw [k6, k5]; exact q2, rfl, fun x hx => ?_, by rw [k7]; simp, fun q _ => by rw [k6], by rw [k6, hd]; rfl, hd⟩
    rw [k7] at hx
    exact absurd hx List.not_mem_nil
end
end Go.Proofs.Ytjomnccladjpgaa
