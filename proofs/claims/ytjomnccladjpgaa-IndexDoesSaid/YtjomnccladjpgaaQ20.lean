/-
  Texts joined: see the remark at the head of each part.
-/
import Derived.Test.YtjomnccladjpgaaQ19
import Derived.Test.YtjomnccladjpgaaQ11
import Derived.Test.YtjomnccladjpgaaQ12
set_option linter.unusedVariables false
set_option linter.unusedSimpArgs false
/-
  Plain: what a log does: redo, commit, checkpoint, format, open.
-/
namespace Go.Proofs.Ytjomnccladjpgaa
open Go Go.RowKit
set_option linter.unusedVariables false
set_option linter.unusedSimpArgs false

section
variable {H : Hp} {i j : Nat} {d : Dsk} {s base slot used : Nat} {com : Int}
theorem WIn.wr (h : WIn H i j d s base slot used com) {k : Nat} (hk : k < d.now.length) {x : List UInt8} (hx : x.length = 64) (hw : d.wait.length < 1000000) :
    ∃ H', m_disk_Disk_Write (some i) (k : Int) x H = some (0, H') ∧ WIn H' i j { d with now := d.now.set k x, wait := d.wait ++ [⟨k, x⟩] } s base slot used com := by
  obtain ⟨H', e1, e2, e3⟩ := n_Write h.dsk h.off h.fuse hk hx hw
  refine ⟨H', e1, ⟨e2, h.off, by rw [e3]; exact h.lg, h.s3, ?_, ?_, h.bs⟩, h.fuse⟩
  · show _ < (d.now.set k x).length
    rw [List.length_set]; exact h.sl
  · show (d.now.set k x).length ≤ _
    rw [List.length_set]; exact h.ln
theorem WIn.fl (h : WIn H i j d s base slot used com) (hw : d.wait.length < 1000000) :
    ∃ H', m_disk_Disk_Flush (some i) H = some (0, H') ∧ WIn H' i j { d with kept := d.now, wait := [] } s base slot used com := by
  have := h.sl
  obtain ⟨H', e1, e2, e3⟩ := n_Flush h.dsk h.off h.fuse (by omega) hw
  exact ⟨H', e1, ⟨e2, h.off, by rw [e3]; exact h.lg, h.s3, h.sl, h.ln, h.bs⟩, h.fuse⟩
theorem WIn.jl (h : WIn H i j d s base slot used com) : j < H.lg.length := (List.getElem?_eq_some_iff.1 h.lg).1

/-! ### redo -/
def rd (s : Nat) (now : List (List UInt8)) (ws : List S_api_Write) : List (List UInt8) := ws.foldl (fun t w => t.set (2 + s + w.Home.toNat) w.Data) now
theorem n_redo_l1 {ws : List S_api_Write} (hwl : ws.length ≤ 100000) : ∀ (n z : Nat) (H : Hp) (d : Dsk), WIn H i j d s base slot used com → Good s d.now.length ws → d.wait.length + (ws.length - z) ≤ 200000 → z ≤ ws.length → ws.length - z < n →
    ∃ H' d', m_wal_Log_redo_l1 ws (some j) n (z : Int) H = some (0, H') ∧ WIn H' i j d' s base slot used com ∧ d'.now = rd s d.now (ws.drop z) ∧ d'.kept = d.kept ∧ d'.wait.length ≤ d.wait.length + (ws.length - z) ∧ d'.lives = d.lives
  | 0, z, _, _, _, _, _, _, h => by omega
  | n + 1, z, H, d, h, hg, hw, hz, hn => by
    have := h.ln
    have := h.sl
    unfold m_wal_Log_redo_l1
    by_cases hlt : z < ws.length
    · obtain ⟨w1, w2, w3⟩ := hg _ (List.getElem_mem hlt)
      have hH : ws[z].Home = (ws[z].Home.toNat : Int) := (Int.toNat_of_nonneg w1).symm
      have hb : 2 + s + ws[z].Home.toNat < d.now.length := by omega
      rw [bif_pos (dec_t (by omega)), idx_nat hlt, Option.bind_some]
      show ∃ H' d', Option.bind (H.lg[j]?) _ = _ ∧ _
      rw [h.lg, Option.bind_some]
      have e1 : m_wal_Log_home (some j) ws[z].Home H = some ((2 + s + ws[z].Home.toNat : Nat) : Int) := by
        have := n_home h.toLIn ws[z].Home.toNat (by omega)
        rwa [← hH] at this
      rw [e1, Option.bind_some]
      obtain ⟨H1, g1, g2⟩ := h.wr hb w3 (by omega)
      show ∃ H' d', Option.bind (m_disk_Disk_Write (some i) ((2 + s + ws[z].Home.toNat : Nat) : Int) ws[z].Data H) _ = _ ∧ _
      rw [g1, Option.bind_some, bif_neg (by rfl), wi_succ (by omega)]
      obtain ⟨H', d', k1, k2, k3, k4, k5, k6⟩ := n_redo_l1 hwl n (z + 1) H1 _ g2 (by show Good s (d.now.set _ _).length ws; rw [List.length_set]; exact hg) (by show (d.wait ++ [_]).length + _ ≤ _; simp; omega) (by omega) (by omega)
      refine ⟨H', d', k1, k2, ?_, k4, ?_, k6⟩
      · rw [k3, List.drop_eq_getElem_cons hlt]
        rfl
      · have k5' : d'.wait.length ≤ (d.wait ++ [_]).length + (ws.length - (z + 1)) := k5
        simp at k5'
        omega
    · have e : z = ws.length := by omega
      subst e
      rw [bif_neg (dec_f (by omega))]
      exact ⟨H, d, rfl, h, by rw [List.drop_length]; rfl, rfl, by omega, rfl⟩
theorem n_redo {ws : List S_api_Write} (h : WIn H i j d s base slot used com) (hwl : ws.length ≤ 100000) (hg : Good s d.now.length ws) (hw : d.wait.length ≤ 100000) :
    ∃ H' d', m_wal_Log_redo (some j) ws H = some (0, H') ∧ WIn H' i j d' s base slot used com ∧ d'.now = rd s d.now ws ∧ d'.kept = d.kept ∧ d'.wait.length ≤ d.wait.length + ws.length ∧ d'.lives = d.lives :=
  n_redo_l1 hwl (ws.length + 1) 0 H d h hg (by omega) (by omega) (by omega)

/-! ### raise, Checkpoint -/
theorem n_raise (h : WIn H i j d s base slot used com) (hs : slot ≤ 1) (hb : base + s + s ≤ 2305843009213693952) (hw : d.wait.length < 999999) :
    ∃ H' d', m_wal_Log_raise (some j) H = some (0, H') ∧ WIn H' i j d' s (base + s) (1 - slot) 0 com ∧ d'.now = d.now.set (1 - slot) (slotB (base + s) s) ∧ d'.kept = d'.now ∧ d'.wait = [] ∧ d'.lives = d.lives := by
  have := h.sl
  have := h.ln
  unfold m_wal_Log_raise
  show ∃ H' d', Option.bind (H.lg[j]?) _ = _ ∧ _
  rw [h.lg, Option.bind_some]
  show ∃ H' d', Option.bind (m_wal_slotBytes (wi ((base : Int) + (s : Int))) (s : Int)) _ = _ ∧ _
  rw [wi_id (z := (base : Int) + (s : Int)) (by omega) (by omega), show (base : Int) + (s : Int) = ((base + s : Nat) : Int) by omega, n_slotBytes (by omega) (by omega), Option.bind_some]
  obtain ⟨H1, g1, g2⟩ := h.wr (k := 1 - slot) (by omega) (slotB_len (base + s) s) (by omega)
  show ∃ H' d', Option.bind (m_disk_Disk_Write (some i) (wi (1 - (slot : Int))) (slotB (base + s) s) H) _ = _ ∧ _
  rw [wi_id (z := 1 - (slot : Int)) (by omega) (by omega), show 1 - (slot : Int) = ((1 - slot : Nat) : Int) by omega, g1, Option.bind_some, bif_neg (by rfl)]
  show ∃ H' d', Option.bind (H1.lg[j]?) _ = _ ∧ _
  rw [g2.lg, Option.bind_some]
  obtain ⟨H2, k1, k2⟩ := g2.fl (by show (d.wait ++ [_]).length < _; simp; omega)
  show ∃ H' d', Option.bind (m_disk_Disk_Flush (some i) H1) _ = _ ∧ _
  rw [k1, Option.bind_some, bif_neg (by rfl)]
  show ∃ H' d', Option.bind (H2.lg[j]?) _ = _ ∧ _
  rw [k2.lg, Option.bind_some]
  refine ⟨_, _, rfl, ⟨⟨k2.dsk.lg rfl rfl, k2.off, ?_, h.s3, k2.sl, k2.ln, by omega⟩, k2.fuse⟩, rfl, rfl, rfl, rfl⟩
  have hj := k2.jl
  show (((H2.lg.set j _).set j _).set j _)[j]? = _
  rw [List.getElem?_set_self (by simp; omega)]
  show some (S_wal_Log.mk _ _ (wi ((base : Int) + (s : Int))) _ _ _ _) = _
  rw [wi_id (z := (base : Int) + (s : Int)) (by omega) (by omega), show (base : Int) + (s : Int) = ((base + s : Nat) : Int) by omega]
  rfl
theorem n_Checkpoint (h : WIn H i j d s base slot used com) (hs : slot ≤ 1) (hb : base + s + s ≤ 2305843009213693952) (hw : d.wait.length < 999999) :
    ∃ H' d', m_wal_Log_Checkpoint (some j) H = some (0, H') ∧ WIn H' i j d' s (base + s) (1 - slot) 0 com ∧ d'.now = d.now.set (1 - slot) (slotB (base + s) s) ∧ d'.kept = d'.now ∧ d'.wait = [] ∧ d'.lives = d.lives := by
  have := h.sl
  have := h.ln
  unfold m_wal_Log_Checkpoint
  rw [n_alive h.toLIn, Option.bind_some, bif_neg (by rfl)]
  show ∃ H' d', Option.bind (H.lg[j]?) _ = _ ∧ _
  rw [h.lg, Option.bind_some]
  show ∃ H' d', (bif decide ((base : Int) > wi (2305843009213693952 - (s : Int))) then _ else _) = _ ∧ _
  rw [wi_id (z := 2305843009213693952 - (s : Int)) (by omega) (by omega), bif_neg (dec_f (by omega))]
  obtain ⟨H1, g1, g2⟩ := h.fl (by omega)
  show ∃ H' d', Option.bind (m_disk_Disk_Flush (some i) H) _ = _ ∧ _
  rw [g1, Option.bind_some, bif_neg (by rfl)]
  obtain ⟨H', d', k1, k2, k3, k4, k5, k6⟩ := n_raise g2 hs hb (by show ([] : List S_disk_write).length < _; simp)
  show ∃ H' d', Option.bind (m_wal_Log_raise (some j) H1) _ = _ ∧ _
  rw [k1, Option.bind_some]
  exact ⟨H', d', rfl, k2, k3, k4, k5, k6⟩

/-! ### Commit -/
/-! ### Format -/
abbrev Z64 : List UInt8 := List.replicate 64 0
theorem n_Format_l2 {n s : Nat} (hn : n ≤ 16384) (hs : 2 + s < n) : ∀ (m z : Nat) (H : Hp) (d : Dsk), DIn H i d → d.off = false → d.fuse < 0 → d.now = List.replicate n Z64 → d.wait.length + (2 + s - z) ≤ 200000 → z ≤ 2 + s → 2 + s - z < m →
    ∃ H' d', m_wal_Format_l2 (s : Int) (some i) m (z : Int) H = m_wal_Format_j1 (some i) (s : Int) H' ∧ DIn H' i d' ∧ d'.off = false ∧ d'.fuse < 0 ∧ d'.now = List.replicate n Z64 ∧ d'.wait.length ≤ 200000 ∧ d'.lives = d.lives ∧ H'.lg = H.lg
  | 0, z, _, _, _, _, _, _, _, _, h => by omega
  | m + 1, z, H, d, h, ho, hf, hnow, hw, hz, hm => by
    unfold m_wal_Format_l2
    rw [wi_id (z := 2 + (s : Int)) (by omega) (by omega)]
    by_cases hlt : z < 2 + s
    · rw [bif_pos (dec_t (by omega))]
      obtain ⟨H1, g1, g2, g3⟩ := n_Write h ho hf (k := z) (x := Z64) (by rw [hnow, List.length_replicate]; omega) (by simp) (by omega)
      show ∃ H' d', Option.bind (m_disk_Disk_Write (some i) (z : Int) Z64 H) _ = _ ∧ _
      rw [g1, Option.bind_some, bif_neg (by rfl), wi_succ (by omega)]
      obtain ⟨H', d', k1, k2, k3, k4, k5, k6, k7, k8⟩ := n_Format_l2 hn hs m (z + 1) H1 _ g2 ho hf (by show d.now.set z Z64 = _; rw [hnow, List.set_replicate_self]) (by show (d.wait ++ [_]).length + _ ≤ _; simp; omega) (by omega) (by omega)
      exact ⟨H', d', k1, k2, k3, k4, k5, k6, k7, by rw [k8, g3]⟩
    · rw [bif_neg (dec_f (by omega))]
      exact ⟨H, d, rfl, h, ho, hf, hnow, by omega, rfl, rfl⟩
theorem n_room {n : Nat} (h : DIn H i d) (hl : d.now.length = n) (hn : n ≤ 16384) (hs : 3 ≤ s) (h2 : 2 + s < n) : m_wal_room (some i) (s : Int) H = some true := by
  unfold m_wal_room
  rw [bif_pos (dec_t (by omega)), n_Size h (by omega), Option.bind_some, wi_id (z := (d.now.length : Int) - 2) (by omega) (by omega), wi_id (by omega) (by omega), dec_t (by omega)]
theorem n_Format {n s : Nat} (h : DIn H i d) (ho : d.off = false) (hf : d.fuse < 0) (hnow : d.now = List.replicate n Z64) (hw : d.wait = []) (hn : n ≤ 16384) (hs : 3 ≤ s) (h2 : 2 + s < n) :
    ∃ H' d', m_wal_Format (some i) (s : Int) H = some (0, H') ∧ DIn H' i d' ∧ d'.off = false ∧ d'.fuse < 0 ∧ d'.now = (List.replicate n Z64).set 0 (slotB 1 s) ∧ d'.kept = d'.now ∧ d'.wait = [] ∧ d'.lives = d.lives ∧ H'.lg = H.lg := by
  have hl : d.now.length = n := by rw [hnow, List.length_replicate]
  unfold m_wal_Format
  rw [n_Size h (by omega), Option.bind_some, bif_neg (ieq_f (by omega)), n_room h hl hn hs h2, Option.bind_some, bif_neg (by rfl), wi_id (z := 2 + (s : Int)) (by omega) (by omega)]
  obtain ⟨H1, d1, g1, g2, g3, g4, g5, g6, g7, g8⟩ := n_Format_l2 (s := s) hn h2 ((2 + (s : Int)).toNat + 1) 1 H d h ho hf hnow (by rw [hw]; simp; omega) (by omega) (by omega)
  rw [show ((1 : Nat) : Int) = 1 from rfl] at g1
  rw [g1]
  unfold m_wal_Format_j1
  obtain ⟨H2, k1, k2, k3⟩ := n_Flush g2 g3 g4 (by rw [g5, List.length_replicate]; omega) (by omega)
  rw [k1, Option.bind_some, bif_neg (by rfl)]
  have eS := n_slotBytes (b := 1) (s := s) (by omega) (by omega)
  rw [show ((1 : Nat) : Int) = 1 from rfl] at eS
  rw [eS, Option.bind_some]
  obtain ⟨H3, m1, m2, m3⟩ := n_Write k2 g3 g4 (k := 0) (by show 0 < d1.now.length; rw [g5, List.length_replicate]; omega) (slotB_len 1 s) (by show ([] : List S_disk_write).length < _; simp)
  rw [show ((0 : Nat) : Int) = 0 from rfl] at m1
  show ∃ H' d', Option.bind (m_disk_Disk_Write (some i) 0 (slotB 1 s) H2) _ = _ ∧ _
  rw [m1, Option.bind_some, bif_neg (by rfl)]
  obtain ⟨H4, q1, q2, q3⟩ := n_Flush m2 g3 g4 (by show 0 < (d1.now.set 0 _).length; rw [List.length_set, g5, List.length_replicate]; omega) (by show ([] ++ [_] : List S_disk_write).length < _; simp)
  show ∃ H' d', Option.bind (m_disk_Disk_Flush (some i) H3) _ = _ ∧ _
  rw [q1]
  exact ⟨H4, _, rfl, q2, g3, g4, by show d1.now.set 0 _ = _; rw [g5], rfl, rfl, g7, by rw [q3, m3, k3, g8]⟩

/-! ### Open -/
theorem n_readSlot {n b s k : Nat} (h : DIn H i d) (ho : d.off = false) (hl : d.now.length = n) (hn : n ≤ 16384) (hs : 3 ≤ s) (h2 : 2 + s < n) (hb : 1 ≤ b) (hb2 : b ≤ 2305843009213693952) (hr : d.now[k]? = some (slotB b s)) : m_wal_readSlot (some i) (k : Int) H = some ((b : Int), (s : Int), true) := by
  unfold m_wal_readSlot
  rw [n_Read h ho hr, Option.bind_some, bif_neg (by rfl)]
  have hL := slotB_len b s
  have e1 : cutI (slotB b s) 0 8 = some (be 8 b) := by
    have := cutI_mid (l := slotB b s) (lo := 0) (n := 8) (by omega) 8 rfl
    rw [show ((0 : Nat) : Int) = 0 from rfl, List.drop_zero] at this
    rw [this]
    unfold slotB
    rw [List.take_left' (be_length 8 b)]
  have e2 : cutI (slotB b s) 56 ((slotB b s).length : Int) = some (be 8 b) := by
    have := cutI_drop (l := slotB b s) (n := 56) (by omega)
    rw [show ((56 : Nat) : Int) = 56 from rfl] at this
    rw [this]
    unfold slotB
    rw [show be 8 b ++ (be 4 s ++ (List.replicate 44 (0 : UInt8) ++ be 8 b)) = (be 8 b ++ (be 4 s ++ List.replicate 44 (0 : UInt8))) ++ be 8 b by simp only [List.append_assoc], List.drop_left' (by simp [be_length])]
  have e3 : cutI (slotB b s) 8 12 = some (be 4 s) := by
    have := cutI_mid (l := slotB b s) (lo := 8) (n := 4) (by omega) 12 rfl
    rw [show ((8 : Nat) : Int) = 8 from rfl] at this
    rw [this]
    unfold slotB
    rw [List.drop_left' (be_length 8 b), List.take_left' (be_length 4 s)]
  have e4 : cutI (slotB b s) 12 56 = some (List.replicate 44 0) := by
    have := cutI_mid (l := slotB b s) (lo := 12) (n := 44) (by omega) 56 rfl
    rw [show ((12 : Nat) : Int) = 12 from rfl] at this
    rw [this]
    unfold slotB
    rw [show be 8 b ++ (be 4 s ++ (List.replicate 44 (0 : UInt8) ++ be 8 b)) = (be 8 b ++ be 4 s) ++ (List.replicate 44 (0 : UInt8) ++ be 8 b) by simp only [List.append_assoc], List.drop_left' (by simp [be_length]), List.take_left' (by simp)]
  obtain ⟨gb, gb2⟩ := getN_be (n := b) (k := 8) (by omega) (by omega) (by omega) (by omega)
  obtain ⟨gs, gs2⟩ := getN_be (n := s) (k := 4) (by omega) (by omega) (by omega) (by omega)
  show Option.bind (cutI (slotB b s) 0 8) _ = _
  rw [e1, Option.bind_some, n_Get, Option.bind_some]
  show Option.bind (cutI (slotB b s) 56 ((slotB b s).length : Int)) _ = _
  rw [e2, Option.bind_some, n_Get, Option.bind_some]
  show Option.bind (cutI (slotB b s) 8 12) _ = _
  rw [e3, Option.bind_some, n_Get, Option.bind_some, gb, gb2, gs, gs2]
  rw [bif_neg (by rfl), bif_neg (by rfl), bif_neg (by rfl), bif_neg (ine_f rfl), bif_neg (dec_f (by show ¬ (b : Int) < 1; omega)), bif_neg (dec_f (by show ¬ (b : Int) > 2305843009213693952; omega))]
  show Option.bind (m_wal_room (some i) (s : Int) H) _ = _
  rw [n_room h hl hn hs h2, Option.bind_some, bif_neg (by rfl)]
  show Option.bind (cutI (slotB b s) 12 56) _ = _
  rw [e4, Option.bind_some, show m_wal_noughts (List.replicate 44 0) = some true by decide +kernel, Option.bind_some, bif_neg (by rfl)]
theorem n_readZero {k : Nat} (h : DIn H i d) (ho : d.off = false) (hr : d.now[k]? = some Z64) : m_wal_readSlot (some i) (k : Int) H = some (0, 0, false) := by
  unfold m_wal_readSlot
  rw [n_Read h ho hr, Option.bind_some, bif_neg (by rfl)]
  show Option.bind (cutI Z64 0 8) _ = _
  rw [show cutI Z64 0 8 = some (List.replicate 8 0) by decide +kernel, Option.bind_some, show m_word_Get (List.replicate 8 0) = some (0, 0) by decide +kernel, Option.bind_some]
  show Option.bind (cutI Z64 56 64) _ = _
  rw [show cutI Z64 56 64 = some (List.replicate 8 0) by decide +kernel, Option.bind_some, show m_word_Get (List.replicate 8 0) = some (0, 0) by decide +kernel, Option.bind_some]
  show Option.bind (cutI Z64 8 12) _ = _
  rw [show cutI Z64 8 12 = some (List.replicate 4 0) by decide +kernel, Option.bind_some, show m_word_Get (List.replicate 4 0) = some (0, 0) by decide +kernel, Option.bind_some]
  rfl
theorem n_Open_take {H0 K : Hp} {x : S_wal_Log} {b s n z : Nat} (hK : DIn K i d) (hx : K.lg[H0.lg.length]? = some x) (hz : z < 2) (hr : m_wal_readSlot (some i) (z : Int) K = some ((b : Int), (s : Int), true)) (hb : x.base_ < (b : Int)) :
    ∃ K', m_wal_Open_l5 i H0 (n + 1) (z : Int) K = m_wal_Open_l5 i H0 n ((z + 1 : Nat) : Int) K' ∧ K'.lg[H0.lg.length]? = some ⟨x.d_, s, b, z, x.used_, x.life_, x.commits_⟩ ∧ DIn K' i d := by
  have hl : H0.lg.length < K.lg.length := (List.getElem?_eq_some_iff.1 hx).1
  rw [m_wal_Open_l5, bif_pos (dec_t (by omega)), hr, Option.bind_some, bif_pos (by rfl)]
  show ∃ K', Option.bind (K.lg[H0.lg.length]?) _ = _ ∧ _
  rw [hx, Option.bind_some, dec_t (show (b : Int) > x.base_ from hb)]
  unfold m_wal_Open_j6
  rw [bif_pos (by rfl)]
  show ∃ K', Option.bind (K.lg[H0.lg.length]?) _ = _ ∧ _
  rw [hx, Option.bind_some, wi_succ (by omega)]
  refine ⟨_, rfl, ?_, hK.lg rfl rfl⟩
  show (((K.lg.set H0.lg.length _).set H0.lg.length _).set H0.lg.length _)[H0.lg.length]? = _
  rw [List.getElem?_set_self (by simp; omega)]
theorem n_Open_skip {H0 K : Hp} {u v : Int} {n z : Nat} (hz : z < 2) (hr : m_wal_readSlot (some i) (z : Int) K = some (u, v, false)) : m_wal_Open_l5 i H0 (n + 1) (z : Int) K = m_wal_Open_l5 i H0 n ((z + 1 : Nat) : Int) K := by
  rw [m_wal_Open_l5, bif_pos (dec_t (by omega)), hr, Option.bind_some, bif_neg (by rfl)]
  unfold m_wal_Open_j6
  rw [bif_neg (by rfl), wi_succ (by omega)]
theorem n_Open_l5 {n b s : Nat} (h : DIn H i d) (ho : d.off = false) (hf : d.fuse < 0) (hl : d.now.length = n) (hn : n ≤ 16384) (hs : 3 ≤ s) (h2 : 2 + s < n) (hb : 1 ≤ b) (hb2 : b + s ≤ 2305843009213693952) (h0 : d.now[0]? = some (slotB b s)) (c : Nat) (h1 : d.now[1]? = some Z64 ∧ c = 0 ∨ d.now[1]? = some (slotB c s) ∧ b < c ∧ c + s ≤ 2305843009213693952) :
    ∃ K, m_wal_Open (some i) H = m_wal_Open_j4 H K ∧ WIn K i H.lg.length d s (if c = 0 then b else c) (if c = 0 then 0 else 1) 0 0 := by
  unfold m_wal_Open
  rw [n_Size h (by omega), Option.bind_some, bif_neg (ieq_f (by omega)), n_Off h (by omega), Option.bind_some, ho, bif_neg (by rfl)]
  show ∃ K, Option.bind (m_disk_Disk_Lives (some i) H) _ = _ ∧ _
  rw [n_Lives h (by omega), Option.bind_some]
  have hK0 : DIn (H.nw_lg ⟨some i, 0, 0, 0, 0, d.lives, 0⟩) i d := h.lg rfl rfl
  obtain ⟨K1, g1, g2, g3⟩ := n_Open_take (H0 := H) (n := 2) (z := 0) hK0 (x := ⟨some i, 0, 0, 0, 0, d.lives, 0⟩) (by show (H.lg ++ [_])[H.lg.length]? = _; simp) (by omega) (n_readSlot hK0 ho hl hn hs h2 hb (by omega) h0) (by show (0 : Int) < (b : Int); omega)
  show ∃ K, m_wal_Open_l5 i H (2 + 1) ((0 : Nat) : Int) (H.nw_lg ⟨some i, 0, 0, 0, 0, d.lives, 0⟩) = _ ∧ _
  rw [g1]
  rcases h1 with ⟨h1, rfl⟩ | ⟨h1, h3, h4⟩
  · rw [n_Open_skip (z := 0 + 1) (by omega) (n_readZero g3 ho h1)]
    refine ⟨K1, ?_, ⟨g3, ho, g2, hs, by omega, by omega, hb2⟩, hf⟩
    show m_wal_Open_l5 i H (0 + 1) 2 K1 = _
    rw [m_wal_Open_l5, bif_neg (by decide)]
  · obtain ⟨K2, k1, k2, k3⟩ := n_Open_take (H0 := H) (n := 1) (z := 0 + 1) g3 g2 (by omega) (n_readSlot g3 ho hl hn hs h2 (by omega) (by omega) h1) (by show (b : Int) < (c : Int); omega)
    rw [k1, if_neg (by omega), if_neg (by omega)]
    refine ⟨K2, ?_, ⟨k3, ho, k2, hs, by omega, by omega, h4⟩, hf⟩
    show m_wal_Open_l5 i H (0 + 1) 2 K2 = _
    rw [m_wal_Open_l5, bif_neg (by decide)]
theorem n_Open_j4 {K : Hp} {L : List S_api_Write} (h : WIn K i H.lg.length d s base slot 0 com) (h1 : 1 ≤ base) (hs : slot ≤ 1) (hb : base + s + s ≤ 2305843009213693952) (hL : m_wal_Log_says (some H.lg.length) K = some L) (hg : Good s d.now.length L) (hl : L.length ≤ 100000) (hw : d.wait.length ≤ 1000) :
    ∃ H' d', m_wal_Open_j4 H K = some (some H.lg.length, 0, H') ∧ WIn H' i H.lg.length d' s (base + s) (1 - slot) 0 com ∧ d'.now = (rd s d.now L).set (1 - slot) (slotB (base + s) s) ∧ d'.kept = d'.now ∧ d'.wait = [] ∧ d'.lives = d.lives := by
  have := h.ln
  have := h.sl
  unfold m_wal_Open_j4
  show ∃ H' d', Option.bind (K.lg[H.lg.length]?) _ = _ ∧ _
  rw [h.lg, Option.bind_some]
  show ∃ H' d', (bif ((base : Int) == 0) then _ else bif decide ((base : Int) > wi (2305843009213693952 - (s : Int))) then _ else _) = _ ∧ _
  rw [bif_neg (ieq_f (by omega)), wi_id (z := 2305843009213693952 - (s : Int)) (by omega) (by omega), bif_neg (dec_f (by omega))]
  show ∃ H' d', Option.bind (m_wal_Log_says (some H.lg.length) K) _ = _ ∧ _
  rw [hL, Option.bind_some]
  obtain ⟨H1, d1, g1, g2, g3, g4, g5, g6⟩ := n_redo h hl hg (by omega)
  show ∃ H' d', Option.bind (m_wal_Log_redo (some H.lg.length) L K) _ = _ ∧ _
  rw [g1, Option.bind_some, bif_neg (by rfl)]
  obtain ⟨H2, d2, k1, k2, k3, k4, k5, k6⟩ := n_Checkpoint g2 hs hb (by omega)
  show ∃ H' d', Option.bind (m_wal_Log_Checkpoint (some H.lg.length) H1) _ = _ ∧ _
  rw [k1, Option.bind_some, bif_neg (by rfl)]
  exact ⟨H2, d2, rfl, k2, by rw [k3, g3], k4, k5, by rw [k6, g6]⟩
end
end Go.Proofs.Ytjomnccladjpgaa

/-
  Plain: what a transaction does.
-/
namespace Go.Proofs.Ytjomnccladjpgaa
open Go Go.RowKit
set_option linter.unusedVariables false
set_option linter.unusedSimpArgs false

/-! ### Maps told by their entries -/
section
variable {ν : Type}
theorem mf_nil (k : Int) : mfind ([] : List (Int × ν)) k = none := rfl
theorem mf_cons (a : Int × ν) (l : List (Int × ν)) (k : Int) : mfind (a :: l) k = if k = a.1 then some a.2 else mfind l k := by
  unfold mfind mpos
  rw [List.findIdx?_cons]
  by_cases h : k = a.1
  · rw [if_pos (by simpa using h), if_pos h]
    rfl
  · rw [if_neg (by simpa using h), if_neg h]
    cases List.findIdx? (fun p : Int × ν => k == p.1) l <;> rfl
theorem ms_nil (k : Int) (v : ν) : mset [] k v = [(k, v)] := rfl
theorem ms_cons (a : Int × ν) (l : List (Int × ν)) (k : Int) (v : ν) : mset (a :: l) k v = if k = a.1 then (k, v) :: l else a :: mset l k v := by
  unfold mset mpos
  rw [List.findIdx?_cons]
  by_cases h : k = a.1
  · rw [if_pos (by simpa using h), if_pos h]
    rfl
  · rw [if_neg (by simpa using h), if_neg h]
    cases List.findIdx? (fun p : Int × ν => k == p.1) l <;> rfl
theorem mf_ms (l : List (Int × ν)) (k q : Int) (v : ν) : mfind (mset l k v) q = if q = k then some v else mfind l q := by
  induction l with
  | nil => rw [ms_nil, mf_cons, mf_nil]
  | cons a l ih =>
    rw [ms_cons]
    by_cases h : k = a.1
    · rw [if_pos h, mf_cons, mf_cons]
      by_cases h2 : q = k
      · rw [if_pos h2, if_pos h2]
      · rw [if_neg h2, if_neg h2, if_neg (by rw [← h]; exact h2)]
    · rw [if_neg h, mf_cons, mf_cons, ih]
      by_cases h2 : q = k
      · rw [if_pos h2, if_pos h2, if_neg (by rw [h2]; exact h)]
      · rw [if_neg h2, if_neg h2]
end

/-- A transaction: what its homes are (hs), and what was written (mp). -/
structure TIn (H : Hp) (t : Nat) (hs : List (List UInt8)) (mp : List (Int × List UInt8)) : Prop where
  at_ : ∃ i j d s b sl us com m, LIn H i j d s b sl us com ∧ H.tx[t]? = some ⟨some j, com, false, m⟩ ∧ H.mp[m]? = some mp ∧ hs.length = d.now.length - 2 - s ∧
    ∀ (k : Nat) (r : List UInt8), hs[k]? = some r → mfind mp (k : Int) = some r ∨ mfind mp (k : Int) = none ∧ d.now[2 + s + k]? = some r
  row : ∀ r ∈ hs, r.length = 64
  keys : ∀ (q : Int) (r : List UInt8), mfind mp q = some r → 0 ≤ q ∧ q < (hs.length : Int)

section
variable {H : Hp} {t : Nat} {hs : List (List UInt8)} {mp : List (Int × List UInt8)}
theorem TIn.low (h : TIn H t hs mp) : hs.length ≤ 16384 := by
  obtain ⟨⟨i, j, d, s, b, sl, us, com, m, h1, h2, h3, h4, h5⟩, _, _⟩ := h
  have := h1.ln
  omega
theorem TIn.wide (h : TIn H t hs mp) {k : Nat} {r : List UInt8} (hk : hs[k]? = some r) : r.length = 64 := h.row r (List.mem_of_getElem? hk)
theorem TIn.ht (h : TIn H t hs mp) : t < H.tx.length := by
  obtain ⟨⟨i, j, d, s, b, sl, us, com, m, h1, h2, h3, h4, h5⟩, _, _⟩ := h
  exact (List.getElem?_eq_some_iff.1 h2).1
theorem TIn.tell {H' : Hp} (h : TIn H t hs mp) (e1 : H'.dk = H.dk) (e2 : H'.sec = H.sec) (e3 : H'.lg = H.lg) (e4 : H'.tx = H.tx) (e5 : H'.mp = H.mp) : TIn H' t hs mp := by
  obtain ⟨⟨i, j, d, s, b, sl, us, com, m, h1, h2, h3, h4, h5⟩, h6, h7⟩ := h
  exact ⟨⟨i, j, d, s, b, sl, us, com, m, ⟨h1.dsk.lg e1 e2, h1.off, by rw [e3]; exact h1.lg, h1.s3, h1.sl, h1.ln, h1.bs⟩, by rw [e4]; exact h2, by rw [e5]; exact h3, h4, h5⟩, h6, h7⟩
theorem n_TAlive (h : TIn H t hs mp) : m_wal_Txn_alive (some t) H = some 0 := by
  obtain ⟨⟨i, j, d, s, b, sl, us, com, m, h1, h2, h3, h4, h5⟩, h6, h7⟩ := h
  unfold m_wal_Txn_alive
  show Option.bind (H.tx[t]?) _ = _
  rw [h2, Option.bind_some]
  show Option.bind (m_wal_Log_alive (some j) H) _ = _
  rw [n_alive h1, Option.bind_some, bif_neg (ine_f rfl)]
  show Option.bind (H.lg[j]?) _ = _
  rw [h1.lg, Option.bind_some]
  show (bif com != com then some 34 else some 0) = _
  rw [bif_neg (ine_f rfl)]
theorem n_TRead (h : TIn H t hs mp) {k : Nat} {r : List UInt8} (hr : hs[k]? = some r) : m_wal_Txn_Read (some t) (k : Int) H = some (r, 0) := by
  have ha := n_TAlive h
  have hw := h.wide hr
  obtain ⟨⟨i, j, d, s, b, sl, us, com, m, h1, h2, h3, h4, h5⟩, h6, h7⟩ := h
  unfold m_wal_Txn_Read
  rw [ha, Option.bind_some, bif_neg (ine_f rfl)]
  show Option.bind (H.tx[t]?) _ = _
  rw [h2, Option.bind_some]
  show Option.bind (H.mp[m]?) _ = _
  rw [h3, Option.bind_some]
  rcases h5 k r hr with h8 | ⟨h8, h9⟩
  · rw [h8, bif_pos (by rfl)]
    show Option.bind (m_slices_Clone_byte r) _ = _
    unfold m_slices_Clone_byte
    rw [appI_ok (by rw [List.length_nil]; omega), Option.bind_some]
    rfl
  · rw [h8, bif_neg (by rfl)]
    show Option.bind (m_wal_Log_Read (some j) (k : Int) H) _ = _
    rw [n_LRead h1 h9]
    rfl
theorem n_LReadOut {i j : Nat} {d : Dsk} {s b sl us : Nat} {com : Int} (h : LIn H i j d s b sl us com) {z : Int} (hz : ¬ (0 ≤ z ∧ z < ((d.now.length - 2 - s : Nat) : Int))) : m_wal_Log_Read (some j) z H = some ([], 31) := by
  unfold m_wal_Log_Read
  rw [n_alive h, Option.bind_some, bif_neg (ine_f rfl)]
  by_cases h0 : z < 0
  · rw [bif_pos (dec_t h0)]
  · rw [bif_neg (dec_f h0), n_Homes h, Option.bind_some, bif_pos (dec_t (by omega))]
theorem n_TReadOut (h : TIn H t hs mp) {z : Int} (hz : ¬ (0 ≤ z ∧ z < (hs.length : Int))) : m_wal_Txn_Read (some t) z H = some ([], 31) := by
  have ha := n_TAlive h
  obtain ⟨⟨i, j, d, s, b, sl, us, com, m, h1, h2, h3, h4, h5⟩, h6, h7⟩ := h
  unfold m_wal_Txn_Read
  rw [ha, Option.bind_some, bif_neg (ine_f rfl)]
  show Option.bind (H.tx[t]?) _ = _
  rw [h2, Option.bind_some]
  show Option.bind (H.mp[m]?) _ = _
  rw [h3, Option.bind_some]
  have h8 : mfind mp z = none := by
    cases hf : mfind mp z with
    | none => rfl
    | some r => exact absurd (h7 z r hf) hz
  rw [h8, bif_neg (by rfl)]
  show Option.bind (m_wal_Log_Read (some j) z H) _ = _
  rw [n_LReadOut h1 (by rw [← h4]; exact hz)]
  rfl
theorem n_TWrite (h : TIn H t hs mp) {k : Nat} (hk : k < hs.length) {x : List UInt8} (hx : x.length = 64) :
    ∃ H', m_wal_Txn_Write (some t) (k : Int) x H = some (0, H') ∧ TIn H' t (hs.set k x) (mset mp (k : Int) x) ∧ ∃ m v, H' = H.st_mp m v := by
  have ha := n_TAlive h
  obtain ⟨⟨i, j, d, s, b, sl, us, com, m, h1, h2, h3, h4, h5⟩, h6, h7⟩ := h
  have hm : m < H.mp.length := (List.getElem?_eq_some_iff.1 h3).1
  refine ⟨H.st_mp m (mset mp (k : Int) x), ?_, ⟨⟨i, j, d, s, b, sl, us, com, m, ⟨h1.dsk.lg rfl rfl, h1.off, h1.lg, h1.s3, h1.sl, h1.ln, h1.bs⟩, h2, List.getElem?_set_self hm, by rw [List.length_set]; exact h4, fun q r hq => ?_⟩, fun r hr => ?_, fun q r hq => ?_⟩, m, _, rfl⟩
  · unfold m_wal_Txn_Write
    rw [ha, Option.bind_some, bif_neg (ine_f rfl), bif_neg (dec_f (by omega))]
    show Option.bind (H.tx[t]?) _ = _
    rw [h2, Option.bind_some]
    show Option.bind (m_wal_Log_Homes (some j) H) _ = _
    rw [n_Homes h1, Option.bind_some, bif_neg (dec_f (by omega)), bif_neg (ine_f (by omega))]
    unfold m_slices_Clone_byte
    rw [appI_ok (by rw [List.length_nil]; omega), Option.bind_some]
    show Option.bind (H.mp[m]?) _ = _
    rw [h3, Option.bind_some]
    rfl
  · rw [mf_ms]
    by_cases e : q = k
    · subst e
      rw [List.getElem?_set_self hk] at hq
      rw [if_pos rfl]
      exact .inl hq
    · rw [List.getElem?_set_ne (by omega)] at hq
      rw [if_neg (by omega)]
      exact h5 q r hq
  · rcases List.mem_or_eq_of_mem_set hr with hr | rfl
    · exact h6 r hr
    · exact hx
  · rw [List.length_set]
    rw [mf_ms] at hq
    by_cases e : q = k
    · omega
    · rw [if_neg e] at hq
      exact h7 q r hq
end

/-! ### A disk made anew, a log on it, a transaction of it -/
theorem z_badA {st : Nat} (h1 : 0 < st) (h2 : st < 18446744073709551616) : ¬ Valid st Z64 := by
  intro h
  have := congrArg ofBE (valid_end h)
  rw [ofBE_be, Nat.mod_eq_of_lt (by omega), show ofBE (Z64.drop 56) = 0 by decide +kernel] at this
  omega
/-- The homes of a log just made: noughts. -/
theorem open_new (w1 : Hp) {n s : Nat} (hn : n ≤ 16384) (hs : 3 ≤ s) (h2 : 2 + s < n) : ∃ H1 H2 H3 i j d, m_disk_New (n : Int) w1 = some (some i, 0, H1) ∧ m_wal_Format (some i) (s : Int) H1 = some (0, H2) ∧ m_wal_Open (some i) H2 = some (some j, 0, H3) ∧ WIn H3 i j d s (1 + s) 1 0 0 ∧ d.wait = [] ∧ d.now = ((List.replicate n Z64).set 0 (slotB 1 s)).set 1 (slotB (1 + s) s) := by
  obtain ⟨H1, e1, e2, e3⟩ := n_New (H := w1) (n := n) (by omega) (by omega)
  obtain ⟨H2, d2, f1, f2, f3, f4, f5, f6, f7, f8, f9⟩ := n_Format (n := n) (s := s) e2 rfl (by show (-1 : Int) < 0; omega) rfl rfl (by omega) (by omega) (by omega)
  have hl : d2.now.length = n := by rw [f5]; simp
  obtain ⟨K, g1, g2⟩ := n_Open_l5 (b := 1) (s := s) f2 f3 f4 hl (by omega) (by omega) (by omega) (by omega) (by omega) (by rw [f5, List.getElem?_set_self (by simp; omega)]) 0 (.inl ⟨by rw [f5, List.getElem?_set_ne (by omega), List.getElem?_replicate, if_pos (by omega)], rfl⟩)
  rw [if_pos rfl, if_pos rfl] at g2
  have hr : d2.now[2 + 0]? = some Z64 := by rw [f5, List.getElem?_set_ne (by omega), List.getElem?_replicate, if_pos (by omega)]
  have hs2 := n_says_none g2.toLIn ⟨_, n_at g2.toLIn (p := 0) (by omega) hr, atE_bad (z_badA (by omega) (by omega)) (by simp)⟩
  obtain ⟨H3, d3, k1, k2, k3, k4, k5, k6⟩ := n_Open_j4 (H := H2) g2 (by omega) (by omega) (by omega) hs2 (fun w hw => absurd hw List.not_mem_nil) (by simp) (by rw [f7]; simp)
  refine ⟨H1, H2, H3, w1.dk.length, H2.lg.length, d3, e1, f1, ?_, k2, k5, ?_⟩
  · rw [g1, k1]
  · rw [k3, f5]
    rfl
theorem n_Begin {H : Hp} {i j : Nat} {d : Dsk} {s b sl us : Nat} {com : Int} (h : LIn H i j d s b sl us com) : ∃ H', m_wal_Log_Begin (some j) H = some (some H.tx.length, 0, H') ∧ TIn H' H.tx.length (d.now.drop (2 + s)) [] ∧ H'.ix = H.ix := by
  have hsl := h.sl
  let X : S_wal_Txn := ⟨some j, com, false, H.mp.length⟩
  have e1 : ((H.nw_mp []).nw_tx X).tx[H.tx.length]? = some X := by
    show (H.tx ++ [X])[H.tx.length]? = _
    exact List.getElem?_concat_length
  have e2 : ((H.nw_mp []).nw_tx X).mp[H.mp.length]? = some [] := by
    show (H.mp ++ [[]])[H.mp.length]? = _
    exact List.getElem?_concat_length
  refine ⟨(H.nw_mp []).nw_tx X, ?_, ⟨⟨i, j, d, s, b, sl, us, com, H.mp.length, ⟨h.dsk.lg rfl rfl, h.off, h.lg, h.s3, h.sl, h.ln, h.bs⟩, e1, e2, by rw [List.length_drop]; omega, fun k r hk => .inr ⟨rfl, by rw [List.getElem?_drop] at hk; exact hk⟩⟩, fun r hr => ?_, fun q r hq => by cases hq⟩, rfl⟩
  · unfold m_wal_Log_Begin
    rw [n_alive h, Option.bind_some, bif_neg (ine_f rfl)]
    show Option.bind (H.lg[j]?) _ = _
    rw [h.lg, Option.bind_some]
    rfl
  · obtain ⟨k, hk⟩ := List.getElem?_of_mem hr
    rw [List.getElem?_drop] at hk
    exact h.dsk.row hk
end Go.Proofs.Ytjomnccladjpgaa

/-
  Plain: the bytes of an index's entries, and what the document says of them.
-/
namespace Go.Proofs.Ytjomnccladjpgaa
open Go Go.RowKit
set_option linter.unusedVariables false
set_option linter.unusedSimpArgs false

/-! ### Numbers as bytes, as the document has them -/
theorem U8_nat {n : Nat} (h : n < 256) : U8 (n : Int) = UInt8.ofNat n := by
  unfold U8
  congr 1
  omega
theorem ofBE_le (x y : List UInt8) : ofBE x ≤ ofBE (x ++ y) := by
  unfold ofBE
  rw [List.foldl_append]
  generalize List.foldl (fun x c => x * 256 + c.toNat) 0 x = a
  induction y generalizing a with
  | nil => exact Nat.le_refl _
  | cons c r ih => exact Nat.le_trans (by omega) (ih (a * 256 + UInt8.toNat c))
theorem n_R01_Get_l2 (b : List UInt8) (hb : b.length ≤ 8) : ∀ (n i : Nat), i ≤ b.length → b.length - i < n → ofBE (b.take i) ≤ 4611686018427387904 → m_R01_Get_l2 b n (ofBE (b.take i) : Int) (i : Int) = some (if 4611686018427387904 < ofBE b then (0, 11) else ((ofBE b : Int), 0))
  | 0, i, _, h, _ => by omega
  | n + 1, i, hi, h, ho => by
    unfold m_R01_Get_l2
    by_cases hlt : i < b.length
    · rw [bif_pos (dec_t (by omega)), idx_nat hlt, Option.bind_some]
      have ht : ofBE (b.take (i + 1)) = ofBE (b.take i) * 256 + b[i].toNat := by rw [← List.take_append_getElem hlt, ofBE_snoc]
      have hm : ofBE (b.take (i + 1)) ≤ ofBE b := by
        have := ofBE_le (b.take (i + 1)) (b.drop (i + 1))
        rwa [List.take_append_drop] at this
      have hc := b[i].toNat_lt
      have hgo : ofBE (b.take (i + 1)) ≤ 4611686018427387904 → ∀ y, m_R01_Get_j3 (m_R01_Get_l2 b n) (ofBE (b.take i) : Int) b[i] (i : Int) y = some (if 4611686018427387904 < ofBE b then (0, 11) else ((ofBE b : Int), 0)) := by
        intro hle y
        unfold m_R01_Get_j3
        rw [wi_succ (by omega), wi_id (z := 256 * (ofBE (b.take i) : Int)) (by omega) (by omega), wi_id (by omega) (by omega)]
        rw [show (256 * (ofBE (b.take i) : Int) + (b[i].toNat : Int)) = ((ofBE (b.take (i + 1)) : Nat) : Int) by rw [ht]; omega]
        exact n_R01_Get_l2 b hb n (i + 1) (by omega) (by omega) hle
      by_cases h1 : 18014398509481984 < ofBE (b.take i)
      · rw [bif_pos (dec_t (by omega)), if_pos (by omega)]
      · rw [bif_neg (dec_f (by omega))]
        by_cases h2 : ofBE (b.take i) = 18014398509481984
        · rw [bif_pos (ieq_t (by omega))]
          by_cases h3 : 0 < b[i].toNat
          · rw [bif_pos (dec_t (by omega)), if_pos (by omega)]
          · rw [bif_neg (dec_f (by omega))]
            exact hgo (by omega) _
        · rw [bif_neg (ieq_f (by omega))]
          exact hgo (by omega) _
    · have e : i = b.length := by omega
      subst e
      rw [bif_neg (dec_f (by omega))]
      rw [List.take_length] at ho ⊢
      rw [if_neg (by omega)]
      rfl
theorem n_R01_Get (b : List UInt8) : m_R01_Get b = some (getN b, getE b) := by
  unfold m_R01_Get getN getE
  by_cases h0 : b.length = 0
  · rw [bif_pos (ieq_t (by omega)), if_pos (.inl h0), if_pos h0]
  · rw [bif_neg (ieq_f (by omega)), if_neg h0]
    by_cases h8 : 8 < b.length
    · rw [bif_pos (dec_t (by omega)), if_pos (.inr (.inl h8)), if_pos h8]
    · rw [bif_neg (dec_f (by omega)), if_neg h8]
      have h := n_R01_Get_l2 b (by omega) (b.length + 1) 0 (by omega) (by omega) (by simp [ofBE])
      have e : m_R01_Get_l2 b (b.length + 1) 0 0 = m_R01_Get_l2 b (b.length + 1) ((ofBE (b.take 0) : Nat) : Int) ((0 : Nat) : Int) := rfl
      rw [e, h]
      by_cases hx : 4611686018427387904 < ofBE b
      · rw [if_pos hx, if_pos hx, if_pos (.inr (.inr hx))]
      · rw [if_neg hx, if_neg hx, if_neg (by omega)]

theorem n_R01_Low_l2 (k : Nat) (hk : k ≤ 8) : ∀ (n i m : Nat) (out : List UInt8), i ≤ k → k - i < n → out.length = i → m ≤ 4611686018427387904 → m_R01_Low_l2 (k : Int) n (m : Int) out (i : Int) = some (if 0 < m / 256 ^ (k - i) then ([], 2) else (out ++ le (k - i) m, 0))
  | 0, i, m, out, _, h, _, _ => by omega
  | n + 1, i, m, out, hi, h, ho, hm => by
    unfold m_R01_Low_l2
    by_cases hlt : i < k
    · rw [bif_pos (dec_t (by omega)), appI_ok (by simp; omega), Option.bind_some, wi_succ (by omega)]
      have e1 : Int.tdiv (m : Int) 256 = ((m / 256 : Nat) : Int) := rfl
      have e2 : Int.tmod (m : Int) 256 = ((m % 256 : Nat) : Int) := rfl
      rw [e1, e2, wi_id (by omega) (by omega), U8_nat (by omega), n_R01_Low_l2 k hk n (i + 1) (m / 256) _ (by omega) (by omega) (by simp [ho]) (by omega)]
      obtain ⟨j, hj⟩ : ∃ j, k - i = j + 1 := ⟨k - i - 1, by omega⟩
      rw [show k - (i + 1) = j by omega, hj, Nat.div_div_eq_div_mul, ← Nat.pow_succ', le]
      simp
    · have e : k - i = 0 := by omega
      rw [bif_neg (dec_f (by omega)), e]
      unfold m_R01_Low_j1
      by_cases h0 : 0 < m
      · rw [bif_pos (dec_t (by omega)), if_pos (by simpa using h0)]
      · rw [bif_neg (dec_f (by omega)), if_neg (by simpa using h0)]
        simp [le]
theorem n_R01_Turned_l1 (b : List UInt8) (hb : b.length ≤ 4611686018427387904) : ∀ (n i : Nat) (out : List UInt8), i ≤ b.length → i < n → out.length + i ≤ 1000000000 → m_R01_Turned_l1 b n out ((i : Int) - 1) = some (out ++ (b.take i).reverse)
  | 0, i, out, _, h, _ => by omega
  | n + 1, i, out, hi, h, ho => by
    unfold m_R01_Turned_l1
    cases i with
    | zero =>
      rw [bif_neg (dec_f (by omega))]
      simp
    | succ i =>
      rw [bif_pos (dec_t (by omega)), show ((i + 1 : Nat) : Int) - 1 = (i : Int) by omega, idx_nat (by omega), Option.bind_some, appI_ok (by simp; omega), Option.bind_some, wi_id (by omega) (by omega),
        n_R01_Turned_l1 b hb n i _ (by omega) (by omega) (by simp; omega), ← List.take_append_getElem (by omega : i < b.length), List.reverse_append]
      simp
theorem n_R01_Put {n k : Nat} (h : n < 256 ^ k) (h1 : 1 ≤ k) (h8 : k ≤ 8) (hn : n ≤ 4611686018427387904) : m_R01_Put (n : Int) (k : Int) = some (be k n, 0) := by
  unfold m_R01_Put m_R01_Low
  rw [bif_neg (dec_f (by omega)), bif_neg (dec_f (by omega)), bif_neg (dec_f (by omega)), bif_neg (dec_f (by omega)), Int.toNat_natCast]
  have hl := n_R01_Low_l2 k h8 (k + 1) 0 n [] (by omega) (by omega) rfl hn
  rw [Nat.sub_zero, if_neg (by rw [Nat.div_eq_of_lt h]; omega)] at hl
  show Option.bind (m_R01_Low_l2 (k : Int) (k + 1) (n : Int) [] ((0 : Nat) : Int)) _ = _
  rw [hl, Option.bind_some]
  show Option.bind (m_R01_Turned (le k n)) _ = _
  unfold m_R01_Turned
  rw [le_length, wi_id (by omega) (by omega)]
  have ht := n_R01_Turned_l1 (le k n) (by rw [le_length]; omega) (Int.toNat ((k : Int) - 1) + 2) k [] (by rw [le_length]; exact Nat.le_refl _) (by omega) (by simp; omega)
  rw [ht, Option.bind_some, show (le k n).take k = le k n from List.take_of_length_le (by rw [le_length]; exact Nat.le_refl _)]
  rfl

theorem n_number {n k : Nat} (h : n < 256 ^ k) (h1 : 1 ≤ k) (h8 : k ≤ 8) (hn : n ≤ 4611686018427387904) : m_R20_number (n : Int) (k : Int) = some (be k n) := by
  unfold m_R20_number
  rw [n_R01_Put h h1 h8 hn]
  rfl
theorem n_R01_Same_l1 (a b : List UInt8) (hl : a.length = b.length) (hb : a.length < 4611686018427387904) : ∀ (n i : Nat), i ≤ a.length → a.length - i < n → m_R01_Same_l1 a b n (i : Int) = some (a.drop i == b.drop i)
  | 0, i, _, h => by omega
  | n + 1, i, hi, h => by
    unfold m_R01_Same_l1
    by_cases hlt : i < a.length
    · have hlb : i < b.length := by omega
      rw [bif_pos (dec_t (by omega)), idx_nat hlt, Option.bind_some, idx_nat hlb, Option.bind_some, wi_succ (by omega), n_R01_Same_l1 a b hl hb n (i + 1) (by omega) (by omega)]
      have ha : a.drop i = a[i] :: a.drop (i + 1) := List.drop_eq_getElem_cons hlt
      have hb : b.drop i = b[i] :: b.drop (i + 1) := List.drop_eq_getElem_cons hlb
      rw [ha, hb]
      generalize a[i] = x
      generalize b[i] = y
      by_cases he : x = y
      · subst he
        rw [bif_neg (ine_f rfl)]
        simp
      · rw [bif_pos (ine_t (fun h => he (UInt8.toNat_inj.1 (by omega))))]
        simp [he]
    · rw [bif_neg (dec_f (by omega)), List.drop_eq_nil_of_le (by omega), List.drop_eq_nil_of_le (by omega)]
      rfl
theorem n_R01_Same (a b : List UInt8) (hb : a.length < 4611686018427387904) : m_R01_Same a b = some (a == b) := by
  unfold m_R01_Same
  by_cases hl : a.length = b.length
  · rw [bif_neg (ine_f (by omega))]
    exact n_R01_Same_l1 a b hl hb _ 0 (Nat.zero_le _) (by omega)
  · rw [bif_pos (ine_t (by omega))]
    congr 1
    symm
    rw [beq_eq_false_iff_ne]
    exact fun e => hl (by rw [e])
theorem n_get {b : List UInt8} (h : b.length = 4) : m_index_get b = some (ofBE b : Int) := by
  unfold m_index_get
  rw [n_Get, Option.bind_some, (getN_4 h).1, (getN_4 h).2]
  rfl
theorem n_get_any (b : List UInt8) : m_index_get b = some (if getE b = 0 then getN b else -1) := by
  unfold m_index_get
  rw [n_Get, Option.bind_some]
  show (bif getE b != 0 then some (-1) else some (getN b)) = _
  by_cases h : getE b = 0
  · rw [bif_neg (ine_f h), if_pos h]
  · rw [bif_pos (ine_t h), if_neg h]

/-! ### Keys -/
def okc (c : UInt8) : Bool := decide (33 ≤ c.toNat) && decide (c.toNat ≤ 126)
def keyB (k : List UInt8) : Bool := decide (1 ≤ k.length) && (decide (k.length ≤ 40) && k.all okc)
def bkt : Nat → List UInt8 → Nat
  | h, [] => h
  | h, c :: r => bkt ((31 * h + c.toNat) % 4294967296) r
def buckN (k : List UInt8) : Nat := bkt 0 k % 64
theorem buckN_lt (k : List UInt8) : buckN k < 64 := Nat.mod_lt _ (by omega)
theorem u32_mod (n : Nat) : IntKind.u32.wrap (n : Int) = ((n % 4294967296 : Nat) : Int) := by
  simp [IntKind.wrap, IntKind.bits, IntKind.signed]
theorem n_Bucket_l2 (k : List UInt8) (hk : k.length ≤ 1000) : ∀ (n i h : Nat), i ≤ k.length → k.length - i < n → h < 4294967296 → m_index_Bucket_l2 k n (h : Int) (i : Int) = some (if (k.drop i).all okc then (((bkt h (k.drop i) % 64 : Nat) : Int), true) else (0, false))
  | 0, i, h, _, hn, _ => by omega
  | n + 1, i, h, hi, hn, hh => by
    unfold m_index_Bucket_l2
    by_cases hlt : i < k.length
    · have hd : k.drop i = k[i] :: k.drop (i + 1) := List.drop_eq_getElem_cons hlt
      have hc := k[i].toNat_lt
      rw [bif_pos (dec_t (by omega)), idx_nat hlt, Option.bind_some, hd]
      by_cases h1 : k[i].toNat < 33
      · have ho : okc k[i] = false := by
          unfold okc
          rw [dec_f (p := 33 ≤ k[i].toNat) (by omega), Bool.false_and]
        rw [bif_pos (dec_t (by omega)), List.all_cons, ho]
        rfl
      · rw [bif_neg (dec_f (by omega)), Option.bind_some]
        by_cases h2 : k[i].toNat > 126
        · have ho : okc k[i] = false := by
            unfold okc
            rw [dec_f (p := k[i].toNat ≤ 126) (by omega), Bool.and_false]
          rw [bif_pos (dec_t (by omega)), List.all_cons, ho]
          rfl
        · rw [bif_neg (dec_f (by omega)), Option.bind_some, wi_succ (by omega)]
          have e : IntKind.u32.wrap (IntKind.u32.wrap (31 * (h : Int)) + (k[i].toNat : Int)) = (((31 * h + k[i].toNat) % 4294967296 : Nat) : Int) := by
            rw [show 31 * (h : Int) = ((31 * h : Nat) : Int) by omega, u32_mod, show (((31 * h % 4294967296 : Nat) : Int) + (k[i].toNat : Int)) = ((31 * h % 4294967296 + k[i].toNat : Nat) : Int) by omega, u32_mod]
            omega
          rw [e, n_Bucket_l2 k hk n (i + 1) _ (by omega) (by omega) (Nat.mod_lt _ (by omega))]
          have ho : okc k[i] = true := by simp [okc]; omega
          rw [List.all_cons, ho, Bool.true_and]
          rfl
    · rw [bif_neg (dec_f (by omega)), List.drop_eq_nil_of_le (by omega)]
      unfold m_index_Bucket_j1
      rw [show Int.tmod (h : Int) 64 = ((h % 64 : Nat) : Int) from rfl, wi_id (by omega) (by omega)]
      rfl
theorem n_Bucket (k : List UInt8) : m_index_Bucket k = some (if keyB k then ((buckN k : Nat) : Int) else 0, keyB k) := by
  unfold m_index_Bucket keyB
  by_cases h1 : k.length < 1
  · rw [bif_pos (dec_t (by omega)), dec_f (p := 1 ≤ k.length) (by omega)]
    rfl
  · rw [bif_neg (dec_f (by omega)), dec_t (p := 1 ≤ k.length) (by omega)]
    by_cases h2 : k.length > 40
    · rw [bif_pos (dec_t (by omega)), dec_f (p := k.length ≤ 40) (by omega)]
      rfl
    · rw [bif_neg (dec_f (by omega)), dec_t (p := k.length ≤ 40) (by omega)]
      have := n_Bucket_l2 k (by omega) (k.length + 1) 0 0 (by omega) (by omega) (by omega)
      rw [List.drop_zero] at this
      show m_index_Bucket_l2 k (k.length + 1) ((0 : Nat) : Int) ((0 : Nat) : Int) = _
      rw [this]
      cases k.all okc <;> rfl
theorem n_RBucket_l2 (k : List UInt8) (hk : k.length ≤ 100000) : ∀ (n i h : Nat), i ≤ k.length → k.length - i < n → h < 4294967296 → m_R20_Bucket_l2 k n (h : Int) (i : Int) = some ((bkt h (k.drop i) % 64 : Nat) : Int)
  | 0, i, h, _, hn, _ => by omega
  | n + 1, i, h, hi, hn, hh => by
    unfold m_R20_Bucket_l2
    by_cases hlt : i < k.length
    · have hd : k.drop i = k[i] :: k.drop (i + 1) := List.drop_eq_getElem_cons hlt
      have hc := k[i].toNat_lt
      rw [bif_pos (dec_t (by omega)), idx_nat hlt, Option.bind_some, hd, wi_succ (by omega), wi_id (z := 31 * (h : Int)) (by omega) (by omega), wi_id (by omega) (by omega)]
      rw [show Int.tmod (31 * (h : Int) + (k[i].toNat : Int)) 4294967296 = (((31 * h + k[i].toNat) % 4294967296 : Nat) : Int) from by
        rw [show 31 * (h : Int) + (k[i].toNat : Int) = ((31 * h + k[i].toNat : Nat) : Int) by omega]; rfl]
      exact n_RBucket_l2 k hk n (i + 1) _ (by omega) (by omega) (Nat.mod_lt _ (by omega))
    · rw [bif_neg (dec_f (by omega)), List.drop_eq_nil_of_le (by omega)]
      rfl
theorem n_RBucket {k : List UInt8} (hk : k.length ≤ 100000) : m_R20_Bucket k = some ((buckN k : Nat) : Int) := by
  have := n_RBucket_l2 k hk (k.length + 1) 0 0 (by omega) (by omega) (by omega)
  rw [List.drop_zero] at this
  exact this
theorem n_Key (k : List UInt8) : m_R20_Key k = some (keyB k) := by
  unfold m_R20_Key keyB
  by_cases h1 : k.length < 1
  · rw [bif_pos (dec_t (by omega)), dec_f (p := 1 ≤ k.length) (by omega)]
    rfl
  · rw [bif_neg (dec_f (by omega)), dec_t (p := 1 ≤ k.length) (by omega)]
    by_cases h2 : k.length > 40
    · rw [bif_pos (dec_t (by omega)), dec_f (p := k.length ≤ 40) (by omega)]
      rfl
    · rw [bif_neg (dec_f (by omega)), dec_t (p := k.length ≤ 40) (by omega)]
      have key := loop_tells (len := k.length) (m_R20_Key_l1 k) (fun j => ∀ hj : j < k.length, okc k[j] = true) True (fun n i hi => by
        refine ⟨okc k[i], ⟨fun h _ => h, fun h => h hi⟩, ?_⟩
        rw [m_R20_Key_l1, bif_pos (dec_t (by omega)), idx_nat hi, Option.bind_some, Option.bind_some, wi_succ (by omega)]
        by_cases h1 : k[i].toNat < 33
        · rw [bif_pos (dec_t (by omega)), bif_neg (by simp [okc]; omega)]
        · rw [bif_neg (dec_f (by omega))]
          by_cases h2 : k[i].toNat > 126
          · rw [bif_pos (dec_t (by omega)), bif_neg (by simp [okc]; omega)]
          · rw [bif_neg (dec_f (by omega)), bif_pos (c := okc k[i]) (by simp [okc]; omega)]) (fun n => by
        rw [m_R20_Key_l1, bif_neg (dec_f (by omega))]
        exact ⟨true, rfl, ⟨fun _ => trivial, fun _ => rfl⟩⟩) (k.length + 1) 0 (by omega) (by omega)
      have hx := (key.iff (q := k.all okc = true) ⟨fun h => List.all_eq_true.2 fun x hx => by
        obtain ⟨j, hj, rfl⟩ := List.getElem_of_mem hx
        exact h.1 j (by omega) hj hj, fun h => ⟨fun j _ hj _ => List.all_eq_true.1 h _ (List.getElem_mem hj), trivial⟩⟩).bool
      exact hx
def mayB (e : S_api_Entry) : Bool := keyB e.Key && (decide (e.Version ≥ 0) && (decide (e.Version ≤ 4611686018427387904) && (decide (e.Len ≥ 0) && (decide (e.Len ≤ 1024) && (decide (e.First ≥ 0) && decide (e.First ≤ 16384))))))
theorem n_mayk (x : Bool) (e : S_api_Entry) : (bif x then (bif (decide (e.Version ≥ 0)) then (bif (decide (e.Version ≤ 4611686018427387904)) then (bif (decide (e.Len ≥ 0)) then (bif (decide (e.Len ≤ 1024)) then (bif (decide (e.First ≥ 0)) then (some (decide (e.First ≤ 16384))) else (some false)) else (some false)) else (some false)) else (some false)) else (some false)) else (some false)) = some (x && (decide (e.Version ≥ 0) && (decide (e.Version ≤ 4611686018427387904) && (decide (e.Len ≥ 0) && (decide (e.Len ≤ 1024) && (decide (e.First ≥ 0) && decide (e.First ≤ 16384))))))) := by
  cases x <;> cases decide (e.Version ≥ 0) <;> cases decide (e.Version ≤ 4611686018427387904) <;> cases decide (e.Len ≥ 0) <;> cases decide (e.Len ≤ 1024) <;> cases decide (e.First ≥ 0) <;> rfl
theorem n_may20 (e : S_api_Entry) : m_index_may e = some (mayB e) := by
  unfold m_index_may
  rw [n_Bucket, Option.bind_some]
  exact n_mayk (keyB e.Key) e
theorem n_RMay (e : S_api_Entry) : m_R20_May e = some (mayB e) := by
  unfold m_R20_May
  rw [n_Key, Option.bind_some]
  exact n_mayk (keyB e.Key) e
theorem may_iff {e : S_api_Entry} (h : mayB e = true) : keyB e.Key = true ∧ 0 ≤ e.Version ∧ e.Version ≤ 4611686018427387904 ∧ 0 ≤ e.Len ∧ e.Len ≤ 1024 ∧ 0 ≤ e.First ∧ e.First ≤ 16384 := by
  simp only [mayB, Bool.and_eq_true, decide_eq_true_eq] at h
  obtain ⟨h1, h2, h3, h4, h5, h6, h7⟩ := h
  exact ⟨h1, h2, h3, h4, h5, h6, h7⟩
theorem key_len {k : List UInt8} (h : keyB k = true) : 1 ≤ k.length ∧ k.length ≤ 40 := by
  simp only [keyB, Bool.and_eq_true, decide_eq_true_eq] at h
  exact ⟨h.1, h.2.1⟩

/-! ### An entry's bytes -/
def nodeB (e : S_api_Entry) (n : Nat) : List UInt8 := be 4 n ++ (be 8 e.Version.toNat ++ (be 4 e.Len.toNat ++ (be 4 e.First.toNat ++ (UInt8.ofNat e.Key.length :: (e.Key ++ List.replicate (43 - e.Key.length) 0)))))
theorem nodeB_len {e : S_api_Entry} {n : Nat} (h : e.Key.length ≤ 43) : (nodeB e n).length = 64 := by
  simp [nodeB, be_length]
  omega
theorem ix_put {A B : List UInt8} {o k n : Nat} {z : Int} {m : Nat} (hz : z = n) (hA : A.length = o) (hk : k ≤ m) (hn : n < 256 ^ k) (h1 : 1 ≤ k) (h8 : k ≤ 8) (hm : n ≤ 4611686018427387904) (hB : B = A ++ List.replicate m 0) : m_index_put_v0 B o k z = some ((A ++ be k n) ++ List.replicate (m - k) 0) := by
  subst hB hz hA
  have := n_put (p := A ++ List.replicate m 0) (o := A.length) (k := k) (n := n) (by simp; omega) hn h1 h8 hm
  rw [List.take_left, ← List.drop_drop, List.drop_left, List.drop_replicate, ← List.append_assoc] at this
  exact this
theorem lenI_ok {a b : Nat} (h : a = b) : lenI a b = some () := by unfold lenI; rw [if_pos h]
theorem n_node_bytes {e : S_api_Entry} {n : Nat} (he : mayB e = true) (hn : n < 4294967296) : m_index_node_bytes ⟨e, (n : Int)⟩ = some (nodeB e n) := by
  obtain ⟨h1, h2, h3, h4, h5, h6, h7⟩ := may_iff he
  obtain ⟨k1, k2⟩ := key_len h1
  have e1 := ix_put (A := []) (B := List.replicate 64 (0 : UInt8)) (o := 0) (k := 4) (n := n) (z := (n : Int)) (m := 64) rfl rfl (by omega) (by omega) (by omega) (by omega) (by omega) rfl
  have e2 := ix_put (A := [] ++ be 4 n) (o := 4) (k := 8) (n := e.Version.toNat) (z := e.Version) (m := 60) (by omega) (by simp [be_length]) (by omega) (by omega) (by omega) (by omega) (by omega) rfl
  have e3 := ix_put (A := ([] ++ be 4 n) ++ be 8 e.Version.toNat) (o := 12) (k := 4) (n := e.Len.toNat) (z := e.Len) (m := 52) (by omega) (by simp [be_length]) (by omega) (by omega) (by omega) (by omega) (by omega) rfl
  have e4 := ix_put (A := (([] ++ be 4 n) ++ be 8 e.Version.toNat) ++ be 4 e.Len.toNat) (o := 16) (k := 4) (n := e.First.toNat) (z := e.First) (m := 48) (by omega) (by simp [be_length]) (by omega) (by omega) (by omega) (by omega) (by omega) rfl
  generalize hA : (([] ++ be 4 n) ++ be 8 e.Version.toNat) ++ be 4 e.Len.toNat ++ be 4 e.First.toNat = A at e4
  have hAl : A.length = 20 := by rw [← hA]; simp [be_length]
  have hU : U8 (e.Key.length : Int) = UInt8.ofNat e.Key.length := by
    unfold U8
    congr 1
    omega
  have hset : (A ++ List.replicate 44 (0 : UInt8)).set 20 (U8 (e.Key.length : Int)) = (A ++ [UInt8.ofNat e.Key.length]) ++ List.replicate 43 0 := by
    rw [hU, List.set_append_right _ _ (by omega), hAl, List.append_assoc]
    rfl
  have hcp : cpySI ((A ++ [UInt8.ofNat e.Key.length]) ++ List.replicate 43 (0 : UInt8)) 21 43 e.Key = some (nodeB e n) := by
    unfold cpySI cpyI
    rw [if_pos (by omega), if_pos (by simp; omega)]
    congr 1
    unfold cpyL
    have hl : (A ++ [UInt8.ofNat e.Key.length]).length = 21 := by simp; omega
    rw [Nat.min_eq_left (by omega), List.take_left' hl, List.take_of_length_le (l := e.Key) (by omega), ← List.drop_drop, List.drop_left' hl, List.drop_replicate]
    unfold nodeB
    rw [← hA]
    simp
  unfold m_index_node_bytes
  show Option.bind (m_index_put_v0 (List.replicate 64 (0 : UInt8)) 0 4 (n : Int)) _ = _
  rw [e1, Option.bind_some, lenI_ok (by simp [be_length]), Option.bind_some]
  show Option.bind (m_index_put_v0 _ 4 8 e.Version) _ = _
  rw [e2, Option.bind_some, lenI_ok (by simp [be_length]), Option.bind_some]
  show Option.bind (m_index_put_v0 _ 12 4 e.Len) _ = _
  rw [e3, Option.bind_some, lenI_ok (by simp [be_length]), Option.bind_some]
  show Option.bind (m_index_put_v0 _ 16 4 e.First) _ = _
  rw [e4, Option.bind_some, lenI_ok (by simp [be_length, hAl]), Option.bind_some]
  show Option.bind (idx (A ++ List.replicate 44 (0 : UInt8)) ((20 : Nat) : Int)) _ = _
  rw [idx_nat (by simp <;> omega), Option.bind_some]
  show Option.bind (cpySI ((A ++ List.replicate 44 (0 : UInt8)).set 20 (U8 (e.Key.length : Int))) 21 43 e.Key) _ = _
  rw [hset, hcp, Option.bind_some, lenI_ok (by rw [nodeB_len (by omega)]; simp <;> omega)]
  rfl
theorem n_RBytes_l1 : ∀ (n : Nat) (out : List UInt8), out.length ≤ 64 → 64 - out.length < n → m_R20_Bytes_l1 n out = some (out ++ List.replicate (64 - out.length) 0)
  | 0, out, _, h => by omega
  | n + 1, out, hl, h => by
    unfold m_R20_Bytes_l1
    by_cases hlt : out.length < 64
    · rw [bif_pos (dec_t (by omega)), appI_ok (by simp; omega), Option.bind_some, n_RBytes_l1 n (out ++ [0]) (by simp; omega) (by simp; omega)]
      have e : 64 - out.length = (64 - (out ++ [0]).length) + 1 := by simp; omega
      rw [e, List.replicate_succ, List.append_assoc]
      rfl
    · rw [bif_neg (dec_f (by omega)), show 64 - out.length = 0 by omega]
      simp
theorem n_RBytes {e : S_api_Entry} {n : Nat} (he : mayB e = true) (hn : n < 4294967296) : m_R20_Bytes e (n : Int) = some (nodeB e n) := by
  obtain ⟨h1, h2, h3, h4, h5, h6, h7⟩ := may_iff he
  obtain ⟨k1, k2⟩ := key_len h1
  unfold m_R20_Bytes
  have e1 := n_number (n := n) (k := 4) (by omega) (by omega) (by omega) (by omega)
  have e2 := n_number (n := e.Version.toNat) (k := 8) (by omega) (by omega) (by omega) (by omega)
  have e3 := n_number (n := e.Len.toNat) (k := 4) (by omega) (by omega) (by omega) (by omega)
  have e4 := n_number (n := e.First.toNat) (k := 4) (by omega) (by omega) (by omega) (by omega)
  rw [show ((e.Version.toNat : Nat) : Int) = e.Version by omega] at e2
  rw [show ((e.Len.toNat : Nat) : Int) = e.Len by omega] at e3
  rw [show ((e.First.toNat : Nat) : Int) = e.First by omega] at e4
  have hU : U8 (e.Key.length : Int) = UInt8.ofNat e.Key.length := by
    unfold U8
    congr 1
    omega
  show Option.bind (m_R20_number (n : Int) ((4 : Nat) : Int)) _ = _
  rw [e1, Option.bind_some, appI_ok (by simp [be_length]), Option.bind_some]
  show Option.bind (m_R20_number e.Version ((8 : Nat) : Int)) _ = _
  rw [e2, Option.bind_some, appI_ok (by simp [be_length]), Option.bind_some]
  show Option.bind (m_R20_number e.Len ((4 : Nat) : Int)) _ = _
  rw [e3, Option.bind_some, appI_ok (by simp [be_length]), Option.bind_some]
  show Option.bind (m_R20_number e.First ((4 : Nat) : Int)) _ = _
  rw [e4, Option.bind_some, appI_ok (by simp [be_length]), Option.bind_some, appI_ok (by simp [be_length]), Option.bind_some]
  unfold strB
  rw [if_pos (by unfold maxLen; omega), Option.bind_some, appI_ok (by simp [be_length]; omega), Option.bind_some, hU]
  rw [n_RBytes_l1 _ _ (by simp [be_length]; omega) (by simp [be_length]; omega)]
  congr 1
  have hl : ([] ++ be 4 n ++ be 8 e.Version.toNat ++ be 4 e.Len.toNat ++ be 4 e.First.toNat ++ [UInt8.ofNat e.Key.length] ++ e.Key).length = 21 + e.Key.length := by simp [be_length]; omega
  rw [hl, show 64 - (21 + e.Key.length) = 43 - e.Key.length by omega]
  unfold nodeB
  simp

/-! ### The entry of bytes -/
def fE (b : List UInt8) : S_api_Entry := ⟨(b.drop 21).take (b.getD 20 0).toNat, getN ((b.drop 4).take 8), (ofBE ((b.drop 12).take 4) : Int), (ofBE ((b.drop 16).take 4) : Int)⟩
def fN (b : List UInt8) : Nat := ofBE ((b.drop 0).take 4)
instance : DecidableEq (List UInt8) := inferInstance
def ent (b : List UInt8) : Option (S_api_Entry × Nat) := if getE ((b.drop 4).take 8) = 0 ∧ (b.getD 20 0).toNat ≤ 40 ∧ mayB (fE b) = true ∧ nodeB (fE b) (fN b) = b then some (fE b, fN b) else none
theorem fN_lt (b : List UInt8) : fN b < 4294967296 := by
  unfold fN
  have := ofBE_lt _ ((b.drop 0).take 4) rfl
  have hl : ((b.drop 0).take 4).length ≤ 4 := by rw [List.length_take]; omega
  exact Nat.lt_of_lt_of_le this (Nat.pow_le_pow_right (by omega) hl)
theorem ent_some {b : List UInt8} {e : S_api_Entry} {n : Nat} (h : ent b = some (e, n)) : getE ((b.drop 4).take 8) = 0 ∧ (b.getD 20 0).toNat ≤ 40 ∧ mayB e = true ∧ nodeB e n = b ∧ e = fE b ∧ n = fN b ∧ n < 4294967296 := by
  unfold ent at h
  split at h
  · rename_i hc
    injection h with h
    injection h with h1 h2
    subst h1 h2
    exact ⟨hc.1, hc.2.1, hc.2.2.1, hc.2.2.2, rfl, rfl, fN_lt b⟩
  · cases h
theorem idx_getD {b : List UInt8} {i : Nat} (h : i < b.length) : idx b (i : Int) = some (b.getD i 0) := by
  rw [idx_nat h, List.getD_eq_getElem?_getD, List.getElem?_eq_getElem h]
  rfl
theorem n_RRead {b : List UInt8} (hb : b.length = 64) : ∃ e nx, m_R20_Read b = some (e, nx, (ent b).isSome) ∧ ∀ e' (n : Nat), ent b = some (e', n) → e = e' ∧ nx = n := by
  have c1 : cutI b 0 4 = some ((b.drop 0).take 4) := cutI_mid (lo := 0) (n := 4) (by omega) 4 rfl
  have c2 : cutI b 4 12 = some ((b.drop 4).take 8) := cutI_mid (lo := 4) (n := 8) (by omega) 12 rfl
  have c3 : cutI b 12 16 = some ((b.drop 12).take 4) := cutI_mid (lo := 12) (n := 4) (by omega) 16 rfl
  have c4 : cutI b 16 20 = some ((b.drop 16).take 4) := cutI_mid (lo := 16) (n := 4) (by omega) 20 rfl
  have c5 : idx b 20 = some (b.getD 20 0) := idx_getD (i := 20) (by omega)
  have g1 : getN ((b.drop 0).take 4) = (fN b : Int) := (getN_4 (by simp; omega)).1
  have g3 : getN ((b.drop 12).take 4) = (ofBE ((b.drop 12).take 4) : Int) := (getN_4 (by simp; omega)).1
  have g4 : getN ((b.drop 16).take 4) = (ofBE ((b.drop 16).take 4) : Int) := (getN_4 (by simp; omega)).1
  unfold m_R20_Read
  rw [c1, Option.bind_some, n_R01_Get, Option.bind_some, c2, Option.bind_some, n_R01_Get, Option.bind_some, c3, Option.bind_some, n_R01_Get, Option.bind_some, c4, Option.bind_some, n_R01_Get, Option.bind_some, c5, Option.bind_some, g1, g3, g4]
  show ∃ e nx, (bif getE ((b.drop 4).take 8) != 0 then _ else _) = _ ∧ _
  by_cases h1 : getE ((b.drop 4).take 8) = 0
  · rw [bif_neg (ine_f h1)]
    by_cases h2 : (b.getD 20 0).toNat ≤ 40
    · rw [bif_neg (dec_f (by omega)), show cutI b 21 (wi (21 + ((b.getD 20 0).toNat : Int))) = some ((b.drop 21).take (b.getD 20 0).toNat) from by
        rw [wi_id (by omega) (by omega)]
        exact cutI_mid (lo := 21) (n := (b.getD 20 0).toNat) (by omega) _ (by omega), Option.bind_some]
      show ∃ e nx, Option.bind (m_R20_May (fE b)) _ = _ ∧ _
      rw [n_RMay, Option.bind_some]
      by_cases h3 : mayB (fE b) = true
      · rw [bif_pos h3]
        show ∃ e nx, Option.bind (m_R20_Bytes (fE b) (fN b : Int)) _ = _ ∧ _
        rw [n_RBytes h3 (fN_lt b), Option.bind_some, n_R01_Same _ _ (by rw [nodeB_len (by have := key_len (may_iff h3).1; omega)]; omega), Option.bind_some]
        refine ⟨fE b, (fN b : Int), ?_, fun e' n h => ?_⟩
        · by_cases h4 : nodeB (fE b) (fN b) = b
          · have : ent b = some (fE b, fN b) := if_pos ⟨h1, h2, h3, h4⟩
            rw [this, h4]
            simp [fE]
          · have : ent b = none := if_neg fun h => h4 h.2.2.2
            rw [this, beq_eq_false_iff_ne.2 h4]
            rfl
        · obtain ⟨_, _, _, _, k1, k2, _⟩ := ent_some h
          exact ⟨k1.symm, by rw [k2]⟩
      · have : ent b = none := if_neg fun h => h3 h.2.2.1
        rw [bif_neg (by simpa using h3), this]
        exact ⟨_, _, rfl, fun _ _ h => by cases h⟩
    · have : ent b = none := if_neg fun h => h2 h.2.1
      rw [bif_pos (dec_t (by omega)), this]
      exact ⟨_, _, rfl, fun _ _ h => by cases h⟩
  · have : ent b = none := if_neg fun h => h1 h.1
    rw [bif_pos (ine_t h1), this]
    exact ⟨_, _, rfl, fun _ _ h => by cases h⟩
theorem n_read {b : List UInt8} (hb : b.length = 64) : ∃ x, m_index_read b = some (x, (ent b).isSome) ∧ ∀ e (n : Nat), ent b = some (e, n) → x = ⟨e, n⟩ := by
  have c1 : cutI b 0 4 = some ((b.drop 0).take 4) := cutI_mid (lo := 0) (n := 4) (by omega) 4 rfl
  have c2 : cutI b 4 12 = some ((b.drop 4).take 8) := cutI_mid (lo := 4) (n := 8) (by omega) 12 rfl
  have c3 : cutI b 12 16 = some ((b.drop 12).take 4) := cutI_mid (lo := 12) (n := 4) (by omega) 16 rfl
  have c4 : cutI b 16 20 = some ((b.drop 16).take 4) := cutI_mid (lo := 16) (n := 4) (by omega) 20 rfl
  have c5 : idx b 20 = some (b.getD 20 0) := idx_getD (i := 20) (by omega)
  have g1 : m_index_get ((b.drop 0).take 4) = some (fN b : Int) := n_get (by simp; omega)
  have g3 : m_index_get ((b.drop 12).take 4) = some (ofBE ((b.drop 12).take 4) : Int) := n_get (by simp; omega)
  have g4 : m_index_get ((b.drop 16).take 4) = some (ofBE ((b.drop 16).take 4) : Int) := n_get (by simp; omega)
  unfold m_index_read
  rw [c1, Option.bind_some, g1, Option.bind_some, c2, Option.bind_some, n_get_any, Option.bind_some, c3, Option.bind_some, g3, Option.bind_some, c4, Option.bind_some, g4, Option.bind_some, c5, Option.bind_some]
  by_cases h2 : (b.getD 20 0).toNat ≤ 40
  · rw [bif_pos (dec_t (by omega)), show cutI b 21 (wi (21 + ((b.getD 20 0).toNat : Int))) = some ((b.drop 21).take (b.getD 20 0).toNat) from by
      rw [wi_id (by omega) (by omega)]
      exact cutI_mid (lo := 21) (n := (b.getD 20 0).toNat) (by omega) _ (by omega), Option.bind_some]
    unfold m_index_read_j1
    rw [n_may20, Option.bind_some]
    by_cases h1 : getE ((b.drop 4).take 8) = 0
    · rw [if_pos h1]
      show ∃ x, (bif mayB (fE b) then _ else _) = _ ∧ _
      by_cases h3 : mayB (fE b) = true
      · rw [bif_pos h3]
        show ∃ x, Option.bind (m_index_node_bytes ⟨fE b, (fN b : Int)⟩) _ = _ ∧ _
        rw [n_node_bytes h3 (fN_lt b), Option.bind_some, n_Equal _ _ (by rw [nodeB_len (by have := key_len (may_iff h3).1; omega)]; omega), Option.bind_some]
        refine ⟨⟨fE b, (fN b : Int)⟩, ?_, fun e' n h => ?_⟩
        · by_cases h4 : nodeB (fE b) (fN b) = b
          · have : ent b = some (fE b, fN b) := if_pos ⟨h1, h2, h3, h4⟩
            rw [this, decide_eq_true h4]
            rfl
          · have : ent b = none := if_neg fun h => h4 h.2.2.2
            rw [this, decide_eq_false h4]
            rfl
        · obtain ⟨_, _, _, _, k1, k2, _⟩ := ent_some h
          rw [k1, k2]
      · have : ent b = none := if_neg fun h => h3 h.2.2.1
        rw [bif_neg (by simpa using h3), this]
        exact ⟨_, rfl, fun _ _ h => by cases h⟩
    · have : ent b = none := if_neg fun h => h1 h.1
      rw [if_neg h1, this]
      have hm : ∀ (k : List UInt8) (u v : Int), mayB ⟨k, -1, u, v⟩ = false := fun k u v => by
        unfold mayB
        rw [dec_f (p := (-1 : Int) ≥ 0) (by omega), Bool.false_and, Bool.and_false]
      rw [hm]
      exact ⟨_, rfl, fun _ _ h => by cases h⟩
  · have : ent b = none := if_neg fun h => h2 h.2.1
    rw [bif_neg (dec_f (by omega)), this]
    unfold m_index_read_j1
    rw [n_may20, Option.bind_some]
    have hm : ∀ (u v w : Int), mayB ⟨[], u, v, w⟩ = false := fun u v w => rfl
    rw [hm]
    exact ⟨_, rfl, fun _ _ h => by cases h⟩
end Go.Proofs.Ytjomnccladjpgaa
