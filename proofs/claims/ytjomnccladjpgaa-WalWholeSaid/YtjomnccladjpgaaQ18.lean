/-
  Texts joined: see the remark at the head of each part.
-/
import Derived.Test.YtjomnccladjpgaaQ17
import Derived.Test.YtjomnccladjpgaaQ10
set_option linter.unusedVariables false
set_option linter.unusedSimpArgs false
/-
  Plain: what a log does: redo, commit, checkpoint, format, open.
-/
namespace Go.Proofs.Ytjomnccladjpgaa
open Go Go.RowKit
set_option linter.unusedVariables false
set_option linter.unusedSimpArgs false

section
variable {H : Hp} {i j : Nat} {d : Dsk} {s base slot used : Nat} {com : Int}
theorem WIn.wr (h : WIn H i j d s base slot used com) {k : Nat} (hk : k < d.now.length) {x : List UInt8} (hx : x.length = 64) (hw : d.wait.length < 1000000) :
    ∃ H', m_disk_Disk_Write (some i) (k : Int) x H = some (0, H') ∧ WIn H' i j { d with now := d.now.set k x, wait := d.wait ++ [⟨k, x⟩] } s base slot used com := by
  obtain ⟨H', e1, e2, e3⟩ := n_Write h.dsk h.off h.fuse hk hx hw
  refine ⟨H', e1, ⟨e2, h.off, by rw [e3]; exact h.lg, h.s3, ?_, ?_, h.bs⟩, h.fuse⟩
  · show _ < (d.now.set k x).length
    rw [List.length_set]; exact h.sl
  · show (d.now.set k x).length ≤ _
    rw [List.length_set]; exact h.ln
theorem WIn.fl (h : WIn H i j d s base slot used com) (hw : d.wait.length < 1000000) :
    ∃ H', m_disk_Disk_Flush (some i) H = some (0, H') ∧ WIn H' i j { d with kept := d.now, wait := [] } s base slot used com := by
  have := h.sl
  obtain ⟨H', e1, e2, e3⟩ := n_Flush h.dsk h.off h.fuse (by omega) hw
  exact ⟨H', e1, ⟨e2, h.off, by rw [e3]; exact h.lg, h.s3, h.sl, h.ln, h.bs⟩, h.fuse⟩
theorem WIn.jl (h : WIn H i j d s base slot used com) : j < H.lg.length := (List.getElem?_eq_some_iff.1 h.lg).1

/-! ### redo -/
def rd (s : Nat) (now : List (List UInt8)) (ws : List S_api_Write) : List (List UInt8) := ws.foldl (fun t w => t.set (2 + s + w.Home.toNat) w.Data) now
theorem rd_len (s : Nat) (ws : List S_api_Write) : ∀ t, (rd s t ws).length = t.length := by
  induction ws with
  | nil => intro t; rfl
  | cons w r ih => intro t; show (rd s (t.set _ _) r).length = _; rw [ih, List.length_set]
theorem n_redo_l1 {ws : List S_api_Write} (hwl : ws.length ≤ 100000) : ∀ (n z : Nat) (H : Hp) (d : Dsk), WIn H i j d s base slot used com → Good s d.now.length ws → d.wait.length + (ws.length - z) ≤ 200000 → z ≤ ws.length → ws.length - z < n →
    ∃ H' d', m_wal_Log_redo_l1 ws (some j) n (z : Int) H = some (0, H') ∧ WIn H' i j d' s base slot used com ∧ d'.now = rd s d.now (ws.drop z) ∧ d'.kept = d.kept ∧ d'.wait.length ≤ d.wait.length + (ws.length - z) ∧ d'.lives = d.lives
  | 0, z, _, _, _, _, _, _, h => by omega
  | n + 1, z, H, d, h, hg, hw, hz, hn => by
    have := h.ln
    have := h.sl
    unfold m_wal_Log_redo_l1
    by_cases hlt : z < ws.length
    · obtain ⟨w1, w2, w3⟩ := hg _ (List.getElem_mem hlt)
      have hH : ws[z].Home = (ws[z].Home.toNat : Int) := (Int.toNat_of_nonneg w1).symm
      have hb : 2 + s + ws[z].Home.toNat < d.now.length := by omega
      rw [bif_pos (dec_t (by omega)), idx_nat hlt, Option.bind_some]
      show ∃ H' d', Option.bind (H.lg[j]?) _ = _ ∧ _
      rw [h.lg, Option.bind_some]
      have e1 : m_wal_Log_home (some j) ws[z].Home H = some ((2 + s + ws[z].Home.toNat : Nat) : Int) := by
        have := n_home h.toLIn ws[z].Home.toNat (by omega)
        rwa [← hH] at this
      rw [e1, Option.bind_some]
      obtain ⟨H1, g1, g2⟩ := h.wr hb w3 (by omega)
      show ∃ H' d', Option.bind (m_disk_Disk_Write (some i) ((2 + s + ws[z].Home.toNat : Nat) : Int) ws[z].Data H) _ = _ ∧ _
      rw [g1, Option.bind_some, bif_neg (by rfl), wi_succ (by omega)]
      obtain ⟨H', d', k1, k2, k3, k4, k5, k6⟩ := n_redo_l1 hwl n (z + 1) H1 _ g2 (by show Good s (d.now.set _ _).length ws; rw [List.length_set]; exact hg) (by show (d.wait ++ [_]).length + _ ≤ _; simp; omega) (by omega) (by omega)
      refine ⟨H', d', k1, k2, ?_, k4, ?_, k6⟩
      · rw [k3, List.drop_eq_getElem_cons hlt]
        rfl
      · have k5' : d'.wait.length ≤ (d.wait ++ [_]).length + (ws.length - (z + 1)) := k5
        simp at k5'
        omega
    · have e : z = ws.length := by omega
      subst e
      rw [bif_neg (dec_f (by omega))]
      exact ⟨H, d, rfl, h, by rw [List.drop_length]; rfl, rfl, by omega, rfl⟩
theorem n_redo {ws : List S_api_Write} (h : WIn H i j d s base slot used com) (hwl : ws.length ≤ 100000) (hg : Good s d.now.length ws) (hw : d.wait.length ≤ 100000) :
    ∃ H' d', m_wal_Log_redo (some j) ws H = some (0, H') ∧ WIn H' i j d' s base slot used com ∧ d'.now = rd s d.now ws ∧ d'.kept = d.kept ∧ d'.wait.length ≤ d.wait.length + ws.length ∧ d'.lives = d.lives :=
  n_redo_l1 hwl (ws.length + 1) 0 H d h hg (by omega) (by omega) (by omega)

/-! ### raise, Checkpoint -/
theorem n_raise (h : WIn H i j d s base slot used com) (hs : slot ≤ 1) (hb : base + s + s ≤ 2305843009213693952) (hw : d.wait.length < 999999) :
    ∃ H' d', m_wal_Log_raise (some j) H = some (0, H') ∧ WIn H' i j d' s (base + s) (1 - slot) 0 com ∧ d'.now = d.now.set (1 - slot) (slotB (base + s) s) ∧ d'.kept = d'.now ∧ d'.wait = [] ∧ d'.lives = d.lives := by
  have := h.sl
  have := h.ln
  unfold m_wal_Log_raise
  show ∃ H' d', Option.bind (H.lg[j]?) _ = _ ∧ _
  rw [h.lg, Option.bind_some]
  show ∃ H' d', Option.bind (m_wal_slotBytes (wi ((base : Int) + (s : Int))) (s : Int)) _ = _ ∧ _
  rw [wi_id (z := (base : Int) + (s : Int)) (by omega) (by omega), show (base : Int) + (s : Int) = ((base + s : Nat) : Int) by omega, n_slotBytes (by omega) (by omega), Option.bind_some]
  obtain ⟨H1, g1, g2⟩ := h.wr (k := 1 - slot) (by omega) (slotB_len (base + s) s) (by omega)
  show ∃ H' d', Option.bind (m_disk_Disk_Write (some i) (wi (1 - (slot : Int))) (slotB (base + s) s) H) _ = _ ∧ _
  rw [wi_id (z := 1 - (slot : Int)) (by omega) (by omega), show 1 - (slot : Int) = ((1 - slot : Nat) : Int) by omega, g1, Option.bind_some, bif_neg (by rfl)]
  show ∃ H' d', Option.bind (H1.lg[j]?) _ = _ ∧ _
  rw [g2.lg, Option.bind_some]
  obtain ⟨H2, k1, k2⟩ := g2.fl (by show (d.wait ++ [_]).length < _; simp; omega)
  show ∃ H' d', Option.bind (m_disk_Disk_Flush (some i) H1) _ = _ ∧ _
  rw [k1, Option.bind_some, bif_neg (by rfl)]
  show ∃ H' d', Option.bind (H2.lg[j]?) _ = _ ∧ _
  rw [k2.lg, Option.bind_some]
  refine ⟨_, _, rfl, ⟨⟨k2.dsk.lg rfl rfl, k2.off, ?_, h.s3, k2.sl, k2.ln, by omega⟩, k2.fuse⟩, rfl, rfl, rfl, rfl⟩
  have hj := k2.jl
  show (((H2.lg.set j _).set j _).set j _)[j]? = _
  rw [List.getElem?_set_self (by simp; omega)]
  show some (S_wal_Log.mk _ _ (wi ((base : Int) + (s : Int))) _ _ _ _) = _
  rw [wi_id (z := (base : Int) + (s : Int)) (by omega) (by omega), show (base : Int) + (s : Int) = ((base + s : Nat) : Int) by omega]
  rfl
theorem n_Checkpoint (h : WIn H i j d s base slot used com) (hs : slot ≤ 1) (hb : base + s + s ≤ 2305843009213693952) (hw : d.wait.length < 999999) :
    ∃ H' d', m_wal_Log_Checkpoint (some j) H = some (0, H') ∧ WIn H' i j d' s (base + s) (1 - slot) 0 com ∧ d'.now = d.now.set (1 - slot) (slotB (base + s) s) ∧ d'.kept = d'.now ∧ d'.wait = [] ∧ d'.lives = d.lives := by
  have := h.sl
  have := h.ln
  unfold m_wal_Log_Checkpoint
  rw [n_alive h.toLIn, Option.bind_some, bif_neg (by rfl)]
  show ∃ H' d', Option.bind (H.lg[j]?) _ = _ ∧ _
  rw [h.lg, Option.bind_some]
  show ∃ H' d', (bif decide ((base : Int) > wi (2305843009213693952 - (s : Int))) then _ else _) = _ ∧ _
  rw [wi_id (z := 2305843009213693952 - (s : Int)) (by omega) (by omega), bif_neg (dec_f (by omega))]
  obtain ⟨H1, g1, g2⟩ := h.fl (by omega)
  show ∃ H' d', Option.bind (m_disk_Disk_Flush (some i) H) _ = _ ∧ _
  rw [g1, Option.bind_some, bif_neg (by rfl)]
  obtain ⟨H', d', k1, k2, k3, k4, k5, k6⟩ := n_raise g2 hs hb (by show ([] : List S_disk_write).length < _; simp)
  show ∃ H' d', Option.bind (m_wal_Log_raise (some j) H1) _ = _ ∧ _
  rw [k1, Option.bind_some]
  exact ⟨H', d', rfl, k2, k3, k4, k5, k6⟩

/-! ### Commit -/
theorem n_Commit_chk (h : LIn H i j d s base slot used com) (ws : List S_api_Write) (hl : ws.length ≤ 10000) : (Good s d.now.length ws → m_wal_Log_Commit (some j) ws H = m_wal_Log_Commit_j1 (some j) H ws) ∧ (¬ Good s d.now.length ws → m_wal_Log_Commit (some j) ws H = some (2, H)) := by
  have key := loop_then (len := ws.length) (m_wal_Log_Commit_l5 ws H (some j)) (fun k => ∀ hk : k < ws.length, 0 ≤ ws[k].Home ∧ ws[k].Home < ((d.now.length - 2 - s : Nat) : Int) ∧ ws[k].Data.length = 64) (m_wal_Log_Commit_j1 (some j) H ws) (some (2, H)) (fun n k hk => by
    have hu : m_wal_Log_Commit_l5 ws H (some j) (n + 1) (k : Int) = (bif decide (ws[k].Home < 0) then some (2, H) else bif decide (ws[k].Home ≥ ((d.now.length - 2 - s : Nat) : Int)) then some (2, H) else bif ((ws[k].Data.length : Int) != 64) then some (2, H) else m_wal_Log_Commit_l5 ws H (some j) n ((k + 1 : Nat) : Int)) := by
      rw [m_wal_Log_Commit_l5, bif_pos (dec_t (by omega)), idx_nat hk, Option.bind_some, n_Homes h, Option.bind_some, wi_succ (by omega)]
    rw [hu]
    refine ⟨fun hp => ?_, fun hp => ?_⟩
    · obtain ⟨h1, h2, h3⟩ := hp hk
      rw [bif_neg (dec_f (by omega)), bif_neg (dec_f (by omega)), bif_neg (ine_f (by omega))]
    · by_cases h1 : ws[k].Home < 0
      · rw [bif_pos (dec_t h1)]
      · rw [bif_neg (dec_f h1)]
        by_cases h2 : ws[k].Home < ((d.now.length - 2 - s : Nat) : Int)
        · rw [bif_neg (dec_f (by omega)), bif_pos (ine_t fun e => hp fun _ => ⟨by omega, h2, by omega⟩)]
        · rw [bif_pos (dec_t (by omega))]) (fun n => by rw [m_wal_Log_Commit_l5, bif_neg (dec_f (by omega))]) (ws.length + 1) 0 (by omega) (by omega)
  have e : m_wal_Log_Commit (some j) ws H = m_wal_Log_Commit_l5 ws H (some j) (ws.length + 1) ((0 : Nat) : Int) := by
    unfold m_wal_Log_Commit
    rw [n_alive h, Option.bind_some, bif_neg (by rfl)]
    rfl
  rw [e]
  refine ⟨fun hg => key.1 fun k _ hk _ => hg _ (List.getElem_mem hk), fun hg => key.2 fun hc => hg fun w hw => ?_⟩
  obtain ⟨k, hk, rfl⟩ := List.getElem_of_mem hw
  exact hc k (by omega) hk hk

def ents : List S_api_Write → List S_wal_entry
  | [] => []
  | w :: r => ⟨1, w.Home, w.Data.take 32, false⟩ :: ⟨2, w.Home, w.Data.drop 32, false⟩ :: ents r
def entsA (ws : List S_api_Write) : List S_wal_entry := ents ws ++ [⟨3, ws.length, [], false⟩]
theorem ents_app : ∀ a b : List S_api_Write, ents (a ++ b) = ents a ++ ents b
  | [], b => rfl
  | w :: r, b => by simp [ents, ents_app r b]
theorem ents_len : ∀ a : List S_api_Write, (ents a).length = 2 * a.length
  | [] => rfl
  | w :: r => by simp [ents, ents_len r]; omega
theorem entsA_len (a : List S_api_Write) : (entsA a).length = 2 * a.length + 1 := by simp [entsA, ents_len]
theorem ents_at (ws : List S_api_Write) : ∀ k (hk : k < ws.length), (ents ws)[2 * k]? = some ⟨1, ws[k].Home, ws[k].Data.take 32, false⟩ ∧ (ents ws)[2 * k + 1]? = some ⟨2, ws[k].Home, ws[k].Data.drop 32, false⟩ := by
  induction ws with
  | nil => intro k hk; cases hk
  | cons w r ih =>
    intro k hk
    cases k with
    | zero => exact ⟨rfl, rfl⟩
    | succ k =>
      have := ih k (by simp at hk; omega)
      exact ⟨this.1, this.2⟩
theorem n_entries (ws : List S_api_Write) (hl : ws.length ≤ 10000) (hg : ∀ w ∈ ws, w.Data.length = 64) : m_wal_entries ws = some (entsA ws) := by
  have key : ∀ (n k : Nat), k ≤ ws.length → ws.length - k < n → m_wal_entries_l2 ws n (ents (ws.take k)) (k : Int) = some (entsA ws) := by
    intro n
    induction n with
    | zero => intro k _ h; omega
    | succ n ih =>
      intro k hk h
      unfold m_wal_entries_l2
      by_cases hlt : k < ws.length
      · have h64 := hg _ (List.getElem_mem hlt)
        have e1 : cutI ws[k].Data 0 32 = some (ws[k].Data.take 32) := cutI_take (n := 32) (by omega)
        have e2 : cutI ws[k].Data 32 (ws[k].Data.length : Int) = some (ws[k].Data.drop 32) := cutI_drop (n := 32) (by omega)
        have hen : (ents (ws.take k)).length ≤ 20000 := by rw [ents_len, List.length_take]; omega
        rw [bif_pos (dec_t (by omega)), idx_nat hlt, Option.bind_some, e1, Option.bind_some, e2, Option.bind_some, appI_ok (by simp; omega), Option.bind_some, wi_succ (by omega)]
        have e : ents (ws.take k) ++ [⟨1, ws[k].Home, ws[k].Data.take 32, false⟩, ⟨2, ws[k].Home, ws[k].Data.drop 32, false⟩] = ents (ws.take (k + 1)) := by
          rw [← List.take_append_getElem hlt, ents_app]
          rfl
        rw [e]
        exact ih (k + 1) (by omega) (by omega)
      · have e : k = ws.length := by omega
        subst e
        rw [bif_neg (dec_f (by omega)), List.take_of_length_le (Nat.le_refl _)]
        unfold m_wal_entries_j1
        rw [appI_ok (by rw [ents_len]; simp; omega)]
        rfl
  exact key (ws.length + 1) 0 (by omega) (by omega)

def rowE (e : S_wal_entry) (st : Nat) : List UInt8 := entryB e.kind_.toNat e.number_.toNat e.data_ st
def OkE (e : S_wal_entry) : Prop := 0 ≤ e.kind_ ∧ e.kind_ < 256 ∧ 0 ≤ e.number_ ∧ e.number_ < 4294967296 ∧ e.data_.length ≤ 32
theorem rowE_len {e : S_wal_entry} {st : Nat} (h : OkE e) : (rowE e st).length = 64 := entryB_len h.2.2.2.2
theorem n_rowE {e : S_wal_entry} {st : Nat} (h : OkE e) (hs : st ≤ 4611686018427387904) : m_wal_entry_bytes e (st : Int) = some (rowE e st) := by
  obtain ⟨k, n, dd, ok⟩ := e
  obtain ⟨h1, h2, h3, h4, h5⟩ := h
  have := n_bytes (k := k.toNat) (n := n.toNat) (st := st) (d := dd) (ok := ok) (by simp only at h1 h2; omega) (by simp only at h3 h4; omega) h5 hs
  rw [Int.toNat_of_nonneg h1, Int.toNat_of_nonneg h3] at this
  exact this
theorem ok_ents {s n : Nat} (ws : List S_api_Write) (hg : Good s n ws) (hn : n ≤ 16384) : ∀ e ∈ ents ws, OkE e := by
  induction ws with
  | nil => intro e he; cases he
  | cons w r ih =>
    obtain ⟨w1, w2, w3⟩ := hg w List.mem_cons_self
    intro e he
    rcases List.mem_cons.1 he with rfl | he
    · exact ⟨by show (0 : Int) ≤ 1; omega, by show (1 : Int) < 256; omega, w1, by show w.Home < _; omega, by show (w.Data.take 32).length ≤ 32; rw [List.length_take]; omega⟩
    · rcases List.mem_cons.1 he with rfl | he
      · exact ⟨by show (0 : Int) ≤ 2; omega, by show (2 : Int) < 256; omega, w1, by show w.Home < _; omega, by show (w.Data.drop 32).length ≤ 32; rw [List.length_drop]; omega⟩
      · exact ih (fun w hw => hg w (List.mem_cons_of_mem _ hw)) e he
theorem ok_entsA {s n : Nat} (ws : List S_api_Write) (hg : Good s n ws) (hn : n ≤ 16384) (hl : ws.length ≤ 10000) : ∀ e ∈ entsA ws, OkE e := by
  intro e he
  rcases List.mem_append.1 he with he | he
  · exact ok_ents ws hg hn e he
  · rw [List.mem_singleton.1 he]
    exact ⟨by show (0 : Int) ≤ 3; omega, by show (3 : Int) < 256; omega, by show (0 : Int) ≤ (ws.length : Int); omega, by show (ws.length : Int) < _; omega, by show ([] : List UInt8).length ≤ 32; simp⟩
/-- Entries written, one behind the other. -/
def wrs (o b : Nat) : List S_wal_entry → Nat → List (List UInt8) → List (List UInt8)
  | [], _, t => t
  | e :: r, p, t => wrs o b r (p + 1) (t.set (o + p) (rowE e (b + p)))
theorem wrs_len (o b : Nat) : ∀ (es : List S_wal_entry) (p : Nat) (t : List (List UInt8)), (wrs o b es p t).length = t.length
  | [], _, t => rfl
  | e :: r, p, t => by
    show (wrs o b r (p + 1) (t.set (o + p) _)).length = _
    rw [wrs_len o b r, List.length_set]
theorem wrs_out (o b q : Nat) : ∀ (es : List S_wal_entry) (p : Nat) (t : List (List UInt8)), (q < o + p ∨ o + p + es.length ≤ q) → (wrs o b es p t)[q]? = t[q]?
  | [], _, t, _ => rfl
  | e :: r, p, t, h => by
    show (wrs o b r (p + 1) (t.set (o + p) _))[q]? = _
    have h2 : q < o + p ∨ o + p + (r.length + 1) ≤ q := h
    rw [wrs_out o b q r (p + 1) _ (by omega), List.getElem?_set_ne (by omega)]
theorem wrs_at (o b : Nat) : ∀ (es : List S_wal_entry) (p : Nat) (t : List (List UInt8)) (k : Nat) (e : S_wal_entry), es[k]? = some e → o + p + es.length ≤ t.length → (wrs o b es p t)[o + p + k]? = some (rowE e (b + p + k))
  | [], _, t, k, e, h, _ => by simp at h
  | e0 :: r, p, t, 0, e, h, hl => by
    have h1 : e0 = e := by simpa using h
    subst h1
    have hl2 : o + p + (r.length + 1) ≤ t.length := hl
    show (wrs o b r (p + 1) (t.set (o + p) _))[o + p]? = _
    rw [wrs_out o b (o + p) r (p + 1) _ (by omega), List.getElem?_set_self (by omega)]
    rfl
  | e0 :: r, p, t, k + 1, e, h, hl => by
    have hl2 : o + p + (r.length + 1) ≤ t.length := hl
    have h2 : r[k]? = some e := by simpa using h
    have := wrs_at o b r (p + 1) (t.set (o + p) (rowE e0 (b + p))) k e h2 (by rw [List.length_set]; omega)
    show (wrs o b r (p + 1) (t.set (o + p) _))[o + p + (k + 1)]? = _
    rw [show o + p + (k + 1) = o + (p + 1) + k by omega, show b + p + (k + 1) = b + (p + 1) + k by omega]
    exact this
/-! ### Format -/
abbrev Z64 : List UInt8 := List.replicate 64 0
theorem n_Format_l2 {n s : Nat} (hn : n ≤ 16384) (hs : 2 + s < n) : ∀ (m z : Nat) (H : Hp) (d : Dsk), DIn H i d → d.off = false → d.fuse < 0 → d.now = List.replicate n Z64 → d.wait.length + (2 + s - z) ≤ 200000 → z ≤ 2 + s → 2 + s - z < m →
    ∃ H' d', m_wal_Format_l2 (s : Int) (some i) m (z : Int) H = m_wal_Format_j1 (some i) (s : Int) H' ∧ DIn H' i d' ∧ d'.off = false ∧ d'.fuse < 0 ∧ d'.now = List.replicate n Z64 ∧ d'.wait.length ≤ 200000 ∧ d'.lives = d.lives ∧ H'.lg = H.lg
  | 0, z, _, _, _, _, _, _, _, _, h => by omega
  | m + 1, z, H, d, h, ho, hf, hnow, hw, hz, hm => by
    unfold m_wal_Format_l2
    rw [wi_id (z := 2 + (s : Int)) (by omega) (by omega)]
    by_cases hlt : z < 2 + s
    · rw [bif_pos (dec_t (by omega))]
      obtain ⟨H1, g1, g2, g3⟩ := n_Write h ho hf (k := z) (x := Z64) (by rw [hnow, List.length_replicate]; omega) (by simp) (by omega)
      show ∃ H' d', Option.bind (m_disk_Disk_Write (some i) (z : Int) Z64 H) _ = _ ∧ _
      rw [g1, Option.bind_some, bif_neg (by rfl), wi_succ (by omega)]
      obtain ⟨H', d', k1, k2, k3, k4, k5, k6, k7, k8⟩ := n_Format_l2 hn hs m (z + 1) H1 _ g2 ho hf (by show d.now.set z Z64 = _; rw [hnow, List.set_replicate_self]) (by show (d.wait ++ [_]).length + _ ≤ _; simp; omega) (by omega) (by omega)
      exact ⟨H', d', k1, k2, k3, k4, k5, k6, k7, by rw [k8, g3]⟩
    · rw [bif_neg (dec_f (by omega))]
      exact ⟨H, d, rfl, h, ho, hf, hnow, by omega, rfl, rfl⟩
theorem n_room {n : Nat} (h : DIn H i d) (hl : d.now.length = n) (hn : n ≤ 16384) (hs : 3 ≤ s) (h2 : 2 + s < n) : m_wal_room (some i) (s : Int) H = some true := by
  unfold m_wal_room
  rw [bif_pos (dec_t (by omega)), n_Size h (by omega), Option.bind_some, wi_id (z := (d.now.length : Int) - 2) (by omega) (by omega), wi_id (by omega) (by omega), dec_t (by omega)]
theorem n_Format {n s : Nat} (h : DIn H i d) (ho : d.off = false) (hf : d.fuse < 0) (hnow : d.now = List.replicate n Z64) (hw : d.wait = []) (hn : n ≤ 16384) (hs : 3 ≤ s) (h2 : 2 + s < n) :
    ∃ H' d', m_wal_Format (some i) (s : Int) H = some (0, H') ∧ DIn H' i d' ∧ d'.off = false ∧ d'.fuse < 0 ∧ d'.now = (List.replicate n Z64).set 0 (slotB 1 s) ∧ d'.kept = d'.now ∧ d'.wait = [] ∧ d'.lives = d.lives ∧ H'.lg = H.lg := by
  have hl : d.now.length = n := by rw [hnow, List.length_replicate]
  unfold m_wal_Format
  rw [n_Size h (by omega), Option.bind_some, bif_neg (ieq_f (by omega)), n_room h hl hn hs h2, Option.bind_some, bif_neg (by rfl), wi_id (z := 2 + (s : Int)) (by omega) (by omega)]
  obtain ⟨H1, d1, g1, g2, g3, g4, g5, g6, g7, g8⟩ := n_Format_l2 (s := s) hn h2 ((2 + (s : Int)).toNat + 1) 1 H d h ho hf hnow (by rw [hw]; simp; omega) (by omega) (by omega)
  rw [show ((1 : Nat) : Int) = 1 from rfl] at g1
  rw [g1]
  unfold m_wal_Format_j1
  obtain ⟨H2, k1, k2, k3⟩ := n_Flush g2 g3 g4 (by rw [g5, List.length_replicate]; omega) (by omega)
  rw [k1, Option.bind_some, bif_neg (by rfl)]
  have eS := n_slotBytes (b := 1) (s := s) (by omega) (by omega)
  rw [show ((1 : Nat) : Int) = 1 from rfl] at eS
  rw [eS, Option.bind_some]
  obtain ⟨H3, m1, m2, m3⟩ := n_Write k2 g3 g4 (k := 0) (by show 0 < d1.now.length; rw [g5, List.length_replicate]; omega) (slotB_len 1 s) (by show ([] : List S_disk_write).length < _; simp)
  rw [show ((0 : Nat) : Int) = 0 from rfl] at m1
  show ∃ H' d', Option.bind (m_disk_Disk_Write (some i) 0 (slotB 1 s) H2) _ = _ ∧ _
  rw [m1, Option.bind_some, bif_neg (by rfl)]
  obtain ⟨H4, q1, q2, q3⟩ := n_Flush m2 g3 g4 (by show 0 < (d1.now.set 0 _).length; rw [List.length_set, g5, List.length_replicate]; omega) (by show ([] ++ [_] : List S_disk_write).length < _; simp)
  show ∃ H' d', Option.bind (m_disk_Disk_Flush (some i) H3) _ = _ ∧ _
  rw [q1]
  exact ⟨H4, _, rfl, q2, g3, g4, by show d1.now.set 0 _ = _; rw [g5], rfl, rfl, g7, by rw [q3, m3, k3, g8]⟩

/-! ### Open -/
theorem n_readSlot {n b s k : Nat} (h : DIn H i d) (ho : d.off = false) (hl : d.now.length = n) (hn : n ≤ 16384) (hs : 3 ≤ s) (h2 : 2 + s < n) (hb : 1 ≤ b) (hb2 : b ≤ 2305843009213693952) (hr : d.now[k]? = some (slotB b s)) : m_wal_readSlot (some i) (k : Int) H = some ((b : Int), (s : Int), true) := by
  unfold m_wal_readSlot
  rw [n_Read h ho hr, Option.bind_some, bif_neg (by rfl)]
  have hL := slotB_len b s
  have e1 : cutI (slotB b s) 0 8 = some (be 8 b) := by
    have := cutI_mid (l := slotB b s) (lo := 0) (n := 8) (by omega) 8 rfl
    rw [show ((0 : Nat) : Int) = 0 from rfl, List.drop_zero] at this
    rw [this]
    unfold slotB
    rw [List.take_left' (be_length 8 b)]
  have e2 : cutI (slotB b s) 56 ((slotB b s).length : Int) = some (be 8 b) := by
    have := cutI_drop (l := slotB b s) (n := 56) (by omega)
    rw [show ((56 : Nat) : Int) = 56 from rfl] at this
    rw [this]
    unfold slotB
    rw [show be 8 b ++ (be 4 s ++ (List.replicate 44 (0 : UInt8) ++ be 8 b)) = (be 8 b ++ (be 4 s ++ List.replicate 44 (0 : UInt8))) ++ be 8 b by simp only [List.append_assoc], List.drop_left' (by simp [be_length])]
  have e3 : cutI (slotB b s) 8 12 = some (be 4 s) := by
    have := cutI_mid (l := slotB b s) (lo := 8) (n := 4) (by omega) 12 rfl
    rw [show ((8 : Nat) : Int) = 8 from rfl] at this
    rw [this]
    unfold slotB
    rw [List.drop_left' (be_length 8 b), List.take_left' (be_length 4 s)]
  have e4 : cutI (slotB b s) 12 56 = some (List.replicate 44 0) := by
    have := cutI_mid (l := slotB b s) (lo := 12) (n := 44) (by omega) 56 rfl
    rw [show ((12 : Nat) : Int) = 12 from rfl] at this
    rw [this]
    unfold slotB
    rw [show be 8 b ++ (be 4 s ++ (List.replicate 44 (0 : UInt8) ++ be 8 b)) = (be 8 b ++ be 4 s) ++ (List.replicate 44 (0 : UInt8) ++ be 8 b) by simp only [List.append_assoc], List.drop_left' (by simp [be_length]), List.take_left' (by simp)]
  obtain ⟨gb, gb2⟩ := getN_be (n := b) (k := 8) (by omega) (by omega) (by omega) (by omega)
  obtain ⟨gs, gs2⟩ := getN_be (n := s) (k := 4) (by omega) (by omega) (by omega) (by omega)
  show Option.bind (cutI (slotB b s) 0 8) _ = _
  rw [e1, Option.bind_some, n_Get, Option.bind_some]
  show Option.bind (cutI (slotB b s) 56 ((slotB b s).length : Int)) _ = _
  rw [e2, Option.bind_some, n_Get, Option.bind_some]
  show Option.bind (cutI (slotB b s) 8 12) _ = _
  rw [e3, Option.bind_some, n_Get, Option.bind_some, gb, gb2, gs, gs2]
  rw [bif_neg (by rfl), bif_neg (by rfl), bif_neg (by rfl), bif_neg (ine_f rfl), bif_neg (dec_f (by show ¬ (b : Int) < 1; omega)), bif_neg (dec_f (by show ¬ (b : Int) > 2305843009213693952; omega))]
  show Option.bind (m_wal_room (some i) (s : Int) H) _ = _
  rw [n_room h hl hn hs h2, Option.bind_some, bif_neg (by rfl)]
  show Option.bind (cutI (slotB b s) 12 56) _ = _
  rw [e4, Option.bind_some, show m_wal_noughts (List.replicate 44 0) = some true by decide +kernel, Option.bind_some, bif_neg (by rfl)]
theorem n_readZero {k : Nat} (h : DIn H i d) (ho : d.off = false) (hr : d.now[k]? = some Z64) : m_wal_readSlot (some i) (k : Int) H = some (0, 0, false) := by
  unfold m_wal_readSlot
  rw [n_Read h ho hr, Option.bind_some, bif_neg (by rfl)]
  show Option.bind (cutI Z64 0 8) _ = _
  rw [show cutI Z64 0 8 = some (List.replicate 8 0) by decide +kernel, Option.bind_some, show m_word_Get (List.replicate 8 0) = some (0, 0) by decide +kernel, Option.bind_some]
  show Option.bind (cutI Z64 56 64) _ = _
  rw [show cutI Z64 56 64 = some (List.replicate 8 0) by decide +kernel, Option.bind_some, show m_word_Get (List.replicate 8 0) = some (0, 0) by decide +kernel, Option.bind_some]
  show Option.bind (cutI Z64 8 12) _ = _
  rw [show cutI Z64 8 12 = some (List.replicate 4 0) by decide +kernel, Option.bind_some, show m_word_Get (List.replicate 4 0) = some (0, 0) by decide +kernel, Option.bind_some]
  rfl
theorem n_Open_take {H0 K : Hp} {x : S_wal_Log} {b s n z : Nat} (hK : DIn K i d) (hx : K.lg[H0.lg.length]? = some x) (hz : z < 2) (hr : m_wal_readSlot (some i) (z : Int) K = some ((b : Int), (s : Int), true)) (hb : x.base_ < (b : Int)) :
    ∃ K', m_wal_Open_l5 i H0 (n + 1) (z : Int) K = m_wal_Open_l5 i H0 n ((z + 1 : Nat) : Int) K' ∧ K'.lg[H0.lg.length]? = some ⟨x.d_, s, b, z, x.used_, x.life_, x.commits_⟩ ∧ DIn K' i d := by
  have hl : H0.lg.length < K.lg.length := (List.getElem?_eq_some_iff.1 hx).1
  rw [m_wal_Open_l5, bif_pos (dec_t (by omega)), hr, Option.bind_some, bif_pos (by rfl)]
  show ∃ K', Option.bind (K.lg[H0.lg.length]?) _ = _ ∧ _
  rw [hx, Option.bind_some, dec_t (show (b : Int) > x.base_ from hb)]
  unfold m_wal_Open_j6
  rw [bif_pos (by rfl)]
  show ∃ K', Option.bind (K.lg[H0.lg.length]?) _ = _ ∧ _
  rw [hx, Option.bind_some, wi_succ (by omega)]
  refine ⟨_, rfl, ?_, hK.lg rfl rfl⟩
  show (((K.lg.set H0.lg.length _).set H0.lg.length _).set H0.lg.length _)[H0.lg.length]? = _
  rw [List.getElem?_set_self (by simp; omega)]
theorem n_Open_skip {H0 K : Hp} {u v : Int} {n z : Nat} (hz : z < 2) (hr : m_wal_readSlot (some i) (z : Int) K = some (u, v, false)) : m_wal_Open_l5 i H0 (n + 1) (z : Int) K = m_wal_Open_l5 i H0 n ((z + 1 : Nat) : Int) K := by
  rw [m_wal_Open_l5, bif_pos (dec_t (by omega)), hr, Option.bind_some, bif_neg (by rfl)]
  unfold m_wal_Open_j6
  rw [bif_neg (by rfl), wi_succ (by omega)]
theorem n_Open_j4 {K : Hp} {L : List S_api_Write} (h : WIn K i H.lg.length d s base slot 0 com) (h1 : 1 ≤ base) (hs : slot ≤ 1) (hb : base + s + s ≤ 2305843009213693952) (hL : m_wal_Log_says (some H.lg.length) K = some L) (hg : Good s d.now.length L) (hl : L.length ≤ 100000) (hw : d.wait.length ≤ 1000) :
    ∃ H' d', m_wal_Open_j4 H K = some (some H.lg.length, 0, H') ∧ WIn H' i H.lg.length d' s (base + s) (1 - slot) 0 com ∧ d'.now = (rd s d.now L).set (1 - slot) (slotB (base + s) s) ∧ d'.kept = d'.now ∧ d'.wait = [] ∧ d'.lives = d.lives := by
  have := h.ln
  have := h.sl
  unfold m_wal_Open_j4
  show ∃ H' d', Option.bind (K.lg[H.lg.length]?) _ = _ ∧ _
  rw [h.lg, Option.bind_some]
  show ∃ H' d', (bif ((base : Int) == 0) then _ else bif decide ((base : Int) > wi (2305843009213693952 - (s : Int))) then _ else _) = _ ∧ _
  rw [bif_neg (ieq_f (by omega)), wi_id (z := 2305843009213693952 - (s : Int)) (by omega) (by omega), bif_neg (dec_f (by omega))]
  show ∃ H' d', Option.bind (m_wal_Log_says (some H.lg.length) K) _ = _ ∧ _
  rw [hL, Option.bind_some]
  obtain ⟨H1, d1, g1, g2, g3, g4, g5, g6⟩ := n_redo h hl hg (by omega)
  show ∃ H' d', Option.bind (m_wal_Log_redo (some H.lg.length) L K) _ = _ ∧ _
  rw [g1, Option.bind_some, bif_neg (by rfl)]
  obtain ⟨H2, d2, k1, k2, k3, k4, k5, k6⟩ := n_Checkpoint g2 hs hb (by omega)
  show ∃ H' d', Option.bind (m_wal_Log_Checkpoint (some H.lg.length) H1) _ = _ ∧ _
  rw [k1, Option.bind_some, bif_neg (by rfl)]
  exact ⟨H2, d2, rfl, k2, by rw [k3, g3], k4, k5, by rw [k6, g6]⟩
end
end Go.Proofs.Ytjomnccladjpgaa

/-
  Plain: what the laws on the log share.
-/
namespace Go.Proofs.Ytjomnccladjpgaa
open Go Go.RowKit
set_option linter.unusedVariables false
set_option linter.unusedSimpArgs false

theorem awake18 : (m_L18_awake Hp.e).map (·.1) = some true := by kernel_rfl
theorem n_awake : ∃ w1, m_L18_awake Hp.e = some (true, w1) := by
  have := awake18
  cases h : m_L18_awake Hp.e with
  | none => rw [h] at this; cases this
  | some p =>
    rw [h] at this
    injection this with this
    obtain ⟨b, w1⟩ := p
    exact ⟨w1, by rw [show b = true from this]⟩
theorem n_Few (ws : List S_api_Write) : ∃ r, m_L18_FewWrites ws = some r ∧ (r = true → ws.length ≤ 10) := by
  unfold m_L18_FewWrites
  by_cases h : ws.length ≤ 10
  · rw [bif_neg (dec_f (by omega))]
    obtain ⟨r, h1, _⟩ := loop_tells (len := ws.length) (m_L18_FewWrites_l1 ws) (fun k => ∀ hk : k < ws.length, ws[k].Data.length ≤ 100) True (fun n k hk => by
      refine ⟨decide (ws[k].Data.length ≤ 100), by simp [hk], ?_⟩
      rw [m_L18_FewWrites_l1, bif_pos (dec_t (by omega)), idx_nat hk, Option.bind_some, wi_succ (by omega)]
      by_cases h1 : ws[k].Data.length ≤ 100
      · rw [bif_neg (dec_f (by omega)), dec_t h1]; rfl
      · rw [bif_pos (dec_t (by omega)), dec_f h1]; rfl) (fun n => by
      rw [m_L18_FewWrites_l1, bif_neg (dec_f (by omega))]
      exact ⟨true, rfl, by simp⟩) (ws.length + 1) 0 (by omega) (by omega)
    exact ⟨r, h1, fun _ => h⟩
  · rw [bif_pos (dec_t (by omega))]
    exact ⟨false, rfl, fun h => by cases h⟩
theorem n_Same (a b : List UInt8) (ha : a.length < 4611686018427387904) : m_R01_Same a b = some (decide (a = b)) :=
  n_pair a b ha (fun x y => some ((x.toNat : Int) == (y.toNat : Int))) (m_R01_Same_l1 a b) (fun n z => rfl) fun x _ y => ⟨_, rfl, by rw [beq_iff_eq, ← UInt8.toNat_inj]; omega⟩
theorem n_same (a b : List (List UInt8)) (ha : a.length < 4611686018427387904) (hl : ∀ x ∈ a, x.length < 4611686018427387904) : m_L18_same a b = some (decide (a = b)) :=
  n_pair a b ha m_R01_Same (m_L18_same_l1 a b) (fun n z => rfl) fun x hx y => ⟨_, n_Same x y (hl x hx), by simp⟩
section
variable {H : Hp} {i j : Nat} {d : Dsk} {s base slot used : Nat} {com : Int}
theorem n_homes (h : LIn H i j d s base slot used com) : m_L18_homes (some j) H = some (d.now.drop (2 + s), true) := by
  have := h.ln
  have := h.sl
  have hl : (d.now.drop (2 + s)).length = d.now.length - 2 - s := by rw [List.length_drop]; omega
  have key : ∀ (n k : Nat), k ≤ d.now.length - 2 - s → d.now.length - 2 - s - k < n → m_L18_homes_l2 ((d.now.length - 2 - s : Nat) : Int) (some j) H n ((d.now.drop (2 + s)).take k) (k : Int) = some (d.now.drop (2 + s), true) := by
    intro n
    induction n with
    | zero => intro k _ h; omega
    | succ n ih =>
      intro k hk hn
      unfold m_L18_homes_l2
      by_cases hlt : k < d.now.length - 2 - s
      · have hr : d.now[2 + s + k]? = some (d.now[2 + s + k]'(by omega)) := List.getElem?_eq_getElem (by omega)
        rw [bif_pos (dec_t (by omega)), n_LRead h hr, Option.bind_some, bif_neg (by rfl), appI_ok (by rw [List.length_take]; simp; omega), Option.bind_some, wi_succ (by omega)]
        have e : (d.now.drop (2 + s)).take k ++ [d.now[2 + s + k]'(by omega)] = (d.now.drop (2 + s)).take (k + 1) := by
          rw [← List.take_append_getElem (by omega : k < (d.now.drop (2 + s)).length), List.getElem_drop]
        rw [e]
        exact ih (k + 1) (by omega) (by omega)
      · rw [bif_neg (dec_f (by omega)), List.take_of_length_le (by omega)]
        rfl
  unfold m_L18_homes
  rw [n_Homes h, Option.bind_some]
  exact key _ 0 (by omega) (by omega)
end
def put1 (t : List (List UInt8)) (ws : List S_api_Write) : List (List UInt8) := ws.foldl (fun t w => t.set w.Home.toNat w.Data) t
theorem put1_len (ws : List S_api_Write) : ∀ t, (put1 t ws).length = t.length := by
  induction ws with
  | nil => intro t; rfl
  | cons w r ih => intro t; show (put1 (t.set _ _) r).length = _; rw [ih, List.length_set]
theorem rd_drop (s : Nat) (ws : List S_api_Write) : ∀ t, (rd s t ws).drop (2 + s) = put1 (t.drop (2 + s)) ws := by
  induction ws with
  | nil => intro t; rfl
  | cons w r ih =>
    intro t
    show (rd s (t.set _ _) r).drop (2 + s) = put1 ((t.drop (2 + s)).set _ _) r
    rw [ih, List.drop_set, if_neg (by omega), show 2 + s + w.Home.toNat - (2 + s) = w.Home.toNat by omega]
theorem n_done {t : List (List UInt8)} {ws : List S_api_Write} (h0 : 0 < t.length) (ht : t.length ≤ 20000) (hl : ws.length ≤ 10000) (hg : ∀ w ∈ ws, 0 ≤ w.Home ∧ w.Home < (t.length : Int)) : m_L18_done t ws = some (put1 t ws) := by
  have key : ∀ (n k : Nat) (u : List (List UInt8)), u.length = t.length → k ≤ ws.length → ws.length - k < n → m_L18_done_l1 ws n (k : Int) u = some (put1 u (ws.drop k)) := by
    intro n
    induction n with
    | zero => intro k u _ _ h; omega
    | succ n ih =>
      intro k u hu hk hn
      unfold m_L18_done_l1
      by_cases hlt : k < ws.length
      · obtain ⟨w1, w2⟩ := hg _ (List.getElem_mem hlt)
        have e3 : idx u ws[k].Home = some (u[ws[k].Home.toNat]'(by omega)) := by
          have := idx_nat (l := u) (i := ws[k].Home.toNat) (by omega)
          rwa [Int.toNat_of_nonneg w1] at this
        rw [bif_pos (dec_t (by omega)), idx_nat hlt, Option.bind_some, e3, Option.bind_some, wi_succ (by omega), ih (k + 1) _ (by rw [List.length_set, hu]) (by omega) (by omega), List.drop_eq_getElem_cons hlt]
        rfl
      · rw [bif_neg (dec_f (by omega)), List.drop_of_length_le (by omega)]
        rfl
  unfold m_L18_done
  have hne : t.isEmpty = false := by
    cases t with
    | nil => simp at h0
    | cons x r => rfl
  rw [bif_neg hne, appI_ok (by simp; omega), Option.bind_some, List.nil_append]
  exact key (ws.length + 1) 0 t rfl (by omega) (by omega)

end Go.Proofs.Ytjomnccladjpgaa

/-
  Plain: a disk whose fuse burns, and a crash that tears writes.
-/
namespace Go.Proofs.Ytjomnccladjpgaa
open Go Go.RowKit
set_option linter.unusedVariables false
set_option linter.unusedSimpArgs false

/-- What a write or a flush does to the fuse. -/
def Dsk.burn (d : Dsk) : Dsk := if d.fuse < 0 then d else ⟨d.kept, d.now, d.wait, d.fuse - 1, decide (d.fuse = 0), d.lives⟩
theorem Dsk.burn_neg {d : Dsk} (h : d.fuse < 0) : d.burn = d := if_pos h
theorem Dsk.burn_pos {d : Dsk} (h : 0 ≤ d.fuse) : d.burn = ⟨d.kept, d.now, d.wait, d.fuse - 1, decide (d.fuse = 0), d.lives⟩ := if_neg (by omega)
/-- A row over which the first c bytes of a new one were laid. -/
def over (x b : List UInt8) (c : Nat) : List UInt8 := b.take c ++ x.drop c
theorem over_len {x b : List UInt8} {c : Nat} (hx : x.length = 64) (hb : b.length = 64) : (over x b c).length = 64 := by simp [over]; omega
/-- What a crash makes of what was kept. -/
def tear : List (List UInt8) → List S_disk_write → List UInt8 → List (List UInt8)
  | k, w :: r, c :: cs => tear (k.set w.n_.toNat (over (k.getD w.n_.toNat []) w.b_ (min c.toNat 64))) r cs
  | k, _, _ => k
theorem tear_len : ∀ (l : List S_disk_write) (k : List (List UInt8)) (cs : List UInt8), (tear k l cs).length = k.length
  | [], k, cs => by cases cs <;> rfl
  | w :: r, k, [] => rfl
  | w :: r, k, c :: cs => by
    show (tear (k.set _ _) r cs).length = _
    rw [tear_len r, List.length_set]

section
variable {H : Hp} {i : Nat} {d : Dsk}
theorem n_burnF {x : S_disk_Disk} (h : H.dk[i]? = some x) (hf : 0 ≤ x.fuse_) (hf2 : x.fuse_ < 1000000) : ∃ H', m_disk_Disk_burn (some i) H = some (decide (x.fuse_ = 0), H') ∧ H'.dk[i]? = some ⟨x.kept_, x.now_, x.wait_, x.fuse_ - 1, decide (x.fuse_ = 0), x.lives_⟩ ∧ H'.sec = H.sec ∧ H'.lg = H.lg := by
  have hil : i < H.dk.length := (List.getElem?_eq_some_iff.1 h).1
  have e : (x.fuse_ == 0) = decide (x.fuse_ = 0) := rfl
  unfold m_disk_Disk_burn
  show ∃ H', Option.bind (H.dk[i]?) _ = _ ∧ _
  rw [h, Option.bind_some, bif_neg (dec_f (by omega))]
  refine ⟨_, rfl, ?_, rfl, rfl⟩
  show ((H.dk.set i _).set i _)[i]? = _
  rw [List.getElem?_set_self (by simp; omega)]
  show some (S_disk_Disk.mk _ _ _ (wi (x.fuse_ - 1)) _ _) = _
  rw [wi_id (by omega) (by omega)]
  rfl
theorem n_WriteF (h : DIn H i d) (ho : d.off = false) (hf2 : d.fuse < 1000000) {k : Nat} (hk : k < d.now.length) {x : List UInt8} (hx : x.length = 64) (hw : d.wait.length < 1000000) :
    ∃ H', m_disk_Disk_Write (some i) (k : Int) x H = some (if d.fuse = 0 then 30 else 0, H') ∧ DIn H' i (Dsk.burn { d with now := d.now.set k x, wait := d.wait ++ [⟨k, x⟩] }) ∧ H'.lg = H.lg := by
  by_cases hf : d.fuse < 0
  · obtain ⟨H', e1, e2, e3⟩ := n_Write h ho hf hk hx hw
    exact ⟨H', by rw [if_neg (by omega)]; exact e1, by rw [Dsk.burn_neg (by exact hf)]; exact e2, e3⟩
  · have hm := n_may h ho hk
    obtain ⟨⟨a, b, ks, ns, hab, hd, hk1, hn, ek, en⟩, h4, h5, h6⟩ := h
    have hl : ns.length = d.now.length := by rw [← en, List.length_map]
    have hil : i < H.dk.length := (List.getElem?_eq_some_iff.1 hd).1
    have hbl : b < H.sec.length := (List.getElem?_eq_some_iff.1 hn).1
    let X : S_disk_Disk := ⟨(a, ks.length), (b, ns.length), d.wait ++ [⟨k, x⟩], d.fuse, d.off, d.lives⟩
    have g1 : ((H.st_dk i X).st_sec b (ns.set k x)).dk[i]? = some X := List.getElem?_set_self hil
    obtain ⟨H', q1, q2, q3, q4⟩ := n_burnF g1 (by show 0 ≤ d.fuse; omega) hf2
    refine ⟨H', ?_, ?_, q4⟩
    · unfold m_disk_Disk_Write
      rw [hm, Option.bind_some, bif_neg (by rfl), bif_neg (ine_f (by omega))]
      have e1 : s2aI 64 x = some x := by
        unfold s2aI
        rw [if_pos (by omega), List.take_of_length_le (by omega)]
      rw [e1, Option.bind_some]
      show Option.bind (H.dk[i]?) _ = _
      rw [hd, Option.bind_some, appI_ok (by show (d.wait.length + _) * _ ≤ _; simp; omega), Option.bind_some]
      show Option.bind (H.sec[b]?) _ = _
      rw [hn, Option.bind_some]
      unfold lenI
      rw [if_pos rfl, Option.bind_some, idx_nat (by omega), Option.bind_some]
      show Option.bind (m_disk_Disk_burn (some i) ((H.st_dk i X).st_sec b (ns.set k x))) _ = _
      rw [q1, Option.bind_some]
      show (bif decide (d.fuse = 0) then some (30, H') else some (0, H')) = _
      by_cases h0 : d.fuse = 0
      · rw [bif_pos (dec_t h0), if_pos h0]
      · rw [bif_neg (dec_f h0), if_neg h0]
    · rw [Dsk.burn_pos (by show 0 ≤ d.fuse; omega)]
      refine ⟨⟨a, b, ks, ns.set k x, hab, ?_, ?_, ?_, ek, ?_⟩, ?_, ?_, ?_⟩
      · rw [q2, List.length_set]
      · rw [q3]
        show (H.sec.set b _)[a]? = _
        rw [List.getElem?_set_ne (fun e => hab e.symm), hk1]
      · rw [q3]
        exact List.getElem?_set_self hbl
      · show _ = d.now.set k x
        rw [List.map_set, en, pad_id hx]
      · show d.kept.length = (d.now.set k x).length
        rw [List.length_set, h4]
      · intro w hw
        show 0 ≤ w.n_ ∧ w.n_ < ((d.now.set k x).length : Int) ∧ _
        rw [List.length_set]
        rcases List.mem_append.1 hw with hw | hw
        · exact h5 w hw
        · rw [List.mem_singleton.1 hw]
          exact ⟨by show (0 : Int) ≤ (k : Int); omega, by show (k : Int) < _; omega, hx⟩
      · show d.now.set k x = apw d.kept (d.wait ++ [⟨k, x⟩])
        rw [apw_snoc, ← h6]
        rfl
theorem n_FlushF (h : DIn H i d) (ho : d.off = false) (hf2 : d.fuse < 1000000) (h0 : 0 < d.now.length) (hw : d.wait.length < 1000000) :
    ∃ H', m_disk_Disk_Flush (some i) H = some (if d.fuse = 0 then 30 else 0, H') ∧ DIn H' i (Dsk.burn (if d.fuse = 0 then d else { d with kept := d.now, wait := [] })) ∧ H'.lg = H.lg := by
  by_cases hf : d.fuse < 0
  · obtain ⟨H', e1, e2, e3⟩ := n_Flush h ho hf h0 hw
    exact ⟨H', by rw [if_neg (by omega)]; exact e1, by rw [if_neg (by omega), Dsk.burn_neg (by exact hf)]; exact e2, e3⟩
  · have hm := n_may h ho h0
    obtain ⟨⟨a, b, ks, ns, hab, hd, hk1, hn, ek, en⟩, h4, h5, h6⟩ := h
    have hl : ns.length = d.now.length := by rw [← en, List.length_map]
    have hl2 : ks.length = d.kept.length := by rw [← ek, List.length_map]
    obtain ⟨H1, q1, q2, q3, q4⟩ := n_burnF hd (by show 0 ≤ d.fuse; omega) hf2
    unfold m_disk_Disk_Flush
    rw [show ((0 : Nat) : Int) = 0 from rfl] at hm
    rw [hm, Option.bind_some, bif_neg (by rfl), q1, Option.bind_some]
    by_cases hz : d.fuse = 0
    · rw [bif_pos (dec_t hz), if_pos hz, if_pos hz, Dsk.burn_pos (by omega)]
      exact ⟨H1, rfl, ⟨⟨a, b, ks, ns, hab, q2, by rw [q3]; exact hk1, by rw [q3]; exact hn, ek, en⟩, h4, h5, h6⟩, q4⟩
    · rw [bif_neg (dec_f hz), if_neg hz, if_neg hz, Dsk.burn_pos (by show 0 ≤ d.fuse; omega)]
      show ∃ H', Option.bind (H1.dk[i]?) _ = _ ∧ _
      rw [q2, Option.bind_some]
      obtain ⟨H', ks', g1, g2, g3, g4, g5, g6, g7⟩ := n_Flush_l2 hab (X := ⟨(a, ks.length), (b, ns.length), d.wait, d.fuse - 1, decide (d.fuse = 0), d.lives⟩) (L := ks.length) rfl (fun w hw => by have := h5 w hw; exact ⟨this.1, by omega, this.2.2⟩) (by show d.wait.length < _; omega) i ns (d.wait.length + 1) 0 H1 ks (Nat.zero_le _) (by show d.wait.length - 0 < _; omega) q2 (by rw [q3]; exact hk1) (by rw [q3]; exact hn) rfl
      have e : ks'.map pad = d.now := by
        rw [g5, ek, h6]
        rfl
      exact ⟨H', g1, ⟨⟨a, b, ks', ns, hab, by rw [g2, g7], g3, g4, e, en⟩, rfl, fun w hw => absurd hw List.not_mem_nil, rfl⟩, by rw [g6, q4]⟩
theorem n_Fuse (h : DIn H i d) (h0 : 0 < d.now.length) {p : Int} (hp : 0 ≤ p) : ∃ H', m_disk_Disk_Fuse (some i) p H = some H' ∧ DIn H' i { d with fuse := p } ∧ H'.lg = H.lg := by
  have hi := n_is h h0
  obtain ⟨⟨a, b, ks, ns, hab, hd, hk1, hn, ek, en⟩, h4, h5, h6⟩ := h
  have hil : i < H.dk.length := (List.getElem?_eq_some_iff.1 hd).1
  unfold m_disk_Disk_Fuse
  rw [hi, Option.bind_some, bif_pos (by rfl)]
  show ∃ H', Option.bind (H.dk[i]?) _ = _ ∧ _
  rw [hd, Option.bind_some]
  refine ⟨_, rfl, ⟨⟨a, b, ks, ns, hab, ?_, hk1, hn, ek, en⟩, h4, h5, h6⟩, rfl⟩
  show (H.dk.set i _)[i]? = _
  rw [List.getElem?_set_self hil, if_neg (by omega)]
theorem n_Crash_l2 {a b : Nat} (hab : a ≠ b) {X : S_disk_Disk} {L : Nat} (hXk : X.kept_ = (a, L)) (hw : ∀ w ∈ X.wait_, 0 ≤ w.n_ ∧ w.n_ < (L : Int) ∧ w.b_.length = 64) (hwl : X.wait_.length < 4611686018427387904) (ch : List UInt8) (i : Nat) (ns : List (List UInt8)) : ∀ (n j : Nat) (H : Hp) (ks : List (List UInt8)), j ≤ X.wait_.length → X.wait_.length - j < n → H.dk[i]? = some X → H.sec[a]? = some ks → H.sec[b]? = some ns → ks.length = L →
    ∃ H' ks', m_disk_Disk_Crash_l2 X ch (some i) i n (j : Int) H = m_disk_Disk_Crash_j1 (some i) H' ∧ H'.dk[i]? = some X ∧ H'.sec[a]? = some ks' ∧ H'.sec[b]? = some ns ∧ ks'.map pad = tear (ks.map pad) (X.wait_.drop j) (ch.drop j) ∧ H'.lg = H.lg ∧ ks'.length = L
  | 0, j, _, _, _, h, _, _, _, _ => by omega
  | n + 1, j, H, ks, hj, h, hd, hk, hn, hL => by
    unfold m_disk_Disk_Crash_l2
    by_cases hlt : j < X.wait_.length
    · obtain ⟨h1, h2, h3⟩ := hw _ (List.getElem_mem hlt)
      have hal : a < H.sec.length := (List.getElem?_eq_some_iff.1 hk).1
      rw [bif_pos (dec_t (by omega)), idx_nat hlt, Option.bind_some]
      by_cases hc : j < ch.length
      · have hr : X.wait_[j].n_.toNat < ks.length := by omega
        have e3 : idx ks X.wait_[j].n_ = some (ks[X.wait_[j].n_.toNat]'hr) := by
          have := idx_nat (l := ks) (i := X.wait_[j].n_.toNat) hr
          rwa [Int.toNat_of_nonneg h1] at this
        have e1 : Hp.ge_sec H X.kept_.1 = some ks := by rw [hXk]; exact hk
        have e2 : lenI ks.length X.kept_.2 = some () := by
          unfold lenI
          rw [hXk, if_pos hL]
        rw [bif_neg (dec_f (by omega)), idx_nat hc, Option.bind_some]
        show ∃ H' ks', Option.bind (H.dk[i]?) _ = _ ∧ _
        rw [hd, Option.bind_some, e1, Option.bind_some, e2, Option.bind_some, e3, Option.bind_some]
        have em : (if 64 < ((ch[j].toNat : Nat) : Int) then (64 : Int) else ((ch[j].toNat : Nat) : Int)) = ((min ch[j].toNat 64 : Nat) : Int) := by
          split <;> omega
        have hm : min ch[j].toNat 64 ≤ 64 := Nat.min_le_right _ _
        rw [em]
        generalize hcm : min ch[j].toNat 64 = c at hm
        have e4 : vcut 64 0 (c : Int) = some () := by
          unfold vcut
          rw [if_pos ⟨by omega, by omega, by omega⟩]
        have e5 : cutI (padA (0 : UInt8) X.wait_[j].b_ 0 64) 0 (c : Int) = some (X.wait_[j].b_.take c) := by
          rw [show padA (0 : UInt8) X.wait_[j].b_ 0 64 = X.wait_[j].b_ from pad_id h3, cutI_take (by omega)]
        rw [e4, Option.bind_some, e5, Option.bind_some, wi_succ (by omega)]
        have e6 : cpyL (padA (0 : UInt8) (ks[X.wait_[j].n_.toNat]'hr) 0 64) 0 (Int.toNat (c : Int) - Int.toNat 0) (X.wait_[j].b_.take c) = over (pad (ks[X.wait_[j].n_.toNat]'hr)) X.wait_[j].b_ c := by
          unfold cpyL over
          rw [show Int.toNat (c : Int) - Int.toNat 0 = c from rfl, List.take_zero, List.nil_append, List.take_take, Nat.min_self, List.length_take, show 0 + min (min c X.wait_[j].b_.length) c = c by omega]
        rw [e6]
        generalize hov : over (pad (ks[X.wait_[j].n_.toNat]'hr)) X.wait_[j].b_ c = y
        have hy : y.length = 64 := by rw [← hov]; exact over_len (pad_len _) h3
        have hk' : (H.st_sec X.kept_.1 (ks.set X.wait_[j].n_.toNat y)).sec[a]? = some (ks.set X.wait_[j].n_.toNat y) := by
          rw [hXk]
          exact List.getElem?_set_self hal
        have hn' : (H.st_sec X.kept_.1 (ks.set X.wait_[j].n_.toNat y)).sec[b]? = some ns := by
          rw [hXk]
          show (H.sec.set a _)[b]? = _
          rw [List.getElem?_set_ne hab, hn]
        obtain ⟨H', ks', g1, g2, g3, g4, g5, g6, g7⟩ := n_Crash_l2 hab hXk hw hwl ch i ns n (j + 1) (H.st_sec X.kept_.1 (ks.set X.wait_[j].n_.toNat y)) _ (by omega) (by omega) (show _ from hd) hk' hn' (by rw [List.length_set, hL])
        refine ⟨H', ks', g1, g2, g3, g4, ?_, g6, g7⟩
        rw [g5, List.drop_eq_getElem_cons hlt, List.drop_eq_getElem_cons hc, List.map_set, pad_id hy]
        show _ = tear ((ks.map pad).set _ (over ((ks.map pad).getD _ []) _ (min ch[j].toNat 64))) _ _
        rw [hcm, List.getD_eq_getElem?_getD, List.getElem?_map, List.getElem?_eq_getElem hr]
        show _ = tear ((ks.map pad).set _ (over (pad (ks[X.wait_[j].n_.toNat]'hr)) X.wait_[j].b_ c)) _ _
        rw [hov]
      · rw [bif_pos (dec_t (by omega))]
        refine ⟨H, ks, rfl, hd, hk, hn, ?_, rfl, hL⟩
        rw [List.drop_of_length_le (l := ch) (by omega), List.drop_eq_getElem_cons hlt]
        rfl
    · have e : j = X.wait_.length := by omega
      subst e
      rw [bif_neg (dec_f (by omega))]
      refine ⟨H, ks, rfl, hd, hk, hn, ?_, rfl, hL⟩
      rw [List.drop_length]
      cases ch.drop X.wait_.length <;> rfl
theorem n_Crash_j1 {a : Nat} {ks : List (List UInt8)} {X : S_disk_Disk} (hX : X.kept_ = (a, ks.length)) (hd : H.dk[i]? = some X) (hk1 : H.sec[a]? = some ks) (h0 : 0 < ks.length) (hl : ks.length < 1000000) :
    ∃ H', m_disk_Disk_Crash_j1 (some i) H = some (0, H') ∧ DIn H' i ⟨ks.map pad, ks.map pad, [], -1, false, wi (X.lives_ + 1)⟩ ∧ H'.lg = H.lg := by
  have hal : a < H.sec.length := (List.getElem?_eq_some_iff.1 hk1).1
  have hil : i < H.dk.length := (List.getElem?_eq_some_iff.1 hd).1
  unfold m_disk_Disk_Crash_j1
  show ∃ H', Option.bind (H.dk[i]?) _ = _ ∧ _
  rw [hd, Option.bind_some]
  have e1 : Hp.ge_sec H X.kept_.1 = some ks := by rw [hX]; exact hk1
  rw [e1, Option.bind_some, hX]
  unfold lenI m_slices_Clone_sector
  rw [if_pos rfl, Option.bind_some, appI_ok (by simp; omega), Option.bind_some, List.nil_append]
  have hne : ks.isEmpty = false := by
    cases ks with
    | nil => simp at h0
    | cons x r => rfl
  rw [bif_neg hne]
  refine ⟨_, rfl, ⟨⟨a, H.sec.length, ks, ks, by omega, ?_, ?_, ?_, rfl, rfl⟩, rfl, fun w hw => absurd hw List.not_mem_nil, rfl⟩, rfl⟩
  · show ((((((H.dk.set i _).set i _).set i _).set i _).set i _)[i]?) = _
    rw [List.getElem?_set_self (by simp; omega)]
  · show (H.sec ++ [ks])[a]? = _
    rw [List.getElem?_append_left hal, hk1]
  · show (H.sec ++ [ks])[H.sec.length]? = _
    simp
theorem n_CrashC (h : DIn H i d) (h0 : 0 < d.now.length) (hl0 : d.now.length < 1000000) (hw : d.wait.length < 1000000) (ch : List UInt8) :
    ∃ H', m_disk_Disk_Crash (some i) ch H = some (0, H') ∧ DIn H' i ⟨tear d.kept d.wait ch, tear d.kept d.wait ch, [], -1, false, wi (d.lives + 1)⟩ ∧ H'.lg = H.lg := by
  have hi := n_is h h0
  obtain ⟨⟨a, b, ks, ns, hab, hd, hk1, hn, ek, en⟩, h4, h5, h6⟩ := h
  have hl2 : ks.length = d.kept.length := by rw [← ek, List.length_map]
  unfold m_disk_Disk_Crash
  rw [hi, Option.bind_some, bif_neg (by rfl)]
  show ∃ H', Option.bind (H.dk[i]?) _ = _ ∧ _
  rw [hd, Option.bind_some]
  obtain ⟨H1, ks', g1, g2, g3, g4, g5, g6, g7⟩ := n_Crash_l2 hab (X := ⟨(a, ks.length), (b, ns.length), d.wait, d.fuse, d.off, d.lives⟩) (L := ks.length) rfl (fun w hw => by have := h5 w hw; exact ⟨this.1, by omega, this.2.2⟩) (by show d.wait.length < _; omega) ch i ns (d.wait.length + 1) 0 H ks (Nat.zero_le _) (by show d.wait.length - 0 < _; omega) hd hk1 hn rfl
  obtain ⟨H2, q1, q2, q3⟩ := n_Crash_j1 (by rw [g7]) g2 g3 (by omega) (by omega)
  rw [ek] at g5
  refine ⟨H2, g1.trans q1, ?_, by rw [q3, g6]⟩
  rw [g5] at q2
  exact q2
end
end Go.Proofs.Ytjomnccladjpgaa

/-
  Plain: what the entries of a log say, several transactions in a row.
-/
namespace Go.Proofs.Ytjomnccladjpgaa
open Go Go.RowKit
set_option linter.unusedVariables false
set_option linter.unusedSimpArgs false

/-- What stands from place q on: entries of ws up to the T-th of them. -/
structure StandQ (H : Hp) (j q : Nat) (ws : List S_api_Write) (T : Nat) : Prop where
  a : ∀ k (hk : k < ws.length), 2 * k < T → m_wal_Log_at (some j) ((q + 2 * k : Nat) : Int) H = some ⟨1, ws[k].Home, ws[k].Data.take 32, true⟩
  b : ∀ k (hk : k < ws.length), 2 * k + 1 < T → m_wal_Log_at (some j) ((q + 2 * k + 1 : Nat) : Int) H = some ⟨2, ws[k].Home, ws[k].Data.drop 32, true⟩
  c : 2 * ws.length < T → m_wal_Log_at (some j) ((q + 2 * ws.length : Nat) : Int) H = some ⟨3, ws.length, List.replicate 32 0, true⟩
  t : T ≤ 2 * ws.length → ∃ e, m_wal_Log_at (some j) ((q + T : Nat) : Int) H = some e ∧ e.ok_ = false
section
variable {H : Hp} {i j : Nat} {d : Dsk} {s base slot used : Nat} {com : Int}
theorem n_oneQ (h : LIn H i j d s base slot used com) {q : Nat} {ws : List S_api_Write} {T : Nat} (hg : Good s d.now.length ws) (h1 : 0 < ws.length) (hl : ws.length ≤ 10000) (hq : q ≤ 20000) (hs : StandQ H j q ws T) (hT : T ≤ 2 * ws.length + 1) : ∀ (n k : Nat), k ≤ ws.length → ws.length - k < n → 2 * k ≤ T →
    m_wal_Log_one_l1 (some j) H (q : Int) n (ws.take k) ((q + 2 * k : Nat) : Int) = some (if T = 2 * ws.length + 1 then (ws, (T : Int)) else ([], 0))
  | 0, k, _, hn, _ => by omega
  | n + 1, k, hk, hn, hkT => by
    unfold m_wal_Log_one_l1
    by_cases hend : 2 * k = T
    · obtain ⟨e, e1, e2⟩ := hs.t (by omega)
      rw [hend, e1, Option.bind_some, e2, bif_pos (by rfl), if_neg (by omega)]
    · by_cases hlt : k < ws.length
      · obtain ⟨w1, w2, w3⟩ := hg _ (List.getElem_mem hlt)
        rw [hs.a k hlt (by omega), Option.bind_some, bif_neg (by rfl)]
        show (bif ((1 : Int) == 3) then _ else _) = _
        rw [bif_neg (by decide)]
        unfold m_wal_Log_one_j2
        rw [bif_neg (by rfl), bif_neg (by show ((1 : Int) != 1) = false; decide), n_Homes h, Option.bind_some]
        show (bif decide (ws[k].Home ≥ _) then _ else _) = _
        rw [bif_neg (dec_f (by omega)), wi_succ (by omega)]
        by_cases hodd : 2 * k + 1 = T
        · obtain ⟨e, e1, e2⟩ := hs.t (by omega)
          rw [show q + 2 * k + 1 = q + T by omega, e1, Option.bind_some, e2, bif_pos (by rfl), if_neg (by omega)]
        · rw [hs.b k hlt (by omega), Option.bind_some, bif_neg (by rfl), bif_neg (by show ((2 : Int) != 2) = false; decide)]
          show (bif (ws[k].Home != ws[k].Home) then _ else _) = _
          rw [bif_neg (ine_f rfl)]
          show Option.bind (m_slices_Concat_byte [ws[k].Data.take 32, ws[k].Data.drop 32]) _ = _
          rw [n_Concat (by simp; omega) (by simp; omega), Option.bind_some, List.take_append_drop]
          rw [appI_ok (by simp; omega), Option.bind_some]
          have e : List.take k ws ++ [⟨ws[k].Home, ws[k].Data⟩] = ws.take (k + 1) := by
            rw [← List.take_append_getElem hlt]
          show m_wal_Log_one_l1 (some j) H (q : Int) n (List.take k ws ++ [⟨ws[k].Home, ws[k].Data⟩]) _ = _
          rw [e, wi_id (by omega) (by omega), show ((q + 2 * k : Nat) : Int) + 2 = ((q + 2 * (k + 1) : Nat) : Int) by omega]
          exact n_oneQ h hg h1 hl hq hs hT n (k + 1) (by omega) (by omega) (by omega)
      · have hkk : k = ws.length := by omega
        subst hkk
        have hT2 : T = 2 * ws.length + 1 := by omega
        rw [hs.c (by omega), Option.bind_some, bif_neg (by rfl), List.take_of_length_le (Nat.le_refl _)]
        show (bif ((3 : Int) == 3) then _ else _) = _
        rw [bif_pos (by decide), bif_pos (dec_t (by omega))]
        show (bif ((ws.length : Int) == (ws.length : Int)) then _ else _) = _
        rw [bif_pos (ieq_t rfl)]
        show Option.bind (m_wal_noughts (List.replicate 32 0)) _ = _
        rw [show m_wal_noughts (List.replicate 32 0) = some true by decide +kernel, Option.bind_some]
        unfold m_wal_Log_one_j2
        rw [bif_pos (by rfl), if_pos hT2, wi_succ (by omega), wi_id (by omega) (by omega), hT2]
        congr 2
        omega
/-- A transaction stands whole at place q; none does. -/
def OneOk (H : Hp) (j q : Nat) (ws : List S_api_Write) : Prop := m_wal_Log_one (some j) (q : Int) H = some (ws, ((2 * ws.length + 1 : Nat) : Int))
def OneNo (H : Hp) (j q : Nat) : Prop := m_wal_Log_one (some j) (q : Int) H = some ([], 0)
theorem one_ok (h : LIn H i j d s base slot used com) {q : Nat} {ws : List S_api_Write} (hg : Good s d.now.length ws) (h1 : 0 < ws.length) (hl : ws.length ≤ 10000) (hq : q ≤ 20000) (hs : StandQ H j q ws (2 * ws.length + 1)) : OneOk H j q ws := by
  have := n_oneQ h hg h1 hl hq hs (Nat.le_refl _) 16400 0 (by omega) (by omega) (by omega)
  rw [if_pos rfl] at this
  exact this
theorem one_cut (h : LIn H i j d s base slot used com) {q : Nat} {ws : List S_api_Write} {T : Nat} (hg : Good s d.now.length ws) (h1 : 0 < ws.length) (hl : ws.length ≤ 10000) (hq : q ≤ 20000) (hs : StandQ H j q ws T) (hT : T ≤ 2 * ws.length) : OneNo H j q := by
  have := n_oneQ h hg h1 hl hq hs (by omega) 16400 0 (by omega) (by omega) (by omega)
  rw [if_neg (by omega)] at this
  exact this
/-- Transactions in a row, from place q on. -/
def Chain (H : Hp) (j : Nat) : Nat → List (List S_api_Write) → Prop
  | q, [] => OneNo H j q
  | q, w :: r => OneOk H j q w ∧ Chain H j (q + (2 * w.length + 1)) r
def places (L : List (List S_api_Write)) : Nat := (L.map fun w => 2 * w.length + 1).sum
theorem places_len : ∀ L : List (List S_api_Write), L.length ≤ places L ∧ L.flatten.length ≤ places L
  | [] => ⟨Nat.le_refl _, Nat.le_refl _⟩
  | w :: r => by
    obtain ⟨h1, h2⟩ := places_len r
    have e : places (w :: r) = 2 * w.length + 1 + places r := rfl
    have e2 : (w :: r).length = r.length + 1 := rfl
    have e3 : (w :: r).flatten.length = w.length + r.flatten.length := by rw [show (w :: r).flatten = w ++ r.flatten from rfl, List.length_append]
    rw [e, e2, e3]
    omega
theorem n_says_l1 : ∀ (L : List (List S_api_Write)) (n q : Nat) (acc : List S_api_Write), Chain H j q L → L.length < n → q + places L ≤ 100000 → acc.length + L.flatten.length ≤ 100000 → m_wal_Log_says_l1 (some j) H n acc (q : Int) = some (acc ++ L.flatten)
  | [], n, q, acc, hc, hn, _, _ => by
    obtain ⟨m, rfl⟩ : ∃ m, n = m + 1 := ⟨n - 1, by have : 0 < n := hn; omega⟩
    unfold m_wal_Log_says_l1
    rw [show m_wal_Log_one (some j) (q : Int) H = some ([], 0) from hc, Option.bind_some]
    simp
  | w :: r, n, q, acc, hc, hn, hp, ha => by
    obtain ⟨m, rfl⟩ : ∃ m, n = m + 1 := ⟨n - 1, by have : 0 < n := Nat.lt_of_le_of_lt (Nat.zero_le _) hn; omega⟩
    have e : places (w :: r) = 2 * w.length + 1 + places r := rfl
    have hf : (w :: r).flatten = w ++ r.flatten := rfl
    rw [hf, List.length_append] at ha
    unfold m_wal_Log_says_l1
    rw [show m_wal_Log_one (some j) (q : Int) H = _ from hc.1, Option.bind_some, bif_neg (ieq_f (by show ((2 * w.length + 1 : Nat) : Int) ≠ 0; omega)), appI_ok (by show (acc.length + w.length) * 32 ≤ _; omega), Option.bind_some]
    show m_wal_Log_says_l1 (some j) H m (acc ++ w) (wi ((q : Int) + ((2 * w.length + 1 : Nat) : Int))) = _
    rw [wi_id (by omega) (by omega), show (q : Int) + ((2 * w.length + 1 : Nat) : Int) = ((q + (2 * w.length + 1) : Nat) : Int) by omega]
    rw [n_says_l1 r m (q + (2 * w.length + 1)) (acc ++ w) hc.2 (by simp at hn; omega) (by omega) (by rw [List.length_append]; omega), hf, List.append_assoc]
theorem n_saysQ {L : List (List S_api_Write)} (hc : Chain H j 0 L) (hp : places L ≤ 16390) : m_wal_Log_says (some j) H = some L.flatten := by
  obtain ⟨h1, h2⟩ := places_len L
  have := n_says_l1 L 16400 0 [] hc (by omega) (by omega) (by rw [List.length_nil]; omega)
  rw [List.nil_append] at this
  exact this
end
end Go.Proofs.Ytjomnccladjpgaa

/-
  Plain: torn images, and what they recover to.
-/
namespace Go.Proofs.Ytjomnccladjpgaa
open Go Go.RowKit
set_option linter.unusedVariables false
set_option linter.unusedSimpArgs false

/-! ### Rows that a crash leaves -/
theorem tear_no {q : Nat} : ∀ (W : List S_disk_write) (K : List (List UInt8)) (ch : List UInt8), (∀ w ∈ W, w.n_.toNat ≠ q) → (tear K W ch)[q]? = K[q]?
  | [], K, ch, _ => by cases ch <;> rfl
  | w :: r, K, [], _ => rfl
  | w :: r, K, c :: cs, h => by
    show (tear (K.set _ _) r cs)[q]? = _
    rw [tear_no r _ cs (fun w hw => h w (List.mem_cons_of_mem _ hw)), List.getElem?_set_ne (h w List.mem_cons_self)]
theorem over_zero (x b : List UInt8) : over x b 0 = x := by simp [over]
/-- One write to a row: some of its first bytes are laid over the row. -/
theorem tear_one {q : Nat} {b x : List UInt8} : ∀ (W : List S_disk_write) (K : List (List UInt8)) (ch : List UInt8), W.filter (fun w => decide (w.n_.toNat = q)) = [⟨(q : Int), b⟩] → K[q]? = some x → ∃ c, c ≤ 64 ∧ (tear K W ch)[q]? = some (over x b c)
  | [], K, ch, h, _ => by cases h
  | w :: r, K, [], h, hx => ⟨0, by omega, by rw [over_zero]; exact hx⟩
  | w :: r, K, c :: cs, h, hx => by
    show ∃ c', c' ≤ 64 ∧ (tear (K.set _ _) r cs)[q]? = _
    by_cases hq : w.n_.toNat = q
    · rw [List.filter_cons, if_pos (by simp [hq])] at h
      obtain ⟨h1, h2⟩ := List.cons.inj h
      have hb : w.b_ = b := by rw [h1]
      have hlt : q < K.length := (List.getElem?_eq_some_iff.1 hx).1
      refine ⟨min c.toNat 64, Nat.min_le_right _ _, ?_⟩
      rw [tear_no r _ cs (fun w' hw' e => by
        have : w' ∈ r.filter (fun w => decide (w.n_.toNat = q)) := List.mem_filter.2 ⟨hw', by simp [e]⟩
        rw [h2] at this
        exact absurd this List.not_mem_nil), hq, List.getElem?_set_self hlt, hb, List.getD_eq_getElem?_getD, hx]
      rfl
    · rw [List.filter_cons, if_neg (by simp [hq])] at h
      exact tear_one r _ cs h (by rw [List.getElem?_set_ne hq]; exact hx)
theorem tear_row : ∀ (W : List S_disk_write) (K : List (List UInt8)) (ch : List UInt8), (∀ w ∈ W, w.b_.length = 64) → (∀ (q : Nat) (x : List UInt8), K[q]? = some x → x.length = 64) → ∀ (q : Nat) (x : List UInt8), (tear K W ch)[q]? = some x → x.length = 64
  | [], K, ch, _, hk, q, x, hx => hk q x (by cases ch <;> exact hx)
  | w :: r, K, [], _, hk, q, x, hx => hk q x hx
  | w :: r, K, c :: cs, hw, hk, q, x, hx => by
    refine tear_row r (K.set w.n_.toNat (over (K.getD w.n_.toNat []) w.b_ (min c.toNat 64))) cs (fun w hw' => hw w (List.mem_cons_of_mem _ hw')) (fun q' y hy => ?_) q x hx
    by_cases e : w.n_.toNat = q'
    · have hlt : q' < K.length := by
        have := (List.getElem?_eq_some_iff.1 hy).1
        rwa [List.length_set] at this
      rw [e, List.getElem?_set_self hlt] at hy
      injection hy with hy
      rw [← hy, List.getD_eq_getElem?_getD, List.getElem?_eq_getElem hlt]
      exact over_len (hk q' _ (List.getElem?_eq_getElem hlt)) (hw w List.mem_cons_self)
    · rw [List.getElem?_set_ne e] at hy
      exact hk q' y hy
/-- The last byte of a row. -/
def lastB (r : List UInt8) : Nat := (r.getD 63 0).toNat
theorem over_last {x b : List UInt8} {c : Nat} (hx : x.length = 64) (hb : b.length = 64) (hc : c ≤ 64) : over x b c = b ∨ lastB (over x b c) = lastB x := by
  by_cases h : c = 64
  · left
    subst h
    unfold over
    rw [List.take_of_length_le (by omega), List.drop_of_length_le (by omega), List.append_nil]
  · right
    unfold lastB over
    rw [List.getD_eq_getElem?_getD, List.getElem?_append_right (by rw [List.length_take]; omega), List.length_take, List.getElem?_drop, List.getD_eq_getElem?_getD, show c + (63 - min c b.length) = 63 by omega]
theorem be_last {k n : Nat} (h : n < 256) : ((be (k + 1) n).getD k 0).toNat = n := by
  have e : be (k + 1) n = be k (n / 256) ++ [UInt8.ofNat (n % 256)] := by simp only [be, le, List.reverse_cons]
  rw [e, List.getD_eq_getElem?_getD, List.getElem?_append_right (by rw [be_length]; omega), be_length, Nat.sub_self]
  show (UInt8.ofNat (n % 256)).toNat = n
  simp
  omega
theorem last_valid {st : Nat} {r : List UInt8} (h : Valid st r) (hr : r.length = 64) (hs : st < 256) : lastB r = st := by
  have h1 := valid_end h
  unfold lastB
  rw [List.getD_eq_getElem?_getD, show (63 : Nat) = 56 + 7 from rfl, ← List.getElem?_drop, h1, ← List.getD_eq_getElem?_getD]
  exact be_last hs
theorem last_rowE {e : S_wal_entry} {st : Nat} (h : OkE e) (hs : st < 256) : lastB (rowE e st) = st := last_valid (valid_entry h.2.2.2.2) (rowE_len h) hs
/-! ### Homes written anew -/
theorem put1_agree : ∀ (ws : List S_api_Write) (t u : List (List UInt8)), t.length = u.length → (∀ r : Nat, (∀ w ∈ ws, w.Home.toNat ≠ r) → t[r]? = u[r]?) → put1 t ws = put1 u ws
  | [], t, u, _, h => List.ext_getElem? fun r => h r fun w hw => absurd hw List.not_mem_nil
  | w :: rest, t, u, hl, h => by
    show put1 (t.set _ _) rest = put1 (u.set _ _) rest
    refine put1_agree rest _ _ (by rw [List.length_set, List.length_set, hl]) fun r hr => ?_
    by_cases e : w.Home.toNat = r
    · subst e
      by_cases hlt : w.Home.toNat < t.length
      · rw [List.getElem?_set_self hlt, List.getElem?_set_self (by omega)]
      · rw [List.getElem?_eq_none (by rw [List.length_set]; omega), List.getElem?_eq_none (by rw [List.length_set]; omega)]
    · rw [List.getElem?_set_ne e, List.getElem?_set_ne e]
      exact h r fun w' hw' => by
        rcases List.mem_cons.1 hw' with rfl | hw'
        · exact e
        · exact hr w' hw'
theorem put1_app (t : List (List UInt8)) (a b : List S_api_Write) : put1 t (a ++ b) = put1 (put1 t a) b := by simp [put1, List.foldl_append]
theorem put1_out : ∀ (ws : List S_api_Write) (t : List (List UInt8)) (r : Nat), (∀ w ∈ ws, w.Home.toNat ≠ r) → (put1 t ws)[r]? = t[r]?
  | [], t, r, _ => rfl
  | w :: rest, t, r, h => by
    show (put1 (t.set _ _) rest)[r]? = _
    rw [put1_out rest _ r (fun w' hw' => h w' (List.mem_cons_of_mem _ hw')), List.getElem?_set_ne (h w List.mem_cons_self)]
theorem put1_twice (ws : List S_api_Write) (t : List (List UInt8)) : put1 (put1 t ws) ws = put1 t ws := put1_agree ws _ _ (put1_len ws t) fun r hr => put1_out ws t r hr

/-! ### What stands in the log of an image -/
/-- Place p of the log of X holds the entry e, with base b. -/
def Holds (X : List (List UInt8)) (b q : Nat) (w : List S_api_Write) (T : Nat) : Prop := ∀ y e, y < T → (entsA w)[y]? = some e → X[2 + (q + y)]? = some (rowE e (b + (q + y)))
/-- From place q on the transactions L stand in X, and no further one whole. -/
def Ch (s n : Nat) (X : List (List UInt8)) (b : Nat) : Nat → List (List S_api_Write) → Prop
  | q, [] => ∃ w z, Good s n w ∧ 0 < w.length ∧ w.length ≤ 10000 ∧ z ≤ 2 * w.length ∧ Holds X b q w z ∧ q + z ≤ s ∧ (q + z = s ∨ ∃ r, X[2 + (q + z)]? = some r ∧ ¬ Valid (b + (q + z)) r)
  | q, w :: r => Good s n w ∧ 0 < w.length ∧ w.length ≤ 10000 ∧ Holds X b q w (2 * w.length + 1) ∧ q + (2 * w.length + 1) ≤ s ∧ Ch s n X b (q + (2 * w.length + 1)) r
section
variable {H : Hp} {i j : Nat} {d : Dsk} {s base slot used : Nat} {com : Int}
theorem at_bad (h : LIn H i j d s base slot used com) {p : Nat} (hp : p ≤ s) (hb : p = s ∨ ∃ r, d.now[2 + p]? = some r ∧ ¬ Valid (base + p) r) : ∃ e, m_wal_Log_at (some j) (p : Int) H = some e ∧ e.ok_ = false := by
  rcases hb with rfl | ⟨r, hr, hv⟩
  · exact ⟨_, n_at_end h (Nat.le_refl _), rfl⟩
  · by_cases hlt : p < s
    · exact ⟨_, n_at h hlt hr, atE_bad hv (h.dsk.row hr)⟩
    · exact ⟨_, n_at_end h (by omega), rfl⟩
theorem holds_stand (h : LIn H i j d s base slot used com) {q T : Nat} {ws : List S_api_Write} (hg : Good s d.now.length ws) (hl : ws.length ≤ 10000) (hH : Holds d.now base q ws T) (hT : T ≤ 2 * ws.length + 1) (hq : q + T ≤ s) (ht : T ≤ 2 * ws.length → ∃ e, m_wal_Log_at (some j) ((q + T : Nat) : Int) H = some e ∧ e.ok_ = false) : StandQ H j q ws T := by
  have hln := h.ln
  have ea : ∀ k (hk : k < ws.length), (entsA ws)[2 * k]? = some ⟨1, ws[k].Home, ws[k].Data.take 32, false⟩ ∧ (entsA ws)[2 * k + 1]? = some ⟨2, ws[k].Home, ws[k].Data.drop 32, false⟩ := fun k hk => by
    have := ents_at ws k hk
    have hl := ents_len ws
    unfold entsA
    rw [List.getElem?_append_left (by omega), List.getElem?_append_left (by omega)]
    exact this
  have ee : (entsA ws)[2 * ws.length]? = some ⟨3, ws.length, [], false⟩ := by
    unfold entsA
    rw [List.getElem?_append_right (by rw [ents_len]; omega), ents_len, Nat.sub_self]
    rfl
  refine ⟨fun k hk hkT => ?_, fun k hk hkT => ?_, fun hkT => ?_, ht⟩
  · obtain ⟨w1, w2, w3⟩ := hg _ (List.getElem_mem hk)
    rw [n_at h (p := q + 2 * k) (by omega) (hH (2 * k) _ hkT (ea k hk).1)]
    show some (atE (base + (q + 2 * k)) (entryB 1 ws[k].Home.toNat (ws[k].Data.take 32) (base + (q + 2 * k)))) = _
    rw [atE_entry (by omega) (by omega) (by rw [List.length_take]; omega), Int.toNat_of_nonneg w1]
    rfl
  · obtain ⟨w1, w2, w3⟩ := hg _ (List.getElem_mem hk)
    rw [show q + 2 * k + 1 = q + (2 * k + 1) by omega, n_at h (p := q + (2 * k + 1)) (by omega) (hH (2 * k + 1) _ hkT (ea k hk).2)]
    show some (atE (base + (q + (2 * k + 1))) (entryB 2 ws[k].Home.toNat (ws[k].Data.drop 32) (base + (q + (2 * k + 1))))) = _
    rw [atE_entry (by omega) (by omega) (by rw [List.length_drop]; omega), Int.toNat_of_nonneg w1]
    rfl
  · rw [n_at h (p := q + 2 * ws.length) (by omega) (hH (2 * ws.length) _ hkT ee)]
    show some (atE (base + (q + 2 * ws.length)) (entryB 3 ws.length [] (base + (q + 2 * ws.length)))) = _
    rw [entryB_end, atE_entry (by omega) (by omega) (by simp)]
    rfl
theorem ch_chain (h : LIn H i j d s base slot used com) : ∀ (L : List (List S_api_Write)) (q : Nat), Ch s d.now.length d.now base q L → Chain H j q L
  | [], q, hc => by
    obtain ⟨w, z, hg, h1, hl, hz, hH, hq, hb⟩ := hc
    have := h.ln
    have := h.sl
    exact one_cut h hg h1 hl (by omega) (holds_stand h hg hl hH (by omega) hq fun _ => at_bad h hq hb) hz
  | w :: r, q, hc => by
    obtain ⟨hg, h1, hl, hH, hq, hr⟩ := hc
    have := h.ln
    have := h.sl
    exact ⟨one_ok h hg h1 hl (by omega) (holds_stand h hg hl hH (Nat.le_refl _) hq fun hT => by omega), ch_chain h r _ hr⟩
theorem ch_places : ∀ (L : List (List S_api_Write)) (q n b : Nat) (X : List (List UInt8)), Ch s n X b q L → q + places L ≤ s
  | [], q, n, b, X, hc => by
    obtain ⟨w, z, hg, h1, hl, hz, hH, hq, hb⟩ := hc
    show q + 0 ≤ s
    omega
  | w :: r, q, n, b, X, hc => by
    obtain ⟨hg, h1, hl, hH, hq, hr⟩ := hc
    have := ch_places r _ n b X hr
    show q + (2 * w.length + 1 + places r) ≤ s
    omega
theorem ch_good : ∀ (L : List (List S_api_Write)) (q n b : Nat) (X : List (List UInt8)), Ch s n X b q L → Good s n L.flatten
  | [], q, n, b, X, hc => fun w hw => absurd hw List.not_mem_nil
  | w :: r, q, n, b, X, hc => fun x hx => by
    obtain ⟨hg, h1, hl, hH, hq, hr⟩ := hc
    rcases List.mem_append.1 (show x ∈ w ++ r.flatten from hx) with hx | hx
    · exact hg x hx
    · exact ch_good r _ n b X hr x hx
theorem ch_says (h : LIn H i j d s base slot used com) {L : List (List S_api_Write)} (hc : Ch s d.now.length d.now base 0 L) : m_wal_Log_says (some j) H = some L.flatten := by
  have := h.ln
  have := h.sl
  have hp := ch_places L 0 _ _ _ hc
  exact n_saysQ (ch_chain h L 0 hc) (by omega)
end
end Go.Proofs.Ytjomnccladjpgaa
