/-
  Texts joined: see the remark at the head of each part.
-/
import Derived.Test.YtjomnccladjpgaaQ20
import Derived.Test.YtjomnccladjpgaaQ18
import Derived.Test.YtjomnccladjpgaaQ19
import Derived.Test.YtjomnccladjpgaaQ06
import Derived.ProofKit
import Derived.Lib.SmallJoins
set_option linter.unusedVariables false
set_option linter.unusedSimpArgs false
/-
  Plain: what a log does: redo, commit, checkpoint, format, open.
-/
namespace Go.Proofs.Ytjomnccladjpgaa
open Go Go.RowKit
set_option linter.unusedVariables false
set_option linter.unusedSimpArgs false

section
variable {H : Hp} {i j : Nat} {d : Dsk} {s base slot used : Nat} {com : Int}
theorem WIn.wr (h : WIn H i j d s base slot used com) {k : Nat} (hk : k < d.now.length) {x : List UInt8} (hx : x.length = 64) (hw : d.wait.length < 1000000) :
    ∃ H', m_disk_Disk_Write (some i) (k : Int) x H = some (0, H') ∧ WIn H' i j { d with now := d.now.set k x, wait := d.wait ++ [⟨k, x⟩] } s base slot used com := by
  obtain ⟨H', e1, e2, e3⟩ := n_Write h.dsk h.off h.fuse hk hx hw
  refine ⟨H', e1, e2, h.off, h.fuse, by rw [e3]; exact h.lg, h.s3, ?_, ?_, h.bs⟩
  · show _ < (d.now.set k x).length
    rw [List.length_set]; exact h.sl
  · show (d.now.set k x).length ≤ _
    rw [List.length_set]; exact h.ln
theorem WIn.fl (h : WIn H i j d s base slot used com) (hw : d.wait.length < 1000000) :
    ∃ H', m_disk_Disk_Flush (some i) H = some (0, H') ∧ WIn H' i j { d with kept := d.now, wait := [] } s base slot used com := by
  have := h.sl
  obtain ⟨H', e1, e2, e3⟩ := n_Flush h.dsk h.off h.fuse (by omega) hw
  exact ⟨H', e1, e2, h.off, h.fuse, by rw [e3]; exact h.lg, h.s3, h.sl, h.ln, h.bs⟩
theorem WIn.jl (h : WIn H i j d s base slot used com) : j < H.lg.length := (List.getElem?_eq_some_iff.1 h.lg).1

/-! ### redo -/
def rd (s : Nat) (now : List (List UInt8)) (ws : List S_api_Write) : List (List UInt8) := ws.foldl (fun t w => t.set (2 + s + w.Home.toNat) w.Data) now
theorem rd_len (s : Nat) (ws : List S_api_Write) : ∀ t, (rd s t ws).length = t.length := by
  induction ws with
  | nil => intro t; rfl
  | cons w r ih => intro t; show (rd s (t.set _ _) r).length = _; rw [ih, List.length_set]
theorem n_redo_l1 {ws : List S_api_Write} (hwl : ws.length ≤ 100000) : ∀ (n z : Nat) (H : Hp) (d : Dsk), WIn H i j d s base slot used com → Good s d.now.length ws → d.wait.length + (ws.length - z) ≤ 200000 → z ≤ ws.length → ws.length - z < n →
    ∃ H' d', m_wal_Log_redo_l1 ws (some j) n (z : Int) H = some (0, H') ∧ WIn H' i j d' s base slot used com ∧ d'.now = rd s d.now (ws.drop z) ∧ d'.kept = d.kept ∧ d'.wait.length ≤ d.wait.length + (ws.length - z) ∧ d'.lives = d.lives
  | 0, z, _, _, _, _, _, _, h => by omega
  | n + 1, z, H, d, h, hg, hw, hz, hn => by
    have := h.ln
    have := h.sl
    unfold m_wal_Log_redo_l1
    by_cases hlt : z < ws.length
    · obtain ⟨w1, w2, w3⟩ := hg _ (List.getElem_mem hlt)
      have hH : ws[z].Home = (ws[z].Home.toNat : Int) := (Int.toNat_of_nonneg w1).symm
      have hb : 2 + s + ws[z].Home.toNat < d.now.length := by omega
      rw [bif_pos (dec_t (by omega)), idx_nat hlt, Option.bind_some]
      show ∃ H' d', Option.bind (H.lg[j]?) _ = _ ∧ _
      rw [h.lg, Option.bind_some]
      have e1 : m_wal_Log_home (some j) ws[z].Home H = some ((2 + s + ws[z].Home.toNat : Nat) : Int) := by
        have := n_home h ws[z].Home.toNat (by omega)
        rwa [← hH] at this
      rw [e1, Option.bind_some]
      obtain ⟨H1, g1, g2⟩ := h.wr hb w3 (by omega)
      show ∃ H' d', Option.bind (m_disk_Disk_Write (some i) ((2 + s + ws[z].Home.toNat : Nat) : Int) ws[z].Data H) _ = _ ∧ _
      rw [g1, Option.bind_some, bif_neg (by rfl), wi_succ (by omega)]
      obtain ⟨H', d', k1, k2, k3, k4, k5, k6⟩ := n_redo_l1 hwl n (z + 1) H1 _ g2 (by show Good s (d.now.set _ _).length ws; rw [List.length_set]; exact hg) (by show (d.wait ++ [_]).length + _ ≤ _; simp; omega) (by omega) (by omega)
      refine ⟨H', d', k1, k2, ?_, k4, ?_, k6⟩
      · rw [k3, List.drop_eq_getElem_cons hlt]
        rfl
      · have k5' : d'.wait.length ≤ (d.wait ++ [_]).length + (ws.length - (z + 1)) := k5
        simp at k5'
        omega
    · have e : z = ws.length := by omega
      subst e
      rw [bif_neg (dec_f (by omega))]
      exact ⟨H, d, rfl, h, by rw [List.drop_length]; rfl, rfl, by omega, rfl⟩
theorem n_redo {ws : List S_api_Write} (h : WIn H i j d s base slot used com) (hwl : ws.length ≤ 100000) (hg : Good s d.now.length ws) (hw : d.wait.length ≤ 100000) :
    ∃ H' d', m_wal_Log_redo (some j) ws H = some (0, H') ∧ WIn H' i j d' s base slot used com ∧ d'.now = rd s d.now ws ∧ d'.kept = d.kept ∧ d'.wait.length ≤ d.wait.length + ws.length ∧ d'.lives = d.lives :=
  n_redo_l1 hwl (ws.length + 1) 0 H d h hg (by omega) (by omega) (by omega)

/-! ### raise, Checkpoint -/
theorem n_raise (h : WIn H i j d s base slot used com) (hs : slot ≤ 1) (hb : base + s + s ≤ 2305843009213693952) (hw : d.wait.length < 999999) :
    ∃ H' d', m_wal_Log_raise (some j) H = some (0, H') ∧ WIn H' i j d' s (base + s) (1 - slot) 0 com ∧ d'.now = d.now.set (1 - slot) (slotB (base + s) s) ∧ d'.kept = d'.now ∧ d'.wait = [] ∧ d'.lives = d.lives := by
  have := h.sl
  have := h.ln
  unfold m_wal_Log_raise
  show ∃ H' d', Option.bind (H.lg[j]?) _ = _ ∧ _
  rw [h.lg, Option.bind_some]
  show ∃ H' d', Option.bind (m_wal_slotBytes (wi ((base : Int) + (s : Int))) (s : Int)) _ = _ ∧ _
  rw [wi_id (z := (base : Int) + (s : Int)) (by omega) (by omega), show (base : Int) + (s : Int) = ((base + s : Nat) : Int) by omega, n_slotBytes (by omega) (by omega), Option.bind_some]
  obtain ⟨H1, g1, g2⟩ := h.wr (k := 1 - slot) (by omega) (slotB_len (base + s) s) (by omega)
  show ∃ H' d', Option.bind (m_disk_Disk_Write (some i) (wi (1 - (slot : Int))) (slotB (base + s) s) H) _ = _ ∧ _
  rw [wi_id (z := 1 - (slot : Int)) (by omega) (by omega), show 1 - (slot : Int) = ((1 - slot : Nat) : Int) by omega, g1, Option.bind_some, bif_neg (by rfl)]
  show ∃ H' d', Option.bind (H1.lg[j]?) _ = _ ∧ _
  rw [g2.lg, Option.bind_some]
  obtain ⟨H2, k1, k2⟩ := g2.fl (by show (d.wait ++ [_]).length < _; simp; omega)
  show ∃ H' d', Option.bind (m_disk_Disk_Flush (some i) H1) _ = _ ∧ _
  rw [k1, Option.bind_some, bif_neg (by rfl)]
  show ∃ H' d', Option.bind (H2.lg[j]?) _ = _ ∧ _
  rw [k2.lg, Option.bind_some]
  refine ⟨_, _, rfl, ⟨k2.dsk.lg rfl rfl, k2.off, k2.fuse, ?_, h.s3, k2.sl, k2.ln, by omega⟩, rfl, rfl, rfl, rfl⟩
  have hj := k2.jl
  show (((H2.lg.set j _).set j _).set j _)[j]? = _
  rw [List.getElem?_set_self (by simp; omega)]
  show some (S_wal_Log.mk _ _ (wi ((base : Int) + (s : Int))) _ _ _ _) = _
  rw [wi_id (z := (base : Int) + (s : Int)) (by omega) (by omega), show (base : Int) + (s : Int) = ((base + s : Nat) : Int) by omega]
  rfl
theorem n_Checkpoint (h : WIn H i j d s base slot used com) (hs : slot ≤ 1) (hb : base + s + s ≤ 2305843009213693952) (hw : d.wait.length < 999999) :
    ∃ H' d', m_wal_Log_Checkpoint (some j) H = some (0, H') ∧ WIn H' i j d' s (base + s) (1 - slot) 0 com ∧ d'.now = d.now.set (1 - slot) (slotB (base + s) s) ∧ d'.kept = d'.now ∧ d'.wait = [] ∧ d'.lives = d.lives := by
  have := h.sl
  have := h.ln
  unfold m_wal_Log_Checkpoint
  rw [n_alive h, Option.bind_some, bif_neg (by rfl)]
  show ∃ H' d', Option.bind (H.lg[j]?) _ = _ ∧ _
  rw [h.lg, Option.bind_some]
  show ∃ H' d', (bif decide ((base : Int) > wi (2305843009213693952 - (s : Int))) then _ else _) = _ ∧ _
  rw [wi_id (z := 2305843009213693952 - (s : Int)) (by omega) (by omega), bif_neg (dec_f (by omega))]
  obtain ⟨H1, g1, g2⟩ := h.fl (by omega)
  show ∃ H' d', Option.bind (m_disk_Disk_Flush (some i) H) _ = _ ∧ _
  rw [g1, Option.bind_some, bif_neg (by rfl)]
  obtain ⟨H', d', k1, k2, k3, k4, k5, k6⟩ := n_raise g2 hs hb (by show ([] : List S_disk_write).length < _; simp)
  show ∃ H' d', Option.bind (m_wal_Log_raise (some j) H1) _ = _ ∧ _
  rw [k1, Option.bind_some]
  exact ⟨H', d', rfl, k2, k3, k4, k5, k6⟩

/-! ### Commit -/
theorem n_Commit_chk (h : WIn H i j d s base slot used com) (ws : List S_api_Write) (hl : ws.length ≤ 10000) : (Good s d.now.length ws → m_wal_Log_Commit (some j) ws H = m_wal_Log_Commit_j1 (some j) H ws) ∧ (¬ Good s d.now.length ws → m_wal_Log_Commit (some j) ws H = some (2, H)) := by
  have key := loop_then (len := ws.length) (m_wal_Log_Commit_l5 ws H (some j)) (fun k => ∀ hk : k < ws.length, 0 ≤ ws[k].Home ∧ ws[k].Home < ((d.now.length - 2 - s : Nat) : Int) ∧ ws[k].Data.length = 64) (m_wal_Log_Commit_j1 (some j) H ws) (some (2, H)) (fun n k hk => by
    have hu : m_wal_Log_Commit_l5 ws H (some j) (n + 1) (k : Int) = (bif decide (ws[k].Home < 0) then some (2, H) else bif decide (ws[k].Home ≥ ((d.now.length - 2 - s : Nat) : Int)) then some (2, H) else bif ((ws[k].Data.length : Int) != 64) then some (2, H) else m_wal_Log_Commit_l5 ws H (some j) n ((k + 1 : Nat) : Int)) := by
      rw [m_wal_Log_Commit_l5, bif_pos (dec_t (by omega)), idx_nat hk, Option.bind_some, n_Homes h, Option.bind_some, wi_succ (by omega)]
    rw [hu]
    refine ⟨fun hp => ?_, fun hp => ?_⟩
    · obtain ⟨h1, h2, h3⟩ := hp hk
      rw [bif_neg (dec_f (by omega)), bif_neg (dec_f (by omega)), bif_neg (ine_f (by omega))]
    · by_cases h1 : ws[k].Home < 0
      · rw [bif_pos (dec_t h1)]
      · rw [bif_neg (dec_f h1)]
        by_cases h2 : ws[k].Home < ((d.now.length - 2 - s : Nat) : Int)
        · rw [bif_neg (dec_f (by omega)), bif_pos (ine_t fun e => hp fun _ => ⟨by omega, h2, by omega⟩)]
        · rw [bif_pos (dec_t (by omega))]) (fun n => by rw [m_wal_Log_Commit_l5, bif_neg (dec_f (by omega))]) (ws.length + 1) 0 (by omega) (by omega)
  have e : m_wal_Log_Commit (some j) ws H = m_wal_Log_Commit_l5 ws H (some j) (ws.length + 1) ((0 : Nat) : Int) := by
    unfold m_wal_Log_Commit
    rw [n_alive h, Option.bind_some, bif_neg (by rfl)]
    rfl
  rw [e]
  refine ⟨fun hg => key.1 fun k _ hk _ => hg _ (List.getElem_mem hk), fun hg => key.2 fun hc => hg fun w hw => ?_⟩
  obtain ⟨k, hk, rfl⟩ := List.getElem_of_mem hw
  exact hc k (by omega) hk hk

def ents : List S_api_Write → List S_wal_entry
  | [] => []
  | w :: r => ⟨1, w.Home, w.Data.take 32, false⟩ :: ⟨2, w.Home, w.Data.drop 32, false⟩ :: ents r
def entsA (ws : List S_api_Write) : List S_wal_entry := ents ws ++ [⟨3, ws.length, [], false⟩]
theorem ents_app : ∀ a b : List S_api_Write, ents (a ++ b) = ents a ++ ents b
  | [], b => rfl
  | w :: r, b => by simp [ents, ents_app r b]
theorem ents_len : ∀ a : List S_api_Write, (ents a).length = 2 * a.length
  | [] => rfl
  | w :: r => by simp [ents, ents_len r]; omega
theorem entsA_len (a : List S_api_Write) : (entsA a).length = 2 * a.length + 1 := by simp [entsA, ents_len]
theorem ents_at (ws : List S_api_Write) : ∀ k (hk : k < ws.length), (ents ws)[2 * k]? = some ⟨1, ws[k].Home, ws[k].Data.take 32, false⟩ ∧ (ents ws)[2 * k + 1]? = some ⟨2, ws[k].Home, ws[k].Data.drop 32, false⟩ := by
  induction ws with
  | nil => intro k hk; cases hk
  | cons w r ih =>
    intro k hk
    cases k with
    | zero => exact ⟨rfl, rfl⟩
    | succ k =>
      have := ih k (by simp at hk; omega)
      exact ⟨this.1, this.2⟩
theorem n_entries (ws : List S_api_Write) (hl : ws.length ≤ 10000) (hg : ∀ w ∈ ws, w.Data.length = 64) : m_wal_entries ws = some (entsA ws) := by
  have key : ∀ (n k : Nat), k ≤ ws.length → ws.length - k < n → m_wal_entries_l2 ws n (ents (ws.take k)) (k : Int) = some (entsA ws) := by
    intro n
    induction n with
    | zero => intro k _ h; omega
    | succ n ih =>
      intro k hk h
      unfold m_wal_entries_l2
      by_cases hlt : k < ws.length
      · have h64 := hg _ (List.getElem_mem hlt)
        have e1 : cutI ws[k].Data 0 32 = some (ws[k].Data.take 32) := cutI_take (n := 32) (by omega)
        have e2 : cutI ws[k].Data 32 (ws[k].Data.length : Int) = some (ws[k].Data.drop 32) := cutI_drop (n := 32) (by omega)
        have hen : (ents (ws.take k)).length ≤ 20000 := by rw [ents_len, List.length_take]; omega
        rw [bif_pos (dec_t (by omega)), idx_nat hlt, Option.bind_some, e1, Option.bind_some, e2, Option.bind_some, appI_ok (by simp; omega), Option.bind_some, wi_succ (by omega)]
        have e : ents (ws.take k) ++ [⟨1, ws[k].Home, ws[k].Data.take 32, false⟩, ⟨2, ws[k].Home, ws[k].Data.drop 32, false⟩] = ents (ws.take (k + 1)) := by
          rw [← List.take_append_getElem hlt, ents_app]
          rfl
        rw [e]
        exact ih (k + 1) (by omega) (by omega)
      · have e : k = ws.length := by omega
        subst e
        rw [bif_neg (dec_f (by omega)), List.take_of_length_le (Nat.le_refl _)]
        unfold m_wal_entries_j1
        rw [appI_ok (by rw [ents_len]; simp; omega)]
        rfl
  exact key (ws.length + 1) 0 (by omega) (by omega)

def rowE (e : S_wal_entry) (st : Nat) : List UInt8 := entryB e.kind_.toNat e.number_.toNat e.data_ st
def OkE (e : S_wal_entry) : Prop := 0 ≤ e.kind_ ∧ e.kind_ < 256 ∧ 0 ≤ e.number_ ∧ e.number_ < 4294967296 ∧ e.data_.length ≤ 32
theorem rowE_len {e : S_wal_entry} {st : Nat} (h : OkE e) : (rowE e st).length = 64 := entryB_len h.2.2.2.2
theorem n_rowE {e : S_wal_entry} {st : Nat} (h : OkE e) (hs : st ≤ 4611686018427387904) : m_wal_entry_bytes e (st : Int) = some (rowE e st) := by
  obtain ⟨k, n, dd, ok⟩ := e
  obtain ⟨h1, h2, h3, h4, h5⟩ := h
  have := n_bytes (k := k.toNat) (n := n.toNat) (st := st) (d := dd) (ok := ok) (by simp only at h1 h2; omega) (by simp only at h3 h4; omega) h5 hs
  rw [Int.toNat_of_nonneg h1, Int.toNat_of_nonneg h3] at this
  exact this
theorem ok_ents {s n : Nat} (ws : List S_api_Write) (hg : Good s n ws) (hn : n ≤ 16384) : ∀ e ∈ ents ws, OkE e := by
  induction ws with
  | nil => intro e he; cases he
  | cons w r ih =>
    obtain ⟨w1, w2, w3⟩ := hg w List.mem_cons_self
    intro e he
    rcases List.mem_cons.1 he with rfl | he
    · exact ⟨by show (0 : Int) ≤ 1; omega, by show (1 : Int) < 256; omega, w1, by show w.Home < _; omega, by show (w.Data.take 32).length ≤ 32; rw [List.length_take]; omega⟩
    · rcases List.mem_cons.1 he with rfl | he
      · exact ⟨by show (0 : Int) ≤ 2; omega, by show (2 : Int) < 256; omega, w1, by show w.Home < _; omega, by show (w.Data.drop 32).length ≤ 32; rw [List.length_drop]; omega⟩
      · exact ih (fun w hw => hg w (List.mem_cons_of_mem _ hw)) e he
theorem ok_entsA {s n : Nat} (ws : List S_api_Write) (hg : Good s n ws) (hn : n ≤ 16384) (hl : ws.length ≤ 10000) : ∀ e ∈ entsA ws, OkE e := by
  intro e he
  rcases List.mem_append.1 he with he | he
  · exact ok_ents ws hg hn e he
  · rw [List.mem_singleton.1 he]
    exact ⟨by show (0 : Int) ≤ 3; omega, by show (3 : Int) < 256; omega, by show (0 : Int) ≤ (ws.length : Int); omega, by show (ws.length : Int) < _; omega, by show ([] : List UInt8).length ≤ 32; simp⟩
/-- Entries written, one behind the other. -/
def wrs (o b : Nat) : List S_wal_entry → Nat → List (List UInt8) → List (List UInt8)
  | [], _, t => t
  | e :: r, p, t => wrs o b r (p + 1) (t.set (o + p) (rowE e (b + p)))
theorem wrs_len (o b : Nat) : ∀ (es : List S_wal_entry) (p : Nat) (t : List (List UInt8)), (wrs o b es p t).length = t.length
  | [], _, t => rfl
  | e :: r, p, t => by
    show (wrs o b r (p + 1) (t.set (o + p) _)).length = _
    rw [wrs_len o b r, List.length_set]
theorem wrs_out (o b q : Nat) : ∀ (es : List S_wal_entry) (p : Nat) (t : List (List UInt8)), (q < o + p ∨ o + p + es.length ≤ q) → (wrs o b es p t)[q]? = t[q]?
  | [], _, t, _ => rfl
  | e :: r, p, t, h => by
    show (wrs o b r (p + 1) (t.set (o + p) _))[q]? = _
    have h2 : q < o + p ∨ o + p + (r.length + 1) ≤ q := h
    rw [wrs_out o b q r (p + 1) _ (by omega), List.getElem?_set_ne (by omega)]
theorem wrs_at (o b : Nat) : ∀ (es : List S_wal_entry) (p : Nat) (t : List (List UInt8)) (k : Nat) (e : S_wal_entry), es[k]? = some e → o + p + es.length ≤ t.length → (wrs o b es p t)[o + p + k]? = some (rowE e (b + p + k))
  | [], _, t, k, e, h, _ => by simp at h
  | e0 :: r, p, t, 0, e, h, hl => by
    have h1 : e0 = e := by simpa using h
    subst h1
    have hl2 : o + p + (r.length + 1) ≤ t.length := hl
    show (wrs o b r (p + 1) (t.set (o + p) _))[o + p]? = _
    rw [wrs_out o b (o + p) r (p + 1) _ (by omega), List.getElem?_set_self (by omega)]
    rfl
  | e0 :: r, p, t, k + 1, e, h, hl => by
    have hl2 : o + p + (r.length + 1) ≤ t.length := hl
    have h2 : r[k]? = some e := by simpa using h
    have := wrs_at o b r (p + 1) (t.set (o + p) (rowE e0 (b + p))) k e h2 (by rw [List.length_set]; omega)
    show (wrs o b r (p + 1) (t.set (o + p) _))[o + p + (k + 1)]? = _
    rw [show o + p + (k + 1) = o + (p + 1) + k by omega, show b + p + (k + 1) = b + (p + 1) + k by omega]
    exact this
theorem n_Commit_l4 {es : List S_wal_entry} {ws : List S_api_Write} (hok : ∀ e ∈ es, OkE e) (hes : used + es.length ≤ s) : ∀ (n z : Nat) (H : Hp) (d : Dsk), WIn H i j d s base slot used com → d.wait.length + (es.length - z) ≤ 200000 → z ≤ es.length → es.length - z < n →
    ∃ H' d', m_wal_Log_Commit_l4 es (some j) ws n (z : Int) H = m_wal_Log_Commit_j3 (some j) ws H' ∧ WIn H' i j d' s base slot used com ∧ d'.now = wrs (2 + used) (base + used) (es.drop z) z d.now ∧ d'.wait.length ≤ d.wait.length + (es.length - z) ∧ d'.lives = d.lives
  | 0, z, _, _, _, _, _, h => by omega
  | n + 1, z, H, d, h, hw, hz, hn => by
    have := h.ln
    have := h.sl
    have := h.bs
    unfold m_wal_Log_Commit_l4
    by_cases hlt : z < es.length
    · have hoe := hok _ (List.getElem_mem hlt)
      rw [bif_pos (dec_t (by omega)), idx_nat hlt, Option.bind_some]
      show ∃ H' d', Option.bind (H.lg[j]?) _ = _ ∧ _
      rw [h.lg, Option.bind_some]
      show ∃ H' d', Option.bind (m_wal_entry_bytes es[z] (wi ((base : Int) + wi ((used : Int) + (z : Int))))) _ = _ ∧ _
      rw [wi_id (z := (used : Int) + (z : Int)) (by omega) (by omega), wi_id (z := (base : Int) + ((used : Int) + (z : Int))) (by omega) (by omega), show (base : Int) + ((used : Int) + (z : Int)) = ((base + used + z : Nat) : Int) by omega, n_rowE hoe (by omega), Option.bind_some, wi_id (z := 2 + ((used : Int) + (z : Int))) (by omega) (by omega), show 2 + ((used : Int) + (z : Int)) = ((2 + used + z : Nat) : Int) by omega]
      obtain ⟨H1, g1, g2⟩ := h.wr (k := 2 + used + z) (by omega) (rowE_len (st := base + used + z) hoe) (by omega)
      show ∃ H' d', Option.bind (m_disk_Disk_Write (some i) ((2 + used + z : Nat) : Int) (rowE es[z] (base + used + z)) H) _ = _ ∧ _
      rw [g1, Option.bind_some, bif_neg (by rfl), wi_succ (by omega)]
      obtain ⟨H', d', k1, k2, k3, k4, k5⟩ := n_Commit_l4 hok hes n (z + 1) H1 _ g2 (by show (d.wait ++ [_]).length + _ ≤ _; simp; omega) (by omega) (by omega)
      refine ⟨H', d', k1, k2, ?_, ?_, k5⟩
      · rw [k3, List.drop_eq_getElem_cons hlt]
        rfl
      · have k4' : d'.wait.length ≤ (d.wait ++ [_]).length + (es.length - (z + 1)) := k4
        simp at k4'
        omega
    · have e : z = es.length := by omega
      subst e
      rw [bif_neg (dec_f (by omega))]
      exact ⟨H, d, rfl, h, by rw [List.drop_length]; rfl, by omega, rfl⟩
theorem n_Commit (h : WIn H i j d s base slot used com) {ws : List S_api_Write} (hg : Good s d.now.length ws) (h1 : 0 < ws.length) (hu : used + (2 * ws.length + 1) ≤ s) (hw : d.wait.length ≤ 1000) :
    ∃ H' d' com', m_wal_Log_Commit (some j) ws H = some (0, H') ∧ WIn H' i j d' s base slot (used + (2 * ws.length + 1)) com' ∧ d'.kept = wrs (2 + used) (base + used) (entsA ws) 0 d.now ∧ d'.now = rd s d'.kept ws ∧ d'.wait.length ≤ ws.length ∧ d'.lives = d.lives := by
  have := h.ln
  have := h.sl
  have := h.bs
  have hl : ws.length ≤ 10000 := by omega
  rw [(n_Commit_chk h ws hl).1 hg]
  unfold m_wal_Log_Commit_j1
  show ∃ H' d' com', Option.bind (H.lg[j]?) _ = _ ∧ _
  rw [h.lg, Option.bind_some]
  show ∃ H' d' com', (bif decide (wi (wi (2 * (ws.length : Int)) + 1) > (s : Int)) then _ else _) = _ ∧ _
  have ew : wi (wi (2 * (ws.length : Int)) + 1) = ((2 * ws.length + 1 : Nat) : Int) := by
    rw [wi_id (z := 2 * (ws.length : Int)) (by omega) (by omega), wi_id (by omega) (by omega)]
    omega
  rw [ew, bif_neg (dec_f (by omega)), bif_neg (ieq_f (by omega))]
  have eL : m_wal_Log_Left (some j) H = some ((s - used : Nat) : Int) := by
    unfold m_wal_Log_Left
    show Option.bind (H.lg[j]?) _ = _
    rw [h.lg, Option.bind_some]
    show some (wi ((s : Int) - (used : Int))) = _
    rw [wi_id (by omega) (by omega)]
    congr 1
    omega
  rw [eL, Option.bind_some, bif_neg (dec_f (by omega))]
  unfold m_wal_Log_Commit_j2
  rw [n_entries ws hl (fun w hw => (hg w hw).2.2), Option.bind_some]
  obtain ⟨H1, d1, g1, g2, g3, g4, g5⟩ := n_Commit_l4 (ws := ws) (ok_entsA ws hg (by omega) hl) (by rw [entsA_len]; omega) ((entsA ws).length + 1) 0 H d h (by rw [entsA_len]; omega) (by omega) (by omega)
  rw [entsA_len] at g4
  rw [show ((0 : Nat) : Int) = 0 from rfl] at g1
  rw [g1]
  unfold m_wal_Log_Commit_j3
  show ∃ H' d' com', Option.bind (H1.lg[j]?) _ = _ ∧ _
  rw [g2.lg, Option.bind_some]
  obtain ⟨H2, k1, k2⟩ := g2.fl (by omega)
  show ∃ H' d' com', Option.bind (m_disk_Disk_Flush (some i) H1) _ = _ ∧ _
  rw [k1, Option.bind_some, bif_neg (by rfl)]
  show ∃ H' d' com', Option.bind (H2.lg[j]?) _ = _ ∧ _
  rw [k2.lg, Option.bind_some, ew]
  have hj := k2.jl
  have hW : ∃ com', WIn ((H2.st_lg j (S_wal_Log.mk (some i) (s : Int) (base : Int) (slot : Int) (wi ((used : Int) + ((2 * ws.length + 1 : Nat) : Int))) d1.lives com)).st_lg j (S_wal_Log.mk (some i) (s : Int) (base : Int) (slot : Int) (wi ((used : Int) + ((2 * ws.length + 1 : Nat) : Int))) d1.lives (wi (com + 1)))) i j { d1 with kept := d1.now, wait := [] } s base slot (used + (2 * ws.length + 1)) com' := by
    refine ⟨wi (com + 1), k2.dsk.lg rfl rfl, k2.off, k2.fuse, ?_, h.s3, k2.sl, k2.ln, h.bs⟩
    show ((H2.lg.set j _).set j _)[j]? = _
    rw [List.getElem?_set_self (by simp; omega), wi_id (z := (used : Int) + ((2 * ws.length + 1 : Nat) : Int)) (by omega) (by omega), show (used : Int) + ((2 * ws.length + 1 : Nat) : Int) = ((used + (2 * ws.length + 1) : Nat) : Int) by omega]
  obtain ⟨com', hW⟩ := hW
  have hlen : d1.now.length = d.now.length := by rw [g3, wrs_len]
  obtain ⟨H3, d3, m1, m2, m3, m4, m5, m6⟩ := n_redo (ws := ws) hW (by omega) (by show Good s d1.now.length ws; rw [hlen]; exact hg) (by show ([] : List S_disk_write).length ≤ _; simp)
  refine ⟨H3, d3, com', ?_, m2, ?_, ?_, ?_, by rw [m6, ← g5]⟩
  · show Option.bind (m_wal_Log_redo (some j) ws _) _ = _
    refine (congrArg (fun t => Option.bind t _) m1).trans ?_
    rfl
  · rw [m4]
    exact g3
  · rw [m3, m4]
  · simpa using m5

/-! ### Format -/
abbrev Z64 : List UInt8 := List.replicate 64 0
theorem n_Format_l2 {n s : Nat} (hn : n ≤ 16384) (hs : 2 + s < n) : ∀ (m z : Nat) (H : Hp) (d : Dsk), DIn H i d → d.off = false → d.fuse < 0 → d.now = List.replicate n Z64 → d.wait.length + (2 + s - z) ≤ 200000 → z ≤ 2 + s → 2 + s - z < m →
    ∃ H' d', m_wal_Format_l2 (s : Int) (some i) m (z : Int) H = m_wal_Format_j1 (some i) (s : Int) H' ∧ DIn H' i d' ∧ d'.off = false ∧ d'.fuse < 0 ∧ d'.now = List.replicate n Z64 ∧ d'.wait.length ≤ 200000 ∧ d'.lives = d.lives ∧ H'.lg = H.lg
  | 0, z, _, _, _, _, _, _, _, _, h => by omega
  | m + 1, z, H, d, h, ho, hf, hnow, hw, hz, hm => by
    unfold m_wal_Format_l2
    rw [wi_id (z := 2 + (s : Int)) (by omega) (by omega)]
    by_cases hlt : z < 2 + s
    · rw [bif_pos (dec_t (by omega))]
      obtain ⟨H1, g1, g2, g3⟩ := n_Write h ho hf (k := z) (x := Z64) (by rw [hnow, List.length_replicate]; omega) (by simp) (by omega)
      show ∃ H' d', Option.bind (m_disk_Disk_Write (some i) (z : Int) Z64 H) _ = _ ∧ _
      rw [g1, Option.bind_some, bif_neg (by rfl), wi_succ (by omega)]
      obtain ⟨H', d', k1, k2, k3, k4, k5, k6, k7, k8⟩ := n_Format_l2 hn hs m (z + 1) H1 _ g2 ho hf (by show d.now.set z Z64 = _; rw [hnow, List.set_replicate_self]) (by show (d.wait ++ [_]).length + _ ≤ _; simp; omega) (by omega) (by omega)
      exact ⟨H', d', k1, k2, k3, k4, k5, k6, k7, by rw [k8, g3]⟩
    · rw [bif_neg (dec_f (by omega))]
      exact ⟨H, d, rfl, h, ho, hf, hnow, by omega, rfl, rfl⟩
theorem n_room {n : Nat} (h : DIn H i d) (hl : d.now.length = n) (hn : n ≤ 16384) (hs : 3 ≤ s) (h2 : 2 + s < n) : m_wal_room (some i) (s : Int) H = some true := by
  unfold m_wal_room
  rw [bif_pos (dec_t (by omega)), n_Size h (by omega), Option.bind_some, wi_id (z := (d.now.length : Int) - 2) (by omega) (by omega), wi_id (by omega) (by omega), dec_t (by omega)]
theorem n_Format {n s : Nat} (h : DIn H i d) (ho : d.off = false) (hf : d.fuse < 0) (hnow : d.now = List.replicate n Z64) (hw : d.wait = []) (hn : n ≤ 16384) (hs : 3 ≤ s) (h2 : 2 + s < n) :
    ∃ H' d', m_wal_Format (some i) (s : Int) H = some (0, H') ∧ DIn H' i d' ∧ d'.off = false ∧ d'.fuse < 0 ∧ d'.now = (List.replicate n Z64).set 0 (slotB 1 s) ∧ d'.kept = d'.now ∧ d'.wait = [] ∧ d'.lives = d.lives ∧ H'.lg = H.lg := by
  have hl : d.now.length = n := by rw [hnow, List.length_replicate]
  unfold m_wal_Format
  rw [n_Size h (by omega), Option.bind_some, bif_neg (ieq_f (by omega)), n_room h hl hn hs h2, Option.bind_some, bif_neg (by rfl), wi_id (z := 2 + (s : Int)) (by omega) (by omega)]
  obtain ⟨H1, d1, g1, g2, g3, g4, g5, g6, g7, g8⟩ := n_Format_l2 (s := s) hn h2 ((2 + (s : Int)).toNat + 1) 1 H d h ho hf hnow (by rw [hw]; simp; omega) (by omega) (by omega)
  rw [show ((1 : Nat) : Int) = 1 from rfl] at g1
  rw [g1]
  unfold m_wal_Format_j1
  obtain ⟨H2, k1, k2, k3⟩ := n_Flush g2 g3 g4 (by rw [g5, List.length_replicate]; omega) (by omega)
  rw [k1, Option.bind_some, bif_neg (by rfl)]
  have eS := n_slotBytes (b := 1) (s := s) (by omega) (by omega)
  rw [show ((1 : Nat) : Int) = 1 from rfl] at eS
  rw [eS, Option.bind_some]
  obtain ⟨H3, m1, m2, m3⟩ := n_Write k2 g3 g4 (k := 0) (by show 0 < d1.now.length; rw [g5, List.length_replicate]; omega) (slotB_len 1 s) (by show ([] : List S_disk_write).length < _; simp)
  rw [show ((0 : Nat) : Int) = 0 from rfl] at m1
  show ∃ H' d', Option.bind (m_disk_Disk_Write (some i) 0 (slotB 1 s) H2) _ = _ ∧ _
  rw [m1, Option.bind_some, bif_neg (by rfl)]
  obtain ⟨H4, q1, q2, q3⟩ := n_Flush m2 g3 g4 (by show 0 < (d1.now.set 0 _).length; rw [List.length_set, g5, List.length_replicate]; omega) (by show ([] ++ [_] : List S_disk_write).length < _; simp)
  show ∃ H' d', Option.bind (m_disk_Disk_Flush (some i) H3) _ = _ ∧ _
  rw [q1]
  exact ⟨H4, _, rfl, q2, g3, g4, by show d1.now.set 0 _ = _; rw [g5], rfl, rfl, g7, by rw [q3, m3, k3, g8]⟩

/-! ### Open -/
theorem n_readSlot {n b s k : Nat} (h : DIn H i d) (ho : d.off = false) (hl : d.now.length = n) (hn : n ≤ 16384) (hs : 3 ≤ s) (h2 : 2 + s < n) (hb : 1 ≤ b) (hb2 : b ≤ 2305843009213693952) (hr : d.now[k]? = some (slotB b s)) : m_wal_readSlot (some i) (k : Int) H = some ((b : Int), (s : Int), true) := by
  unfold m_wal_readSlot
  rw [n_Read h ho hr, Option.bind_some, bif_neg (by rfl)]
  have hL := slotB_len b s
  have e1 : cutI (slotB b s) 0 8 = some (be 8 b) := by
    have := cutI_mid (l := slotB b s) (lo := 0) (n := 8) (by omega) 8 rfl
    rw [show ((0 : Nat) : Int) = 0 from rfl, List.drop_zero] at this
    rw [this]
    unfold slotB
    rw [List.take_left' (be_length 8 b)]
  have e2 : cutI (slotB b s) 56 ((slotB b s).length : Int) = some (be 8 b) := by
    have := cutI_drop (l := slotB b s) (n := 56) (by omega)
    rw [show ((56 : Nat) : Int) = 56 from rfl] at this
    rw [this]
    unfold slotB
    rw [show be 8 b ++ (be 4 s ++ (List.replicate 44 (0 : UInt8) ++ be 8 b)) = (be 8 b ++ (be 4 s ++ List.replicate 44 (0 : UInt8))) ++ be 8 b by simp only [List.append_assoc], List.drop_left' (by simp [be_length])]
  have e3 : cutI (slotB b s) 8 12 = some (be 4 s) := by
    have := cutI_mid (l := slotB b s) (lo := 8) (n := 4) (by omega) 12 rfl
    rw [show ((8 : Nat) : Int) = 8 from rfl] at this
    rw [this]
    unfold slotB
    rw [List.drop_left' (be_length 8 b), List.take_left' (be_length 4 s)]
  have e4 : cutI (slotB b s) 12 56 = some (List.replicate 44 0) := by
    have := cutI_mid (l := slotB b s) (lo := 12) (n := 44) (by omega) 56 rfl
    rw [show ((12 : Nat) : Int) = 12 from rfl] at this
    rw [this]
    unfold slotB
    rw [show be 8 b ++ (be 4 s ++ (List.replicate 44 (0 : UInt8) ++ be 8 b)) = (be 8 b ++ be 4 s) ++ (List.replicate 44 (0 : UInt8) ++ be 8 b) by simp only [List.append_assoc], List.drop_left' (by simp [be_length]), List.take_left' (by simp)]
  obtain ⟨gb, gb2⟩ := getN_be (n := b) (k := 8) (by omega) (by omega) (by omega) (by omega)
  obtain ⟨gs, gs2⟩ := getN_be (n := s) (k := 4) (by omega) (by omega) (by omega) (by omega)
  show Option.bind (cutI (slotB b s) 0 8) _ = _
  rw [e1, Option.bind_some, n_Get, Option.bind_some]
  show Option.bind (cutI (slotB b s) 56 ((slotB b s).length : Int)) _ = _
  rw [e2, Option.bind_some, n_Get, Option.bind_some]
  show Option.bind (cutI (slotB b s) 8 12) _ = _
  rw [e3, Option.bind_some, n_Get, Option.bind_some, gb, gb2, gs, gs2]
  rw [bif_neg (by rfl), bif_neg (by rfl), bif_neg (by rfl), bif_neg (ine_f rfl), bif_neg (dec_f (by show ¬ (b : Int) < 1; omega)), bif_neg (dec_f (by show ¬ (b : Int) > 2305843009213693952; omega))]
  show Option.bind (m_wal_room (some i) (s : Int) H) _ = _
  rw [n_room h hl hn hs h2, Option.bind_some, bif_neg (by rfl)]
  show Option.bind (cutI (slotB b s) 12 56) _ = _
  rw [e4, Option.bind_some, show m_wal_noughts (List.replicate 44 0) = some true by decide +kernel, Option.bind_some, bif_neg (by rfl)]
theorem n_readZero {k : Nat} (h : DIn H i d) (ho : d.off = false) (hr : d.now[k]? = some Z64) : m_wal_readSlot (some i) (k : Int) H = some (0, 0, false) := by
  unfold m_wal_readSlot
  rw [n_Read h ho hr, Option.bind_some, bif_neg (by rfl)]
  show Option.bind (cutI Z64 0 8) _ = _
  rw [show cutI Z64 0 8 = some (List.replicate 8 0) by decide +kernel, Option.bind_some, show m_word_Get (List.replicate 8 0) = some (0, 0) by decide +kernel, Option.bind_some]
  show Option.bind (cutI Z64 56 64) _ = _
  rw [show cutI Z64 56 64 = some (List.replicate 8 0) by decide +kernel, Option.bind_some, show m_word_Get (List.replicate 8 0) = some (0, 0) by decide +kernel, Option.bind_some]
  show Option.bind (cutI Z64 8 12) _ = _
  rw [show cutI Z64 8 12 = some (List.replicate 4 0) by decide +kernel, Option.bind_some, show m_word_Get (List.replicate 4 0) = some (0, 0) by decide +kernel, Option.bind_some]
  rfl
theorem n_Open_take {H0 K : Hp} {x : S_wal_Log} {b s n z : Nat} (hK : DIn K i d) (hx : K.lg[H0.lg.length]? = some x) (hz : z < 2) (hr : m_wal_readSlot (some i) (z : Int) K = some ((b : Int), (s : Int), true)) (hb : x.base_ < (b : Int)) :
    ∃ K', m_wal_Open_l5 i H0 (n + 1) (z : Int) K = m_wal_Open_l5 i H0 n ((z + 1 : Nat) : Int) K' ∧ K'.lg[H0.lg.length]? = some ⟨x.d_, s, b, z, x.used_, x.life_, x.commits_⟩ ∧ DIn K' i d := by
  have hl : H0.lg.length < K.lg.length := (List.getElem?_eq_some_iff.1 hx).1
  rw [m_wal_Open_l5, bif_pos (dec_t (by omega)), hr, Option.bind_some, bif_pos (by rfl)]
  show ∃ K', Option.bind (K.lg[H0.lg.length]?) _ = _ ∧ _
  rw [hx, Option.bind_some, dec_t (show (b : Int) > x.base_ from hb)]
  unfold m_wal_Open_j6
  rw [bif_pos (by rfl)]
  show ∃ K', Option.bind (K.lg[H0.lg.length]?) _ = _ ∧ _
  rw [hx, Option.bind_some, wi_succ (by omega)]
  refine ⟨_, rfl, ?_, hK.lg rfl rfl⟩
  show (((K.lg.set H0.lg.length _).set H0.lg.length _).set H0.lg.length _)[H0.lg.length]? = _
  rw [List.getElem?_set_self (by simp; omega)]
theorem n_Open_skip {H0 K : Hp} {u v : Int} {n z : Nat} (hz : z < 2) (hr : m_wal_readSlot (some i) (z : Int) K = some (u, v, false)) : m_wal_Open_l5 i H0 (n + 1) (z : Int) K = m_wal_Open_l5 i H0 n ((z + 1 : Nat) : Int) K := by
  rw [m_wal_Open_l5, bif_pos (dec_t (by omega)), hr, Option.bind_some, bif_neg (by rfl)]
  unfold m_wal_Open_j6
  rw [bif_neg (by rfl), wi_succ (by omega)]
theorem n_Open_l5 {n b s : Nat} (h : DIn H i d) (ho : d.off = false) (hf : d.fuse < 0) (hl : d.now.length = n) (hn : n ≤ 16384) (hs : 3 ≤ s) (h2 : 2 + s < n) (hb : 1 ≤ b) (hb2 : b + s ≤ 2305843009213693952) (h0 : d.now[0]? = some (slotB b s)) (c : Nat) (h1 : d.now[1]? = some Z64 ∧ c = 0 ∨ d.now[1]? = some (slotB c s) ∧ b < c ∧ c + s ≤ 2305843009213693952) :
    ∃ K, m_wal_Open (some i) H = m_wal_Open_j4 H K ∧ WIn K i H.lg.length d s (if c = 0 then b else c) (if c = 0 then 0 else 1) 0 0 := by
  unfold m_wal_Open
  rw [n_Size h (by omega), Option.bind_some, bif_neg (ieq_f (by omega)), n_Off h (by omega), Option.bind_some, ho, bif_neg (by rfl)]
  show ∃ K, Option.bind (m_disk_Disk_Lives (some i) H) _ = _ ∧ _
  rw [n_Lives h (by omega), Option.bind_some]
  have hK0 : DIn (H.nw_lg ⟨some i, 0, 0, 0, 0, d.lives, 0⟩) i d := h.lg rfl rfl
  obtain ⟨K1, g1, g2, g3⟩ := n_Open_take (H0 := H) (n := 2) (z := 0) hK0 (x := ⟨some i, 0, 0, 0, 0, d.lives, 0⟩) (by show (H.lg ++ [_])[H.lg.length]? = _; simp) (by omega) (n_readSlot hK0 ho hl hn hs h2 hb (by omega) h0) (by show (0 : Int) < (b : Int); omega)
  show ∃ K, m_wal_Open_l5 i H (2 + 1) ((0 : Nat) : Int) (H.nw_lg ⟨some i, 0, 0, 0, 0, d.lives, 0⟩) = _ ∧ _
  rw [g1]
  rcases h1 with ⟨h1, rfl⟩ | ⟨h1, h3, h4⟩
  · rw [n_Open_skip (z := 0 + 1) (by omega) (n_readZero g3 ho h1)]
    refine ⟨K1, ?_, g3, ho, hf, g2, hs, by omega, by omega, hb2⟩
    show m_wal_Open_l5 i H (0 + 1) 2 K1 = _
    rw [m_wal_Open_l5, bif_neg (by decide)]
  · obtain ⟨K2, k1, k2, k3⟩ := n_Open_take (H0 := H) (n := 1) (z := 0 + 1) g3 g2 (by omega) (n_readSlot g3 ho hl hn hs h2 (by omega) (by omega) h1) (by show (b : Int) < (c : Int); omega)
    rw [k1, if_neg (by omega), if_neg (by omega)]
    refine ⟨K2, ?_, k3, ho, hf, k2, hs, by omega, by omega, h4⟩
    show m_wal_Open_l5 i H (0 + 1) 2 K2 = _
    rw [m_wal_Open_l5, bif_neg (by decide)]
theorem n_Open_j4 {K : Hp} {L : List S_api_Write} (h : WIn K i H.lg.length d s base slot 0 com) (h1 : 1 ≤ base) (hs : slot ≤ 1) (hb : base + s + s ≤ 2305843009213693952) (hL : m_wal_Log_says (some H.lg.length) K = some L) (hg : Good s d.now.length L) (hl : L.length ≤ 100000) (hw : d.wait.length ≤ 1000) :
    ∃ H' d', m_wal_Open_j4 H K = some (some H.lg.length, 0, H') ∧ WIn H' i H.lg.length d' s (base + s) (1 - slot) 0 com ∧ d'.now = (rd s d.now L).set (1 - slot) (slotB (base + s) s) ∧ d'.kept = d'.now ∧ d'.wait = [] ∧ d'.lives = d.lives := by
  have := h.ln
  have := h.sl
  unfold m_wal_Open_j4
  show ∃ H' d', Option.bind (K.lg[H.lg.length]?) _ = _ ∧ _
  rw [h.lg, Option.bind_some]
  show ∃ H' d', (bif ((base : Int) == 0) then _ else bif decide ((base : Int) > wi (2305843009213693952 - (s : Int))) then _ else _) = _ ∧ _
  rw [bif_neg (ieq_f (by omega)), wi_id (z := 2305843009213693952 - (s : Int)) (by omega) (by omega), bif_neg (dec_f (by omega))]
  show ∃ H' d', Option.bind (m_wal_Log_says (some H.lg.length) K) _ = _ ∧ _
  rw [hL, Option.bind_some]
  obtain ⟨H1, d1, g1, g2, g3, g4, g5, g6⟩ := n_redo h hl hg (by omega)
  show ∃ H' d', Option.bind (m_wal_Log_redo (some H.lg.length) L K) _ = _ ∧ _
  rw [g1, Option.bind_some, bif_neg (by rfl)]
  obtain ⟨H2, d2, k1, k2, k3, k4, k5, k6⟩ := n_Checkpoint g2 hs hb (by omega)
  show ∃ H' d', Option.bind (m_wal_Log_Checkpoint (some H.lg.length) H1) _ = _ ∧ _
  rw [k1, Option.bind_some, bif_neg (by rfl)]
  exact ⟨H2, d2, rfl, k2, by rw [k3, g3], k4, k5, by rw [k6, g6]⟩
end
end Go.Proofs.Ytjomnccladjpgaa

/-
  Plain: WalTurned.
-/
namespace Go.Proofs.Ytjomnccladjpgaa
open Go Go.RowKit
set_option linter.unusedVariables false
set_option linter.unusedSimpArgs false

theorem awake18 : (m_L18_awake Hp.e).map (·.1) = some true := by kernel_rfl
theorem n_awake : ∃ w1, m_L18_awake Hp.e = some (true, w1) := by
  have := awake18
  cases h : m_L18_awake Hp.e with
  | none => rw [h] at this; cases this
  | some p =>
    rw [h] at this
    injection this with this
    obtain ⟨b, w1⟩ := p
    exact ⟨w1, by rw [show b = true from this]⟩
theorem n_Few (ws : List S_api_Write) : ∃ r, m_L18_FewWrites ws = some r ∧ (r = true → ws.length ≤ 10) := by
  unfold m_L18_FewWrites
  by_cases h : ws.length ≤ 10
  · rw [bif_neg (dec_f (by omega))]
    obtain ⟨r, h1, _⟩ := loop_tells (len := ws.length) (m_L18_FewWrites_l1 ws) (fun k => ∀ hk : k < ws.length, ws[k].Data.length ≤ 100) True (fun n k hk => by
      refine ⟨decide (ws[k].Data.length ≤ 100), by simp [hk], ?_⟩
      rw [m_L18_FewWrites_l1, bif_pos (dec_t (by omega)), idx_nat hk, Option.bind_some, wi_succ (by omega)]
      by_cases h1 : ws[k].Data.length ≤ 100
      · rw [bif_neg (dec_f (by omega)), dec_t h1]; rfl
      · rw [bif_pos (dec_t (by omega)), dec_f h1]; rfl) (fun n => by
      rw [m_L18_FewWrites_l1, bif_neg (dec_f (by omega))]
      exact ⟨true, rfl, by simp⟩) (ws.length + 1) 0 (by omega) (by omega)
    exact ⟨r, h1, fun _ => h⟩
  · rw [bif_pos (dec_t (by omega))]
    exact ⟨false, rfl, fun h => by cases h⟩
theorem n_Same (a b : List UInt8) (ha : a.length < 4611686018427387904) : m_R01_Same a b = some (decide (a = b)) :=
  n_pair a b ha (fun x y => some ((x.toNat : Int) == (y.toNat : Int))) (m_R01_Same_l1 a b) (fun n z => rfl) fun x _ y => ⟨_, rfl, by rw [beq_iff_eq, ← UInt8.toNat_inj]; omega⟩
theorem n_same (a b : List (List UInt8)) (ha : a.length < 4611686018427387904) (hl : ∀ x ∈ a, x.length < 4611686018427387904) : m_L18_same a b = some (decide (a = b)) :=
  n_pair a b ha m_R01_Same (m_L18_same_l1 a b) (fun n z => rfl) fun x hx y => ⟨_, n_Same x y (hl x hx), by simp⟩
section
variable {H : Hp} {i j : Nat} {d : Dsk} {s base slot used : Nat} {com : Int}
theorem n_homes (h : WIn H i j d s base slot used com) : m_L18_homes (some j) H = some (d.now.drop (2 + s), true) := by
  have := h.ln
  have := h.sl
  have hl : (d.now.drop (2 + s)).length = d.now.length - 2 - s := by rw [List.length_drop]; omega
  have key : ∀ (n k : Nat), k ≤ d.now.length - 2 - s → d.now.length - 2 - s - k < n → m_L18_homes_l2 ((d.now.length - 2 - s : Nat) : Int) (some j) H n ((d.now.drop (2 + s)).take k) (k : Int) = some (d.now.drop (2 + s), true) := by
    intro n
    induction n with
    | zero => intro k _ h; omega
    | succ n ih =>
      intro k hk hn
      unfold m_L18_homes_l2
      by_cases hlt : k < d.now.length - 2 - s
      · have hr : d.now[2 + s + k]? = some (d.now[2 + s + k]'(by omega)) := List.getElem?_eq_getElem (by omega)
        rw [bif_pos (dec_t (by omega)), n_LRead h hr, Option.bind_some, bif_neg (by rfl), appI_ok (by rw [List.length_take]; simp; omega), Option.bind_some, wi_succ (by omega)]
        have e : (d.now.drop (2 + s)).take k ++ [d.now[2 + s + k]'(by omega)] = (d.now.drop (2 + s)).take (k + 1) := by
          rw [← List.take_append_getElem (by omega : k < (d.now.drop (2 + s)).length), List.getElem_drop]
        rw [e]
        exact ih (k + 1) (by omega) (by omega)
      · rw [bif_neg (dec_f (by omega)), List.take_of_length_le (by omega)]
        rfl
  unfold m_L18_homes
  rw [n_Homes h, Option.bind_some]
  exact key _ 0 (by omega) (by omega)
end
def put1 (t : List (List UInt8)) (ws : List S_api_Write) : List (List UInt8) := ws.foldl (fun t w => t.set w.Home.toNat w.Data) t
theorem put1_len (ws : List S_api_Write) : ∀ t, (put1 t ws).length = t.length := by
  induction ws with
  | nil => intro t; rfl
  | cons w r ih => intro t; show (put1 (t.set _ _) r).length = _; rw [ih, List.length_set]
theorem rd_drop (s : Nat) (ws : List S_api_Write) : ∀ t, (rd s t ws).drop (2 + s) = put1 (t.drop (2 + s)) ws := by
  induction ws with
  | nil => intro t; rfl
  | cons w r ih =>
    intro t
    show (rd s (t.set _ _) r).drop (2 + s) = put1 ((t.drop (2 + s)).set _ _) r
    rw [ih, List.drop_set, if_neg (by omega), show 2 + s + w.Home.toNat - (2 + s) = w.Home.toNat by omega]
theorem n_done {t : List (List UInt8)} {ws : List S_api_Write} (h0 : 0 < t.length) (ht : t.length ≤ 20000) (hl : ws.length ≤ 10000) (hg : ∀ w ∈ ws, 0 ≤ w.Home ∧ w.Home < (t.length : Int)) : m_L18_done t ws = some (put1 t ws) := by
  have key : ∀ (n k : Nat) (u : List (List UInt8)), u.length = t.length → k ≤ ws.length → ws.length - k < n → m_L18_done_l1 ws n (k : Int) u = some (put1 u (ws.drop k)) := by
    intro n
    induction n with
    | zero => intro k u _ _ h; omega
    | succ n ih =>
      intro k u hu hk hn
      unfold m_L18_done_l1
      by_cases hlt : k < ws.length
      · obtain ⟨w1, w2⟩ := hg _ (List.getElem_mem hlt)
        have e3 : idx u ws[k].Home = some (u[ws[k].Home.toNat]'(by omega)) := by
          have := idx_nat (l := u) (i := ws[k].Home.toNat) (by omega)
          rwa [Int.toNat_of_nonneg w1] at this
        rw [bif_pos (dec_t (by omega)), idx_nat hlt, Option.bind_some, e3, Option.bind_some, wi_succ (by omega), ih (k + 1) _ (by rw [List.length_set, hu]) (by omega) (by omega), List.drop_eq_getElem_cons hlt]
        rfl
      · rw [bif_neg (dec_f (by omega)), List.drop_of_length_le (by omega)]
        rfl
  unfold m_L18_done
  have hne : t.isEmpty = false := by
    cases t with
    | nil => simp at h0
    | cons x r => rfl
  rw [bif_neg hne, appI_ok (by simp; omega), Option.bind_some, List.nil_append]
  exact key (ws.length + 1) 0 t rfl (by omega) (by omega)

/-! ### Stages -/
def img0 : List (List UInt8) := ((List.replicate 40 Z64).set 0 (slotB 1 25)).set 1 (slotB 26 25)
theorem img0_len : img0.length = 40 := by simp [img0]
theorem img0_z {k : Nat} (h1 : 2 ≤ k) (h2 : k < 40) : img0[k]? = some Z64 := by
  unfold img0
  rw [List.getElem?_set_ne (by omega), List.getElem?_set_ne (by omega), List.getElem?_replicate, if_pos h2]
theorem z_bad {st : Nat} (h1 : 0 < st) (h2 : st < 18446744073709551616) : ¬ Valid st Z64 := by
  intro h
  have := congrArg ofBE (valid_end h)
  rw [ofBE_be, Nat.mod_eq_of_lt (by omega), show ofBE (Z64.drop 56) = 0 by decide +kernel] at this
  omega
theorem st_open (w1 : Hp) : ∃ H1 H2 H3 i j d, m_disk_New 40 w1 = some (some i, 0, H1) ∧ m_wal_Format (some i) 25 H1 = some (0, H2) ∧ m_wal_Open (some i) H2 = some (some j, 0, H3) ∧ WIn H3 i j d 25 26 1 0 0 ∧ d.wait = [] ∧ d.now = img0 := by
  obtain ⟨H1, e1, e2, e3⟩ := n_New (H := w1) (n := 40) (by omega) (by omega)
  obtain ⟨H2, d2, f1, f2, f3, f4, f5, f6, f7, f8, f9⟩ := n_Format (n := 40) (s := 25) e2 rfl (by show (-1 : Int) < 0; omega) rfl rfl (by omega) (by omega) (by omega)
  have hl : d2.now.length = 40 := by rw [f5]; simp
  obtain ⟨K, g1, g2⟩ := n_Open_l5 (b := 1) (s := 25) f2 f3 f4 hl (by omega) (by omega) (by omega) (by omega) (by omega) (by rw [f5]; simp) 0 (.inl ⟨by rw [f5, List.getElem?_set_ne (by omega), List.getElem?_replicate, if_pos (by omega)], rfl⟩)
  rw [if_pos rfl, if_pos rfl] at g2
  have hr : d2.now[2 + 0]? = some Z64 := by rw [f5, List.getElem?_set_ne (by omega), List.getElem?_replicate, if_pos (by omega)]
  have hs := n_says_none g2 ⟨_, n_at g2 (p := 0) (by omega) hr, atE_bad (z_bad (by omega) (by omega)) (by simp)⟩
  obtain ⟨H3, d3, k1, k2, k3, k4, k5, k6⟩ := n_Open_j4 (H := H2) g2 (by omega) (by omega) (by omega) hs (fun w hw => absurd hw List.not_mem_nil) (by simp) (by rw [f7]; simp)
  refine ⟨H1, H2, H3, w1.dk.length, H2.lg.length, d3, e1, f1, ?_, k2, k5, ?_⟩
  · rw [g1, k1]
  · rw [k3, f5]
    rfl
/-- The image at the crash. -/
def img1 (ws : List S_api_Write) : List (List UInt8) := wrs 2 26 (entsA ws) 0 img0
theorem img1_len (ws : List S_api_Write) : (img1 ws).length = 40 := by rw [img1, wrs_len, img0_len]
theorem img1_row {ws : List S_api_Write} (hl : ws.length ≤ 10) {p : Nat} {e : S_wal_entry} (h : (entsA ws)[p]? = some e) : (img1 ws)[2 + p]? = some (rowE e (26 + p)) := by
  have := wrs_at 2 26 (entsA ws) 0 img0 p e h (by rw [entsA_len, img0_len]; omega)
  exact this
theorem img1_z {ws : List S_api_Write} (hl : ws.length ≤ 10) {q : Nat} (h : 2 + (2 * ws.length + 1) ≤ q) (h2 : q < 40) : (img1 ws)[q]? = some Z64 := by
  unfold img1
  rw [wrs_out 2 26 q _ 0 _ (.inr (by rw [entsA_len]; omega)), img0_z (by omega) h2]
theorem img1_drop {ws : List S_api_Write} (hl : ws.length ≤ 10) : (img1 ws).drop 27 = img0.drop 27 := by
  apply List.ext_getElem?
  intro k
  rw [List.getElem?_drop, List.getElem?_drop]
  exact wrs_out 2 26 (27 + k) _ 0 _ (.inr (by rw [entsA_len]; omega))
theorem entsA_at {ws : List S_api_Write} {k : Nat} (hk : k < ws.length) : (entsA ws)[2 * k]? = some ⟨1, ws[k].Home, ws[k].Data.take 32, false⟩ ∧ (entsA ws)[2 * k + 1]? = some ⟨2, ws[k].Home, ws[k].Data.drop 32, false⟩ := by
  have := ents_at ws k hk
  have hl := ents_len ws
  unfold entsA
  rw [List.getElem?_append_left (by omega), List.getElem?_append_left (by omega)]
  exact this
theorem entsA_end (ws : List S_api_Write) : (entsA ws)[2 * ws.length]? = some ⟨3, ws.length, [], false⟩ := by
  unfold entsA
  rw [List.getElem?_append_right (by rw [ents_len]; omega), ents_len, Nat.sub_self]
  rfl
theorem st_stand {K : Hp} {i j : Nat} {d : Dsk} {ws : List S_api_Write} {com : Int} {T : Nat} (h : WIn K i j d 25 26 1 0 com) (hg : Good 25 40 ws) (hl : ws.length ≤ 10) (hnow : ∀ p, p ≠ T → d.now[2 + p]? = (img1 ws)[2 + p]?) (hT : ∃ r, d.now[2 + T]? = some r ∧ ¬ Valid (26 + T) r) (hT2 : T ≤ 2 * ws.length + 1) : Stand K j ws T := by
  refine ⟨fun k hk hkT => ?_, fun k hk hkT => ?_, fun hkT => ?_, ?_⟩
  · obtain ⟨w1, w2, w3⟩ := hg _ (List.getElem_mem hk)
    rw [n_at h (p := 2 * k) (by omega) (by rw [hnow _ (by omega)]; exact img1_row hl (entsA_at hk).1)]
    show some (atE (26 + 2 * k) (entryB 1 ws[k].Home.toNat (ws[k].Data.take 32) (26 + 2 * k))) = _
    rw [atE_entry (by omega) (by omega) (by rw [List.length_take]; omega), Int.toNat_of_nonneg w1]
    rfl
  · obtain ⟨w1, w2, w3⟩ := hg _ (List.getElem_mem hk)
    rw [n_at h (p := 2 * k + 1) (by omega) (by rw [hnow _ (by omega)]; exact img1_row hl (entsA_at hk).2)]
    show some (atE (26 + (2 * k + 1)) (entryB 2 ws[k].Home.toNat (ws[k].Data.drop 32) (26 + (2 * k + 1)))) = _
    rw [atE_entry (by omega) (by omega) (by rw [List.length_drop]; omega), Int.toNat_of_nonneg w1]
    rfl
  · rw [n_at h (p := 2 * ws.length) (by omega) (by rw [hnow _ (by omega)]; exact img1_row hl (entsA_end ws))]
    show some (atE (26 + 2 * ws.length) (entryB 3 ws.length [] (26 + 2 * ws.length))) = _
    rw [entryB_end, atE_entry (by omega) (by omega) (by simp)]
    rfl
  · obtain ⟨r, hr, hv⟩ := hT
    exact ⟨_, n_at h (p := T) (by omega) hr, atE_bad hv (h.dsk.row hr)⟩
theorem st_again {H : Hp} {i : Nat} {d : Dsk} {ws : List S_api_Write} (hg : Good 25 40 ws) (h0 : 0 < ws.length) (hl : ws.length ≤ 10) (h : DIn H i d) (ho : d.off = false) (hf : d.fuse < 0) (hw : d.wait.length ≤ 1000) {t m : Nat} (ht : t ≤ 2 * ws.length) (hm : m < 64) {r : List UInt8} {x : UInt8} (hr : (img1 ws)[2 + t]? = some r) (hnow : d.now = (img1 ws).set (2 + t) (r.set m x)) :
    ∃ H' j d', m_wal_Open (some i) H = some (some j, 0, H') ∧ WIn H' i j d' 25 51 0 0 0 ∧ (r[m]? = some x → d'.now.drop 27 = put1 (img0.drop 27) ws) ∧ (r[m]? ≠ some x → d'.now.drop 27 = img0.drop 27) := by
  have hlen : d.now.length = 40 := by rw [hnow, List.length_set, img1_len]
  have hrow : ∀ q, q < 2 → d.now[q]? = img0[q]? := fun q hq => by
    rw [hnow, List.getElem?_set_ne (by omega)]
    exact wrs_out 2 26 q _ 0 _ (.inl (by omega))
  obtain ⟨K, g1, g2⟩ := n_Open_l5 (b := 1) (s := 25) h ho hf hlen (by omega) (by omega) (by omega) (by omega) (by omega) (by rw [hrow 0 (by omega)]; rfl) 26 (.inr ⟨by rw [hrow 1 (by omega)]; rfl, by omega, by omega⟩)
  rw [if_neg (by omega), if_neg (by omega)] at g2
  have hrl : r.length = 64 := by
    obtain ⟨e, he⟩ : ∃ e, (entsA ws)[t]? = some e := ⟨_, List.getElem?_eq_getElem (by rw [entsA_len]; omega)⟩
    rw [img1_row hl he] at hr
    injection hr with hr
    rw [← hr]
    exact rowE_len (ok_entsA ws hg (by omega) (by omega) e (List.mem_of_getElem? he))
  have hv : Valid (26 + t) r := by
    obtain ⟨e, he⟩ : ∃ e, (entsA ws)[t]? = some e := ⟨_, List.getElem?_eq_getElem (by rw [entsA_len]; omega)⟩
    rw [img1_row hl he] at hr
    injection hr with hr
    rw [← hr]
    exact valid_entry (ok_entsA ws hg (by omega) (by omega) e (List.mem_of_getElem? he)).2.2.2.2
  have hdrop : d.now.drop 27 = img0.drop 27 := by
    rw [hnow, List.drop_set, if_pos (by omega), img1_drop hl]
  by_cases hx : r[m]? = some x
  · have hself : r.set m x = r := by
      obtain ⟨hm2, hx2⟩ := List.getElem?_eq_some_iff.1 hx
      rw [← hx2, List.set_getElem_self]
    have hnow2 : d.now = img1 ws := by
      rw [hnow, hself]
      obtain ⟨q1, q2⟩ := List.getElem?_eq_some_iff.1 hr
      rw [← q2, List.set_getElem_self]
    have hS := st_stand (T := 2 * ws.length + 1) g2 hg hl (fun p _ => by rw [hnow2]) ⟨Z64, by rw [hnow2]; exact img1_z hl (by omega) (by omega), z_bad (by omega) (by omega)⟩ (by omega)
    have hs := n_says_good g2 (by rw [hlen]; exact hg) h0 (by omega) hS
    obtain ⟨H3, d3, k1, k2, k3, k4, k5, k6⟩ := n_Open_j4 (H := H) g2 (by omega) (by omega) (by omega) hs (by rw [hlen]; exact hg) (by omega) hw
    refine ⟨H3, H.lg.length, d3, by rw [g1, k1], k2, fun _ => ?_, fun hn => absurd hx hn⟩
    rw [k3, List.drop_set, if_pos (by omega)]
    have := rd_drop 25 ws d.now
    rw [show 2 + 25 = 27 from rfl] at this
    rw [this, hdrop]
  · have hS := st_stand (T := t) g2 hg hl (fun p hp => by rw [hnow, List.getElem?_set_ne (by omega)]) ⟨r.set m x, by rw [hnow, List.getElem?_set_self (by rw [img1_len]; omega)], valid_turned hv hm hrl hx⟩ (by omega)
    have hs := n_says_bad g2 (by rw [hlen]; exact hg) h0 (by omega) hS ht
    obtain ⟨H3, d3, k1, k2, k3, k4, k5, k6⟩ := n_Open_j4 (H := H) g2 (by omega) (by omega) (by omega) hs (fun w hw => absurd hw List.not_mem_nil) (by simp) hw
    refine ⟨H3, H.lg.length, d3, by rw [g1, k1], k2, fun hn => absurd hn hx, fun _ => ?_⟩
    rw [k3, List.drop_set, if_pos (by omega)]
    exact hdrop
theorem turn8 (x w : UInt8) : U8 ((((BitVec.ofInt IntKind.u8.bits (x.toNat : Int)) ^^^ (BitVec.ofInt IntKind.u8.bits (w.toNat : Int))).toNat : Nat) : Int) = x ^^^ w := by
  have hx := x.toNat_lt
  have hw := w.toNat_lt
  have h2 : (BitVec.ofInt 8 (x.toNat : Int) ^^^ BitVec.ofInt 8 (w.toNat : Int)).toNat = x.toNat ^^^ w.toNat := by
    rw [BitVec.toNat_xor, BitVec.ofInt_natCast, BitVec.ofInt_natCast, BitVec.toNat_ofNat, BitVec.toNat_ofNat, Nat.mod_eq_of_lt (by omega), Nat.mod_eq_of_lt (by omega)]
  have h3 : x.toNat ^^^ w.toNat < 256 := Nat.xor_lt_two_pow (n := 8) (by omega) (by omega)
  show U8 ((BitVec.ofInt 8 (x.toNat : Int) ^^^ BitVec.ofInt 8 (w.toNat : Int)).toNat : Int) = _
  rw [h2]
  apply UInt8.toNat_inj.1
  rw [UInt8.toNat_xor]
  unfold U8
  rw [show (((x.toNat ^^^ w.toNat : Nat) : Int) % 256).toNat = x.toNat ^^^ w.toNat by omega]
  simp
theorem turn8_iff (x w : UInt8) : x = x ^^^ w ↔ w = 0 := by
  constructor
  · intro h
    have h1 := congrArg (x ^^^ ·) h
    simp only [← UInt8.xor_assoc, UInt8.xor_self, UInt8.zero_xor] at h1
    exact h1.symm
  · rintro rfl
    simp
theorem n_Read_r {H : Hp} {i : Nat} {d : Dsk} (h : DIn H i d) (ho : d.off = false) {k : Nat} {r : List UInt8} (hr : d.now[k]? = some r) : m_disk_Disk_Read_r (some i) (k : Int) H = some (r, 0) := n_Read h ho hr
theorem n_WalTurned (ws : List S_api_Write) (p : Nat) (hp : p ≤ 65535) (w : UInt8) : ∃ w', m_L18_WalTurned ws (p : Int) w Hp.e = some (true, w') := by
  unfold m_L18_WalTurned
  obtain ⟨w1, e1⟩ := n_awake
  rw [e1, Option.bind_some, bif_neg (by rfl)]
  obtain ⟨r, e2, hr⟩ := n_Few ws
  rw [e2, Option.bind_some]
  cases r with
  | false => exact ⟨_, rfl⟩
  | true =>
    have hl := hr rfl
    rw [bif_neg (by rfl)]
    by_cases h0 : ws.length = 0
    · rw [bif_pos (ieq_t (by omega))]
      exact ⟨_, rfl⟩
    · rw [bif_neg (ieq_f (by omega))]
      obtain ⟨H1, H2, H3, i, j, d, f1, f2, f3, f4, f5, f6⟩ := st_open w1
      have hlen : d.now.length = 40 := by rw [f6, img0_len]
      show ∃ w', Option.bind (m_disk_New 40 w1) _ = _
      rw [f1, Option.bind_some]
      show ∃ w', Option.bind (m_wal_Format (some i) 25 H1) _ = _
      rw [f2, Option.bind_some]
      show ∃ w', Option.bind (m_wal_Open (some i) H2) _ = _
      rw [f3, Option.bind_some]
      show ∃ w', (bif ((0 : Int) != 0) then some (false, H3) else Option.bind (m_L18_homes (some j) H3) _) = _
      rw [bif_neg (by rfl), n_homes f4, Option.bind_some, f6]
      by_cases hg : Good 25 40 ws
      · obtain ⟨H4, d4, com, g1, g2, g3, g4, g5, g6⟩ := n_Commit f4 (by rw [hlen]; exact hg) (by omega) (by omega) (by rw [f5]; simp)
        have hk4 : d4.kept = img1 ws := by rw [g3, f6]; rfl
        have hn4 : d4.now.drop 27 = put1 (img0.drop 27) ws := by
          rw [g4, hk4, ← img1_drop hl]
          exact rd_drop 25 ws _
        have hl4 : d4.now.length = 40 := by rw [g4, rd_len, hk4, img1_len]
        show ∃ w', Option.bind (m_wal_Log_Commit (some j) ws H3) _ = _
        rw [g1, Option.bind_some, bif_neg (by rfl), n_homes g2, Option.bind_some]
        have hdl : (img0.drop 27).length = 13 := by rw [List.length_drop, img0_len]
        show ∃ w', Option.bind (m_L18_done (img0.drop 27) ws) _ = _
        rw [n_done (by omega) (by omega) (by omega) (fun w hw => ⟨(hg w hw).1, by have := (hg w hw).2.1; rw [hdl]; omega⟩), Option.bind_some]
        show ∃ w', Option.bind (m_L18_same (d4.now.drop 27) (put1 (img0.drop 27) ws)) _ = _
        have hsm : ∀ x ∈ d4.now.drop 27, x.length < 4611686018427387904 := fun x hx => by
          obtain ⟨q, hq⟩ := List.getElem?_of_mem hx
          rw [List.getElem?_drop] at hq
          have := g2.dsk.row hq
          omega
        rw [n_same _ _ (by rw [List.length_drop]; omega) hsm, Option.bind_some, hn4, decide_eq_true rfl, bif_neg (by rfl)]
        obtain ⟨H5, k1, k2, k3⟩ := n_Crash g2.dsk (by omega) (by omega)
        rw [k1, Option.bind_some]
        have ew : wi (64 * wi (wi (2 * (ws.length : Int)) + 1)) = ((64 * (2 * ws.length + 1) : Nat) : Int) := by
          rw [wi_id (z := 2 * (ws.length : Int)) (by omega) (by omega), wi_id (z := 2 * (ws.length : Int) + 1) (by omega) (by omega), wi_id (by omega) (by omega)]
          omega
        have er : remI .i64 (wi (p : Int)) (wi (64 * wi (wi (2 * (ws.length : Int)) + 1))) = some ((p % (64 * (2 * ws.length + 1)) : Nat) : Int) := by
          unfold remI
          rw [ew, wi_id (by omega) (by omega), bif_pos (ine_t (by omega))]
          congr 1
        rw [er, Option.bind_some]
        have hn : p % (64 * (2 * ws.length + 1)) < 64 * (2 * ws.length + 1) := Nat.mod_lt _ (by omega)
        generalize p % (64 * (2 * ws.length + 1)) = n at hn
        have et : wi (2 + wi (Int.tdiv (n : Int) 64)) = ((2 + n / 64 : Nat) : Int) := by
          rw [show Int.tdiv (n : Int) 64 = ((n / 64 : Nat) : Int) from rfl, wi_id (z := ((n / 64 : Nat) : Int)) (by omega) (by omega), wi_id (by omega) (by omega)]
          omega
        have em : Int.tmod (n : Int) 64 = ((n % 64 : Nat) : Int) := rfl
        rw [et, em]
        have hm : n % 64 < 64 := Nat.mod_lt _ (by omega)
        have ht : n / 64 ≤ 2 * ws.length := by omega
        generalize n % 64 = m at hm
        generalize n / 64 = t at ht
        obtain ⟨row, hrow⟩ : ∃ row, (img1 ws)[2 + t]? = some row := ⟨_, List.getElem?_eq_getElem (by rw [img1_len]; omega)⟩
        have hrl := k2.row (k := 2 + t) (r := row) (by show d4.kept[2 + t]? = _; rw [hk4, hrow])
        rw [n_Read_r k2 rfl (k := 2 + t) (r := row) (by show d4.kept[2 + t]? = _; rw [hk4, hrow]), Option.bind_some, bif_neg (by rfl)]
        show ∃ w', (bif ((row.length : Int) != 64) then some (false, H5) else Option.bind (idx row (m : Int)) _) = _
        rw [bif_neg (ine_f (by omega)), idx_nat (by omega), Option.bind_some, Option.bind_some, turn8, Int.toNat_natCast]
        obtain ⟨H6, m1, m2, m3⟩ := n_Write k2 rfl (by show (-1 : Int) < 0; omega) (k := 2 + t) (x := row.set m (row[m]'(by omega) ^^^ w)) (by show _ < d4.kept.length; rw [hk4, img1_len]; omega) (by rw [List.length_set]; exact hrl) (by show ([] : List S_disk_write).length < _; simp)
        show ∃ w', Option.bind (m_disk_Disk_Write (some i) ((2 + t : Nat) : Int) (row.set m (row[m]'(by omega) ^^^ w)) H5) _ = _
        rw [m1, Option.bind_some, bif_neg (by rfl)]
        obtain ⟨H7, j7, d7, q1, q2, q3, q4⟩ := st_again hg (by omega) hl m2 rfl (by show (-1 : Int) < 0; omega) (by show ([] ++ [_] : List S_disk_write).length ≤ _; simp) ht hm hrow (x := row[m]'(by omega) ^^^ w) (by show d4.kept.set _ _ = _; rw [hk4])
        rw [q1, Option.bind_some]
        show ∃ w', Option.bind (m_L18_homes (some j7) H7) _ = _
        have hsm7 : ∀ x ∈ d7.now.drop 27, x.length < 4611686018427387904 := fun x hx => by
          obtain ⟨q, hq⟩ := List.getElem?_of_mem hx
          rw [List.getElem?_drop] at hq
          have := q2.dsk.row hq
          omega
        have hl7 : (d7.now.drop 27).length < 4611686018427387904 := by rw [List.length_drop]; have := q2.ln; omega
        rw [n_homes q2, Option.bind_some]
        by_cases hw : w = 0
        · have hx : row[m]? = some (row[m]'(by omega) ^^^ w) := by
            rw [← (turn8_iff _ w).2 hw]
            exact List.getElem?_eq_getElem _
          rw [bif_pos (ieq_t (by rw [hw]; rfl)), bif_pos (by rfl), bif_pos (by rfl)]
          show ∃ w', Option.bind (m_L18_same (d7.now.drop 27) (put1 (img0.drop 27) ws)) _ = _
          rw [n_same _ _ hl7 hsm7, Option.bind_some, q3 hx, decide_eq_true rfl]
          exact ⟨_, rfl⟩
        · have hx : row[m]? ≠ some (row[m]'(by omega) ^^^ w) := by
            rw [List.getElem?_eq_getElem (by omega)]
            intro e
            injection e with e
            exact hw ((turn8_iff _ w).1 e)
          have hw2 : (w.toNat : Int) ≠ 0 := fun e => hw (UInt8.toNat_inj.1 (by show w.toNat = 0; omega))
          rw [bif_neg (ieq_f hw2), bif_pos (by rfl), bif_pos (by rfl)]
          show ∃ w', Option.bind (m_L18_same (d7.now.drop 27) (img0.drop 27)) _ = _
          rw [n_same _ _ hl7 hsm7, Option.bind_some, q4 hx, decide_eq_true rfl]
          exact ⟨_, rfl⟩
      · show ∃ w', Option.bind (m_wal_Log_Commit (some j) ws H3) _ = _
        rw [(n_Commit_chk f4 ws (by omega)).2 (by rw [hlen]; exact hg), Option.bind_some]
        exact ⟨_, rfl⟩
end Go.Proofs.Ytjomnccladjpgaa

/-
  WalTurned's contract: it starts with no heap, and returns true.
-/
namespace Go.Proofs.Ytjomnccladjpgaa
open Go Go.RowKit
set_option linter.unusedVariables false
theorem law18 (ws : List S_api_Write) (p : Int) (h0 : 0 ≤ p) (h1 : p ≤ 65535) (w : UInt8) : FC Try.prog 3 [.t (.d (.seq 2 (List.map cS_api_Write ws))), .t (.d (.lit (.int .u16 p))), .t (.d (.lit (.int .u8 (w.toNat : Int))))] [] (.t (.d (.lit (.bool true)))) := by
  obtain ⟨n, rfl⟩ := Int.eq_ofNat_of_zero_le h0
  obtain ⟨w', h⟩ := n_WalTurned ws n (by omega) w
  exact fc_of_h (fch_L18_WalTurned ws n w Hp.e (true, w') h) (fun c => hpA_e c) rfl (by show 3 ≤ OB; decide)
end Go.Proofs.Ytjomnccladjpgaa

/-
  What came in: from the reading of the arguments to data.
-/
namespace Go.Proofs.Ytjomnccladjpgaa
open Go Go.RowKit Go.ChangeShapes Go.WideShapes Go.ChangeAt
set_option linter.unusedVariables false
set_option maxRecDepth 20000

/-- All that a world's cells hold. -/
def memW (w : World) : Mem := fun b p => w.cell? ⟨b, p, none⟩
theorem memW_sat (w : World) : ∀ b p u, memW w b p = some u → w.cell? ⟨b, p, none⟩ = some u := fun _ _ _ h => h

/-- What a type's cells are, as data. -/
def OpT {H : Type} (enc : TypeId × Value → H) (w : World) {α : Type} (t : TypeId) (c : α → List D) (ok : α → Prop) : Prop :=
  ∀ (base : Nat) (spare : Nat → Bool) (held : Bool) (fuel : Nat) (cs : List Value) (x : DataW H × List MemPlace), DataW.trod enc Try.prog w base spare held fuel t cs = some x → ∃ v : α, RepL (memW w) (c v) cs ∧ ok v
/-- .. read with less than so much fuel. -/
def OpF {H : Type} (enc : TypeId × Value → H) (w : World) {α : Type} (m : Nat) (t : TypeId) (c : α → List D) (ok : α → Prop) : Prop :=
  ∀ (base : Nat) (spare : Nat → Bool) (held : Bool) (fuel : Nat) (cs : List Value) (x : DataW H × List MemPlace), fuel < m → DataW.trod enc Try.prog w base spare held fuel t cs = some x → ∃ v : α, RepL (memW w) (c v) cs ∧ ok v
theorem OpT.lt {H : Type} {enc : TypeId × Value → H} {w : World} {α : Type} {t : TypeId} {c : α → List D} {ok : α → Prop} (h : OpT enc w t c ok) (m : Nat) : OpF enc w m t c ok := fun b s l f cs x _ k => h b s l f cs x k
theorem OpT.of {H : Type} {enc : TypeId × Value → H} {w : World} {α : Type} {t : TypeId} {c : α → List D} {ok : α → Prop} (h : ∀ m, OpF enc w m t c ok) : OpT enc w t c ok := fun b s l f cs x k => h (f + 1) b s l f cs x (Nat.lt_succ_self f) k

def okInt (k : IntKind) (n : Int) : Prop := (Lit.int k n).wf = true
theorem okI64 {n : Int} (h : okInt .i64 n) : -9223372036854775808 ≤ n ∧ n ≤ 9223372036854775807 := by
  unfold okInt at h
  simp [Lit.wf, IntKind.min, IntKind.max, IntKind.signed, IntKind.bits] at h
  omega
def okAny {α : Type} (_ : α) : Prop := True
def okLen {α : Type} (l : List α) : Prop := l.length ≤ 9223372036854775807
def okList {α : Type} (ok : α → Prop) (l : List α) : Prop := l.length ≤ 9223372036854775807 ∧ ∀ x ∈ l, ok x

theorem repl_one {m : Mem} {d : D} {u : Value} (h : RepD m d u) : RepL m [d] [u] := by
  refine ⟨rfl, fun j e hj => ?_⟩
  match j, hj with
  | 0, hj => injection hj with hj; subst hj; exact ⟨u, rfl, h⟩
  | j + 1, hj => simp at hj
theorem repl_cons {m : Mem} {l1 l2 : List D} {cs : List Value} {o k : Nat} (h1 : RepL m l1 ((cs.drop o).take k)) (h2 : RepL m l2 (cs.drop (o + k))) : RepL m (l1 ++ l2) (cs.drop o) := by
  have e : cs.drop o = (cs.drop o).take k ++ cs.drop (o + k) := by rw [← List.drop_drop, List.take_append_drop]
  rw [e]
  refine ⟨by rw [List.length_append, List.length_append, h1.1, h2.1], fun j d hj => ?_⟩
  rcases Nat.lt_or_ge j l1.length with hl | hl
  · rw [List.getElem?_append_left hl] at hj
    obtain ⟨u, a, b⟩ := h1.2 j d hj
    exact ⟨u, by rw [List.getElem?_append_left (by rw [h1.1]; exact hl)]; exact a, b⟩
  · rw [List.getElem?_append_right hl] at hj
    obtain ⟨u, a, b⟩ := h2.2 _ d hj
    exact ⟨u, by rw [List.getElem?_append_right (by rw [h1.1]; exact hl), h1.1]; exact a, b⟩
theorem repl_nil {m : Mem} {cs : List Value} {n : Nat} (h : cs.length = n) : RepL m [] (cs.drop n) := by
  rw [List.drop_of_length_le (by omega)]
  exact ⟨rfl, fun j d hj => by simp at hj⟩

section
variable {H : Type} {enc : TypeId × Value → H} {w : World}
theorem op_int {t : TypeId} {k : IntKind} (ht : Try.prog.underlying t = some (.int k)) : OpT enc w t (cInt k) (okInt k) := fun b s l f cs x h => by
  obtain ⟨n, rfl, _, hw⟩ := DataW.trod_int ht h
  exact ⟨n, repl_one (.lit _ rfl), hw⟩
theorem op_u8 {t : TypeId} (ht : Try.prog.underlying t = some (.int .u8)) : OpT enc w t cU8 okAny := fun b s l f cs x h => by
  obtain ⟨n, rfl, _, hw⟩ := DataW.trod_int ht h
  refine ⟨UInt8.ofNat n.toNat, repl_one ?_, trivial⟩
  have hr : 0 ≤ n ∧ n ≤ 255 := by
    simp [Lit.wf, IntKind.min, IntKind.max, IntKind.signed, IntKind.bits] at hw
    omega
  have : ((UInt8.ofNat n.toNat).toNat : Int) = n := by
    simp
    omega
  rw [this]
  exact .lit _ rfl
theorem op_bool {t : TypeId} (ht : Try.prog.underlying t = some .bool) : OpT enc w t cBool okAny := fun b s l f cs x h => by
  obtain ⟨n, rfl, _⟩ := DataW.trod_bool ht h
  exact ⟨n, repl_one (.lit _ rfl), trivial⟩
theorem op_str {t : TypeId} (ht : Try.prog.underlying t = some .string) : OpT enc w t cStr okLen := fun b s l f cs x h => by
  obtain ⟨n, rfl, _, hs⟩ := DataW.trod_string ht h
  refine ⟨n.data.toList, repl_one ?_, ?_⟩
  · obtain ⟨⟨y⟩⟩ := n
    exact .lit _ rfl
  · unfold maxLen at hs
    show n.data.toList.length ≤ _
    have : n.data.toList.length = n.size := by simp
    omega
theorem some_list {α : Type} (P : Nat → α → Prop) : ∀ n : Nat, (∀ i, i < n → ∃ x, P i x) → ∃ l : List α, l.length = n ∧ ∀ i (h : i < l.length), P i l[i]
  | 0, _ => ⟨[], rfl, fun i h => absurd h (by simp)⟩
  | n + 1, h => by
    obtain ⟨l, hl, hp⟩ := some_list P n fun i hi => h i (by omega)
    obtain ⟨x, hx⟩ := h n (by omega)
    refine ⟨l ++ [x], by simp [hl], fun i hi => ?_⟩
    by_cases h1 : i < l.length
    · rw [List.getElem_append_left h1]; exact hp i h1
    · have : i = n := by simp at hi; omega
      subst this
      rw [List.getElem_append_right (by omega)]
      simpa [hl] using hx
theorem op_sliceF {α : Type} {t te : TypeId} {k m : Nat} {c : α → List D} {ok : α → Prop} (ht : Try.prog.underlying t = some (.slice te)) (hk : Try.prog.cellsOf te = k) (hk0 : 0 < k) (he : OpF enc w m te c ok) : OpF enc w (m + 1) t (cSl k c) (okList ok) := fun b s l f cs x hf h => by
  rcases DataW.trod_slice ht h with ⟨rfl, _⟩ | ⟨a, len, cap, elems, rest, n, hn, rfl, _, hba, hlc, hcm, hel, hev, _⟩
  · exact ⟨[], repl_one (RepD.nilSeq _ _), by simp, fun x hx => by cases hx⟩
  · have get : ∀ i, i < len → ∃ v : α, (∃ cs' : List Value, cs'.length = k ∧ (∀ j u, cs'[j]? = some u → w.cell? ((a.add (i * k)).add j) = some u) ∧ RepL (memW w) (c v) cs') ∧ ok v := by
      intro i hi
      have h1 := hev i hi
      obtain ⟨y, hy⟩ : ∃ y, elems[i]? = some y := ⟨elems[i], List.getElem?_eq_getElem (by omega)⟩
      rw [hy, hk] at h1
      obtain ⟨cs', hcs', ht'⟩ := Option.bind_eq_some_iff.1 h1
      obtain ⟨hc1, hc2, hc3⟩ := World.cells?_some hcs'
      obtain ⟨v, hrep, hok⟩ := he _ _ _ n cs' y (by omega) ht'
      refine ⟨v, ⟨cs', hc2, fun j u hu => ?_, hrep⟩, hok⟩
      have hjl : j < cs'.length := (List.getElem?_eq_some_iff.1 hu).1
      have hg := hc3 j (by omega)
      rw [hg, ← hu]
    by_cases h0 : len = 0
    · subst h0
      exact ⟨[], repl_one (.seq k [] _ cap 0 0 (fun _ _ => undef) (by simp) hcm (fun h => absurd rfl h) (fun i r h => by simp at h) (fun i r j d h => by simp at h) (fun i r j d h => by simp at h)), by simp, fun x hx => by cases hx⟩
    · have hs : a.spot = none := by
        obtain ⟨v, ⟨cs', hl4, hcell, _⟩, _⟩ := get 0 (by omega)
        have := World.cell?_spot (hcell 0 _ (List.getElem?_eq_getElem (by omega)))
        simpa [Addr.add] using this
      obtain ⟨g, o, sp⟩ := a
      simp only at hs
      subst hs
      obtain ⟨l, hll, hlp⟩ := some_list _ len get
      refine ⟨l, repl_one ?_, by unfold maxLen at hcm; omega, fun x hx => ?_⟩
      · have := RepD.seq (m := memW w) k (l.map c) (some ⟨g, o, none⟩) cap g o (fun i j => (memW w g (o + i * k + j)).getD undef) (by simp; omega) hcm (fun _ => rfl) (fun i r hi => ?_) (fun i r j d hi hj => ?_) (fun i r j d hi hj => ?_)
        · rwa [List.length_map, hll] at this
        all_goals
          rw [List.getElem?_map] at hi
          have hlt : i < l.length := by
            rcases Nat.lt_or_ge i l.length with g | g
            · exact g
            · rw [List.getElem?_eq_none g] at hi; cases hi
          rw [List.getElem?_eq_getElem hlt] at hi
          injection hi with hi
          subst hi
          obtain ⟨⟨cs', h1, h2, h3⟩, _⟩ := hlp i hlt
        · have := h3.1
          omega
        all_goals
          obtain ⟨u, k1, k2⟩ := h3.2 j d hj
          have k3 := h2 j u k1
          rw [Addr.add_mid, Addr.add_mid] at k3
          have k4 : memW w g (o + i * k + j) = some u := k3
          rw [k4]
        · rfl
        · exact k2
      · obtain ⟨i, hi, rfl⟩ := List.getElem_of_mem hx
        exact (hlp i hi).2
theorem op_slice {α : Type} {t te : TypeId} {k : Nat} {c : α → List D} {ok : α → Prop} (ht : Try.prog.underlying t = some (.slice te)) (hk : Try.prog.cellsOf te = k) (hk0 : 0 < k) (he : OpT enc w te c ok) : OpT enc w t (cSl k c) (okList ok) :=
  fun b s l f cs x h => op_sliceF ht hk hk0 (he.lt f) b s l f cs x (Nat.lt_succ_self f) h
end
/-- A law that returns true, called with what came in. -/
theorem fc_law {f : FuncId} {args : List A} (h : FC Try.prog f args [] (.t (.d (.lit (.bool true))))) {w : World} {vals : Array Value} (hs : vals.size = args.length) (hsat : ∀ b p u, memW w b p = some u → w.cell? ⟨b, p, none⟩ = some u) (hr : ∀ s, RepA (memW w) w (fun _ => none) (argS args) s (argS args s) (vals.getD s undef)) (htbl : Mle TBL (memW w) := by intro b p u h; simp [TBL, TBLS] at h) :
    Calls Try.prog f vals w fun e w' => e = .returned (.bool true) ∧ Below w.heap.size w w' := by
  refine (h w (memW w) (fun _ => none) vals hsat htbl (fun _ _ h => by cases h) (fun _ _ _ h => by cases h) hs hr).mono ?_
  rintro e w' ⟨u, m', o', S', a', ρ, rfl, J, hu, _⟩
  have hS : Same (fun _ => False) w w' := J.same.weaken fun g h => h rfl
  have hu : RepD m' (.lit (.bool true)) u := hu
  cases hu
  exact ⟨rfl, hS.below⟩
theorem u8_of {n : Int} (hw : (Lit.int .u8 n).wf = true) : ∃ x : UInt8, n = (x.toNat : Int) := by
  have hr : 0 ≤ n ∧ n ≤ 255 := by
    simp [Lit.wf, IntKind.min, IntKind.max, IntKind.signed, IntKind.bits] at hw
    omega
  refine ⟨UInt8.ofNat n.toNat, ?_⟩
  simp
  omega
theorem repl_head {m : Mem} {d : D} {cs : List Value} (h : RepL m [d] cs) : ∃ u, cs = [u] ∧ RepD m d u := by
  match cs, h.1 with
  | [u], _ =>
    obtain ⟨v, h1, h2⟩ := h.2 0 d rfl
    injection h1 with h1
    subst h1
    exact ⟨_, rfl, h2⟩
end Go.Proofs.Ytjomnccladjpgaa
