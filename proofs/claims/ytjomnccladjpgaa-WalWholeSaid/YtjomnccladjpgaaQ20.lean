/-
  Texts joined: see the remark at the head of each part.
-/
import Derived.Test.YtjomnccladjpgaaQ19
import Derived.Test.YtjomnccladjpgaaQ10
import Derived.Test.YtjomnccladjpgaaQ16
import Derived.Test.YtjomnccladjpgaaQ04
import Derived.ProofKit
import Derived.Lib.SmallJoins
import Derived.Test.YtjomnccladjpgaaQ08
import Derived.OpenShut
set_option linter.unusedVariables false
set_option linter.unusedSimpArgs false
/-
  Plain: the image after all entries of one more transaction were written.
-/
namespace Go.Proofs.Ytjomnccladjpgaa
open Go Go.RowKit
set_option linter.unusedVariables false
set_option linter.unusedSimpArgs false

theorem ch_app {X Y : List (List UInt8)} {b s n : Nat} {w : List S_api_Write} : ∀ (M : List (List S_api_Write)) (q : Nat), (∀ p, p < q + places M → X[2 + p]? = Y[2 + p]?) → Ch s n X b q M → Ch s n Y b (q + places M) [w] → Ch s n Y b q (M ++ [w])
  | [], q, _, _, h => h
  | v :: r, q, hXY, hc, h => by
    obtain ⟨g1, g2, g3, g4, g5, g6⟩ := hc
    have e : q + places (v :: r) = q + (2 * v.length + 1) + places r := by
      show q + (2 * v.length + 1 + places r) = _
      omega
    refine ⟨g1, g2, g3, fun y x hy hxy => ?_, g5, ch_app r _ (fun p hp => hXY p (by omega)) g6 (by rw [← e]; exact h)⟩
    rw [← hXY (q + y) (by omega)]
    exact g4 y x hy hxy
theorem places_app : ∀ (L : List (List S_api_Write)) (w : List S_api_Write), places (L ++ [w]) = places L + (2 * w.length + 1)
  | [], w => by show 2 * w.length + 1 + 0 = 0 + _; omega
  | v :: r, w => by
    show 2 * v.length + 1 + places (r ++ [w]) = 2 * v.length + 1 + places r + _
    rw [places_app r w]
    omega
theorem img_wrs {s n b sl : Nat} {K : List (List UInt8)} {L : List (List S_api_Write)} {w : List S_api_Write} (h : Img s n K b sl L) (hf : Fresh s K b (places L)) (hb : b + s < 256) (hn : 2 + s < n) (hn2 : n ≤ 16384) (hg : Good s n w) (h0 : 0 < w.length) (hl : w.length ≤ 10000) (hu : places L + (2 * w.length + 1) ≤ s) :
    Img s n (wrs (2 + places L) (b + places L) (entsA w) 0 K) b sl (L ++ [w]) ∧ Fresh s (wrs (2 + places L) (b + places L) (entsA w) 0 K) b (places (L ++ [w])) ∧ (wrs (2 + places L) (b + places L) (entsA w) 0 K).drop (2 + s) = K.drop (2 + s) := by
  have hsl := h.sl1
  have hok := ok_entsA w hg hn2 hl
  have hpa := places_app L w
  generalize hu' : places L = u at *
  generalize hX : wrs (2 + u) (b + u) (entsA w) 0 K = X
  have hout : ∀ q, q < 2 + u ∨ 2 + u + (2 * w.length + 1) ≤ q → X[q]? = K[q]? := fun q hq => by
    rw [← hX]
    exact wrs_out (2 + u) (b + u) q (entsA w) 0 K (by rw [entsA_len]; omega)
  have hat : ∀ y e, (entsA w)[y]? = some e → X[2 + (u + y)]? = some (rowE e (b + (u + y))) := fun y e he => by
    have := wrs_at (2 + u) (b + u) (entsA w) 0 K y e he (by rw [entsA_len, h.len]; omega)
    rw [show 2 + u + 0 + y = 2 + (u + y) by omega, show b + u + 0 + y = b + (u + y) by omega, hX] at this
    exact this
  have hin : ∀ p, u ≤ p → p < u + (2 * w.length + 1) → ∃ e, OkE e ∧ X[2 + p]? = some (rowE e (b + p)) := fun p h1 h2 => by
    have hlt : p - u < (entsA w).length := by rw [entsA_len]; omega
    have := hat (p - u) _ (List.getElem?_eq_getElem hlt)
    rw [show u + (p - u) = p by omega] at this
    exact ⟨_, hok _ (List.getElem_mem hlt), this⟩
  have hfr : Fresh s X b (u + (2 * w.length + 1)) := fun p hp1 hp r hr => by
    rw [hout (2 + p) (by omega)] at hr
    exact hf p (by omega) hp r hr
  have hrow : ∀ (q : Nat) (x : List UInt8), X[q]? = some x → x.length = 64 := fun q x hx => by
    by_cases c : q < 2 + u ∨ 2 + u + (2 * w.length + 1) ≤ q
    · rw [hout q c] at hx
      exact h.row q x hx
    · obtain ⟨e, he, h2⟩ := hin (q - 2) (by omega) (by omega)
      rw [show 2 + (q - 2) = q by omega, hx] at h2
      injection h2 with h2
      rw [h2]
      exact rowE_len he
  have hend : Ch s n X b (u + (2 * w.length + 1)) [] := by
    refine ⟨w, 0, hg, h0, hl, by omega, fun y e hy => by omega, by omega, ?_⟩
    by_cases c : u + (2 * w.length + 1) + 0 = s
    · exact .inl c
    · right
      have hlt : 2 + (u + (2 * w.length + 1) + 0) < K.length := by rw [h.len]; omega
      have hr : X[2 + (u + (2 * w.length + 1) + 0)]? = some K[2 + (u + (2 * w.length + 1) + 0)] := by
        rw [hout _ (by omega)]
        exact List.getElem?_eq_getElem hlt
      refine ⟨_, hr, fun hv => ?_⟩
      have h1 := last_valid hv (hrow _ _ hr) (by omega)
      have h2 := hfr _ (by omega) (by omega) _ hr
      omega
  have hone : Ch s n X b (0 + places L) [w] := by
    rw [hu', Nat.zero_add]
    exact ⟨hg, h0, hl, fun y e _ he => hat y e he, by omega, hend⟩
  refine ⟨⟨?_, hrow, hsl, by rw [hout sl (by omega)]; exact h.slot, ?_, ch_app L 0 (fun p hp => (hout (2 + p) (by omega)).symm) h.ch hone, fun p hp r hr => ?_⟩, by rw [hpa]; exact hfr, ?_⟩
  · rw [← hX, wrs_len]
    exact h.len
  · obtain ⟨o, h1, h2⟩ := h.oth
    exact ⟨o, by rw [hout (1 - sl) (by omega)]; exact h1, h2⟩
  · by_cases c : p < u ∨ u + (2 * w.length + 1) ≤ p
    · rw [hout (2 + p) (by omega)] at hr
      exact h.tail p hp r hr
    · obtain ⟨e, he, h2⟩ := hin p (by omega) (by omega)
      rw [hr] at h2
      injection h2 with h2
      rw [h2, last_rowE he (by omega)]
      omega
  · apply List.ext_getElem?
    intro k
    rw [List.getElem?_drop, List.getElem?_drop]
    exact hout _ (by omega)
end Go.Proofs.Ytjomnccladjpgaa

/-
  Plain: one more transaction, from the state between commits.
-/
namespace Go.Proofs.Ytjomnccladjpgaa
open Go Go.RowKit
set_option linter.unusedVariables false
set_option linter.unusedSimpArgs false

section
variable {H : Hp} {i j : Nat} {d : Dsk} {s n b sl used : Nat} {com : Int} {L : List (List S_api_Write)} {h : List (List UInt8)}
theorem flat_snoc (L : List (List S_api_Write)) (w : List S_api_Write) : (L ++ [w]).flatten = L.flatten ++ w := by simp
theorem idle_j2 (I : Idle s n H i j d b sl used com L h) {w : List S_api_Write} (hg : Good s n w) (h0 : 0 < w.length) (hu : used + (2 * w.length + 1) ≤ s) (hb : 1 ≤ b) (hb2 : b + s < 256) {B : Nat} (hB : b ≤ B) :
    ∃ H' r d', m_wal_Log_Commit_j2 w (some j) H = some (r, H') ∧ DIn H' i d' ∧ d'.wait.length < 1000000 ∧ (r = 30 ∧ (∀ ch, Rec s n B (tear d'.kept d'.wait ch) h ∨ Rec s n B (tear d'.kept d'.wait ch) (put1 h w)) ∨ r = 0 ∧ ∃ com', Idle s n H' i j d' b sl (used + (2 * w.length + 1)) com' (L ++ [w]) (put1 h w)) := by
  have hlen := I.len
  have hn := I.lg.sl
  have hn2 := I.lg.ln
  rw [hlen] at hn hn2
  obtain ⟨H', r, d', com', k1, k2, k3, k4, k5, k6⟩ := n_j2F I.lg I.fuse (ws := w) (by rw [hlen]; exact hg) h0 (by omega) hu I.wl
  have hus := I.used_
  subst hus
  have hfrN : Fresh s d.now b (places L) := fun p h1 hp r hr => I.fr p h1 hp r (by rw [← I.low (2 + p) (by omega)]; exact hr)
  obtain ⟨q1, q2, q3⟩ := img_wrs I.imgNow hfrN hb2 hn hn2 hg h0 (by omega) hu
  have hput2 : put1 ((wrs (2 + places L) (b + places L) (entsA w) 0 d.now).drop (2 + s)) (L ++ [w]).flatten = put1 h w := by
    rw [q3, flat_snoc, put1_app, I.putNow]
  have hsub : ∀ x ∈ w, x ∈ (L ++ [w]).flatten := fun x hx => by
    rw [flat_snoc]
    exact List.mem_append_right _ hx
  have hwl := I.wl
  refine ⟨H', r, d', k1, k2, ?_, ?_⟩
  · rcases k6 with ⟨_, _, m, _, q⟩ | ⟨_, _, m, q⟩ | ⟨_, _, q, _⟩
    · rw [q, List.length_append, List.length_take]; omega
    · rw [q, List.length_map, List.length_take]; omega
    · rw [q, List.length_map]; omega
  rcases k6 with ⟨rfl, k6, m, _, k7⟩ | ⟨rfl, k6, m, k7⟩ | ⟨rfl, k6, k7, k8, k9⟩
  · left
    refine ⟨rfl, fun ch => ?_⟩
    rw [k6, k7]
    obtain ⟨L', hL, t1, t2⟩ := tear_entries (m := m) I.img I.fr hb2 hn hn2 hg h0 (by omega) hu I.wt ch
    rcases hL with rfl | rfl
    · left
      exact ⟨b, sl, L', t1, hb, hB, by rw [t2, I.put]⟩
    · right
      exact ⟨b, sl, L ++ [w], t1, hb, hB, by rw [flat_snoc, put1_app, t2, I.put]⟩
  · left
    refine ⟨rfl, fun ch => .inr ?_⟩
    rw [k6, k7]
    obtain ⟨t1, t2⟩ := tear_homes (L := L ++ [w]) (W := (w.take m).map (hw s)) q1 (hw_ok (fun x hx => hg x (List.mem_of_mem_take hx)) fun x hx => hsub x (List.mem_of_mem_take hx)) ch
    exact ⟨b, sl, L ++ [w], t1, hb, hB, by rw [t2, hput2]⟩
  · right
    have hnd : d'.now.drop (2 + s) = put1 h w := by
      rw [k8, rd_drop, k6, q3, I.now_]
    refine ⟨rfl, com', k9, k4, by rw [k6]; exact q1, by rw [k6]; exact q2, by rw [places_app], fun x hx => hw_ok hg hsub x (by rw [← k7]; exact hx), by rw [k7, List.length_map]; omega, fun q hq => ?_, by rw [k6, hput2], hnd⟩
    rw [k8]
    exact rd_low s w d'.kept q hq
end
end Go.Proofs.Ytjomnccladjpgaa

/-
  Plain: a commit whole, from the state between commits.
-/
namespace Go.Proofs.Ytjomnccladjpgaa
open Go Go.RowKit
set_option linter.unusedVariables false
set_option linter.unusedSimpArgs false

section
variable {H : Hp} {i j : Nat} {d : Dsk} {s n b sl used : Nat} {com : Int} {L : List (List S_api_Write)} {h : List (List UInt8)}
/-- A commit: refused, and nothing changed; or power went, and every crash has the homes from before or from behind; or done. -/
theorem idle_commit (I : Idle s n H i j d b sl used com L h) (w : List S_api_Write) (hl : w.length ≤ 10000) (hb : 1 ≤ b) (hb2 : b + s + s < 256) {B : Nat} (hB : b + s ≤ B) :
    ∃ H' r d', m_wal_Log_Commit (some j) w H = some (r, H') ∧ DIn H' i d' ∧ d'.wait.length < 1000000 ∧
      ((r = 2 ∨ r = 3) ∧ H' = H ∧ d' = d ∨
       r = 30 ∧ Good s n w ∧ (∀ ch, Rec s n B (tear d'.kept d'.wait ch) h ∨ Rec s n B (tear d'.kept d'.wait ch) (put1 h w)) ∨
       r = 0 ∧ Good s n w ∧ ∃ b' sl' used' com' L', b ≤ b' ∧ b' ≤ b + s ∧ Idle s n H' i j d' b' sl' used' com' L' (put1 h w)) := by
  have hlen := I.len
  have hn := I.lg.sl
  have hn2 := I.lg.ln
  have hbs := I.lg.bs
  have hwl : d.wait.length < 1000000 := by have := I.wl; omega
  have hc := n_Commit_chk I.lg w hl
  rw [hlen] at hc
  by_cases hg : Good s n w
  · rw [hc.1 hg]
    unfold m_wal_Log_Commit_j1
    show ∃ H' r d', Option.bind (H.lg[j]?) _ = _ ∧ _
    rw [I.lg.lg, Option.bind_some]
    show ∃ H' r d', (bif decide (wi (wi (2 * (w.length : Int)) + 1) > (s : Int)) then _ else _) = _ ∧ _
    have ew : wi (wi (2 * (w.length : Int)) + 1) = ((2 * w.length + 1 : Nat) : Int) := by
      rw [wi_id (z := 2 * (w.length : Int)) (by omega) (by omega), wi_id (by omega) (by omega)]
      omega
    rw [ew]
    by_cases hbig : s < 2 * w.length + 1
    · rw [bif_pos (dec_t (by omega))]
      exact ⟨H, 3, d, rfl, I.lg.dsk, hwl, .inl ⟨.inr rfl, rfl, rfl⟩⟩
    · rw [bif_neg (dec_f (by omega))]
      by_cases h0 : w.length = 0
      · rw [bif_pos (ieq_t (by omega))]
        have hw0 : w = [] := List.eq_nil_of_length_eq_zero h0
        subst hw0
        exact ⟨H, 0, d, rfl, I.lg.dsk, hwl, .inr (.inr ⟨rfl, hg, b, sl, used, com, L, Nat.le_refl _, by omega, I⟩)⟩
      · rw [bif_neg (ieq_f (by omega))]
        have hus : used ≤ s := by
          have := ch_places L 0 _ _ _ I.img.ch
          have := I.used_
          omega
        have eL : m_wal_Log_Left (some j) H = some ((s - used : Nat) : Int) := by
          unfold m_wal_Log_Left
          show Option.bind (H.lg[j]?) _ = _
          rw [I.lg.lg, Option.bind_some]
          show some (wi ((s : Int) - (used : Int))) = _
          rw [wi_id (by omega) (by omega)]
          congr 1
          omega
        rw [eL, Option.bind_some]
        by_cases hroom : used + (2 * w.length + 1) ≤ s
        · rw [bif_neg (dec_f (by omega))]
          obtain ⟨H', r, d', k1, k2, kw, k3⟩ := idle_j2 I hg (by omega) hroom hb (by omega) (B := B) (by omega)
          refine ⟨H', r, d', k1, k2, kw, .inr ?_⟩
          rcases k3 with ⟨rfl, k3⟩ | ⟨rfl, com', k3⟩
          · exact .inl ⟨rfl, hg, k3⟩
          · exact .inr ⟨rfl, hg, b, sl, _, com', _, Nat.le_refl _, by omega, k3⟩
        · rw [bif_pos (dec_t (by omega))]
          obtain ⟨H1, r1, d1, g1, g2, gw, g3⟩ := idle_checkpoint I hb (by omega) (B := B) hB
          rw [g1, Option.bind_some]
          rcases g3 with ⟨rfl, g3⟩ | ⟨rfl, g3⟩
          · rw [bif_pos (by rfl)]
            exact ⟨H1, 30, d1, rfl, g2, gw, .inr (.inl ⟨rfl, hg, fun ch => .inl (g3 ch)⟩)⟩
          · rw [bif_neg (by rfl)]
            obtain ⟨H', r, d', k1, k2, kw, k3⟩ := idle_j2 g3 hg (by omega) (by omega) (by omega) (by omega) (B := B) hB
            refine ⟨H', r, d', k1, k2, kw, .inr ?_⟩
            rcases k3 with ⟨rfl, k3⟩ | ⟨rfl, com', k3⟩
            · exact .inl ⟨rfl, hg, k3⟩
            · exact .inr ⟨rfl, hg, b + s, 1 - sl, _, com', _, by omega, Nat.le_refl _, k3⟩
  · rw [hc.2 hg]
    exact ⟨H, 2, d, rfl, I.lg.dsk, hwl, .inl ⟨.inl rfl, rfl, rfl⟩⟩
end
end Go.Proofs.Ytjomnccladjpgaa

/-
  Plain: crashes and openings behind a power cut.
-/
namespace Go.Proofs.Ytjomnccladjpgaa
open Go Go.RowKit
set_option linter.unusedVariables false
set_option linter.unusedSimpArgs false

section
variable {H : Hp} {i j : Nat} {d : Dsk} {s n B : Nat} {h : List (List UInt8)}
/-- A crash: what was safe is an image that recovers to h. -/
theorem crash_rec (hd : DIn H i d) (h0 : 0 < n) (hn : n ≤ 16384) (hw : d.wait.length < 1000000) (ch : List UInt8) (hR : Rec s n B (tear d.kept d.wait ch) h) :
    ∃ H' d', m_disk_Disk_Crash (some i) ch H = some (0, H') ∧ DIn H' i d' ∧ d'.kept = d'.now ∧ d'.wait = [] ∧ d'.fuse = -1 ∧ d'.off = false ∧ Rec s n B d'.now h ∧ H'.lg = H.lg := by
  have hl : d.now.length = n := by
    obtain ⟨b, sl, L, hI, _⟩ := hR
    rw [← hd.len, ← tear_len d.wait d.kept ch]
    exact hI.len
  obtain ⟨H', e1, e2, e3⟩ := n_CrashC hd (by omega) (by omega) hw ch
  exact ⟨H', _, e1, e2, rfl, rfl, rfl, rfl, hR, e3⟩
/-- A fuse is set, and the disk opened: it answers 0 or 30, and stays safe. -/
theorem fuse_open (hd : DIn H i d) (hk : d.kept = d.now) (hw : d.wait = []) (ho : d.off = false) (hR : Rec s n B d.now h) (hs : 3 ≤ s) (h2 : 2 + s < n) (hn : n ≤ 16384) (hB : B + s < 256) {p : Int} (hp : 0 ≤ p) (hp2 : p < 1000000) :
    ∃ H1 H' r q d', m_disk_Disk_Fuse (some i) p H = some H1 ∧ m_wal_Open (some i) H1 = some (q, r, H') ∧ DIn H' i d' ∧ d'.wait.length < 1000000 ∧ (r = 30 ∨ r = 0) ∧ Safe s n (B + s) d' h := by
  obtain ⟨b, sl, L, hI, hb, hbB, hput⟩ := hR
  have hl := hI.len
  obtain ⟨H1, e1, e2, e3⟩ := n_Fuse hd (by omega) hp
  obtain ⟨H', r, q, d', k1, k2, k3, k4, k5⟩ := open_safe (d := { d with fuse := p }) e2 ho hp2 hI hk hw hn hs h2 hb hbB (by omega)
  exact ⟨H1, H', r, q, d', e1, k1, k2, k3, k4, by rw [← hput]; exact k5⟩
end
end Go.Proofs.Ytjomnccladjpgaa

/-
  Plain: WalWhole.
-/
namespace Go.Proofs.Ytjomnccladjpgaa
open Go Go.RowKit
set_option linter.unusedVariables false
set_option linter.unusedSimpArgs false

theorem img_first {n s : Nat} (hs : 3 ≤ s) (h2 : 2 + s < n) : Img s n ((List.replicate n Z64).set 0 (slotB 1 s)) 1 0 [] := by
  have hz : ∀ q, 0 < q → q < n → ((List.replicate n Z64).set 0 (slotB 1 s))[q]? = some Z64 := fun q h1 h2 => by
    rw [List.getElem?_set_ne (by omega), List.getElem?_replicate, if_pos h2]
  have hrow : ∀ (q : Nat) (x : List UInt8), ((List.replicate n Z64).set 0 (slotB 1 s))[q]? = some x → x.length = 64 := fun q x hx => by
    have hlt := (List.getElem?_eq_some_iff.1 hx).1
    rw [List.length_set, List.length_replicate] at hlt
    by_cases e : q = 0
    · rw [e, List.getElem?_set_self (by simp; omega)] at hx
      injection hx with hx
      rw [← hx]
      exact slotB_len _ _
    · rw [hz q (by omega) hlt] at hx
      injection hx with hx
      rw [← hx]
      rfl
  refine ⟨by simp, hrow, by omega, List.getElem?_set_self (by simp; omega), ⟨Z64, hz 1 (by omega) (by omega), older_z (by omega)⟩, ⟨[⟨0, List.replicate 64 0⟩], 0, fun w hw => ?_, by simp, by simp, by omega, fun y e hy => by omega, by omega, .inr ⟨Z64, hz _ (by omega) (by omega), fun hv => ?_⟩⟩, fun p hp r hr => ?_⟩
  · rw [List.mem_singleton.1 hw]
    exact ⟨Int.le_refl _, by show (0 : Int) < _; omega, by simp⟩
  · have h1 := last_valid hv rfl (by omega)
    rw [show lastB Z64 = 0 from rfl] at h1
    omega
  · rw [hz (2 + p) (by omega) (by omega)] at hr
    injection hr with hr
    rw [← hr, show lastB Z64 = 0 from rfl]
    omega
/-- A new disk, formatted and opened, with a fuse set. -/
theorem wh_open (w1 : Hp) {n s : Nat} (hn : n ≤ 16384) (hs : 3 ≤ s) (h2 : 2 + s < n) (hb : 1 + s < 256) {p : Int} (hp : 0 ≤ p) (hp2 : p < 1000000) :
    ∃ H1 H2 H3 H4 i j d, m_disk_New (n : Int) w1 = some (some i, 0, H1) ∧ m_wal_Format (some i) (s : Int) H1 = some (0, H2) ∧ m_wal_Open (some i) H2 = some (some j, 0, H3) ∧ m_wal_Log_Homes (some j) H3 = some ((n - 2 - s : Nat) : Int) ∧
      m_L18_homes (some j) H3 = some (List.replicate (n - 2 - s) Z64, true) ∧ m_disk_Disk_Fuse (some i) p H3 = some H4 ∧ Idle s n H4 i j d (1 + s) 1 0 0 [] (List.replicate (n - 2 - s) Z64) := by
  obtain ⟨H1, e1, e2, e3⟩ := n_New (H := w1) (n := n) (by omega) hn
  obtain ⟨H2, d2, f1, f2, f3, f4, f5, f6, f7, f8, f9⟩ := n_Format (n := n) (s := s) e2 rfl (by show (-1 : Int) < 0; omega) rfl rfl hn hs h2
  have hI := img_first hs h2
  rw [← f5] at hI
  obtain ⟨H3, d3, k1, k2, k3, k4, k5, k6, k7, k8⟩ := open_live f2 f3 f4 hI f7 hn hs h2 (by omega) hb
  have hl : d3.now.length = n := k6.len
  have hz : d3.now.drop (2 + s) = List.replicate (n - 2 - s) Z64 := by
    rw [k8, f5, List.drop_set, if_pos (by omega), List.drop_replicate, show n - (2 + s) = n - 2 - s by omega]
    rfl
  obtain ⟨H4, q1, q2, q3⟩ := n_Fuse k2.dsk (by omega) hp
  have hh := n_Homes k2.toLIn
  have hg := n_homes k2.toLIn
  rw [hl] at hh
  rw [hz] at hg
  refine ⟨H1, H2, H3, H4, w1.dk.length, H2.lg.length, { d3 with fuse := p }, e1, f1, k1, hh, hg, q1, ⟨⟨q2, k2.off, by rw [q3]; exact k2.lg, hs, k2.sl, k2.ln, k2.bs⟩, hp2, ?_, ?_, rfl, fun x hx => ?_, ?_, fun q _ => ?_, ?_, hz⟩⟩
  · show Img s n d3.kept _ _ _
    rw [k3]
    exact k6
  · show Fresh s d3.kept _ _
    rw [k3]
    exact k7
  · have : x ∈ d3.wait := hx
    rw [k4] at this
    exact absurd this List.not_mem_nil
  · show d3.wait.length ≤ _
    rw [k4]
    simp
  · show d3.now[q]? = d3.kept[q]?
    rw [k3]
  · show put1 (d3.kept.drop (2 + s)) _ = _
    rw [k3, hz]
    rfl
theorem row_small {H : Hp} {i : Nat} {d : Dsk} (h : DIn H i d) (k : Nat) : ∀ x ∈ d.now.drop k, x.length < 4611686018427387904 := fun x hx => by
  obtain ⟨q, hq⟩ := List.getElem?_of_mem hx
  rw [List.getElem?_drop] at hq
  have := h.row hq
  omega
/-- The last steps: a crash that loses nothing, and the same homes again. -/
theorem wh_j3 {n s B i j j2 base slot : Nat} {H : Hp} {d : Dsk} {hh : List (List UInt8)} (a b : Int × Hp) (hW : WIn H i j2 d s base slot 0 0) (hk : d.kept = d.now) (hw : d.wait = []) (hR : Rec s n B d.now hh) (hn : n ≤ 16384) (hs : 3 ≤ s) (h2 : 2 + s < n) (hB : B + s < 256) (hd : d.now.drop (2 + s) = hh) :
    ∃ w', m_L18_WalWhole_j3 (some i, a) (some j, b.1, H) (hh, true) = some (true, w') := by
  unfold m_L18_WalWhole_j3
  obtain ⟨H1, d1, e1, e2, e3, e4, e5, e6, e7, e8⟩ := crash_rec hW.dsk (n := n) (by omega) hn (by rw [hw]; simp) [] (by rw [hk, hw]; exact hR)
  show ∃ w', Option.bind (m_disk_Disk_Crash (some i) [] H) _ = _
  rw [e1, Option.bind_some]
  obtain ⟨H2, d2, j2, base2, slot2, f1, f2, f3, f4, f5, f6, f7⟩ := rec_open e2 e6 (by rw [e5]; omega) e7 e4 hn hs h2 hB
  show ∃ w', Option.bind (m_wal_Open (some i) H1) _ = _
  rw [f1, Option.bind_some]
  have hl : d2.now.length ≤ 16384 := f2.ln
  show ∃ w', (bif ((0 : Int) != 0) then some (false, H2) else Option.bind (m_L18_homes (some j2) H2) _) = _
  rw [bif_neg (by rfl), n_homes f2.toLIn, Option.bind_some, bif_pos (by rfl)]
  show ∃ w', Option.bind (m_L18_same (d2.now.drop (2 + s)) hh) _ = _
  rw [n_same _ _ (by rw [List.length_drop]; omega) (row_small f2.dsk _), Option.bind_some, f6, decide_eq_true rfl]
  exact ⟨_, rfl⟩
theorem wh_j2 {n s B i : Nat} {H : Hp} {d : Dsk} {h1 h2 : List (List UInt8)} (a : Int × Hp) (ps : List (List UInt8)) (hd : DIn H i d) (hw : d.wait.length < 1000000) (hR : ∀ ch, Rec s n B (tear d.kept d.wait ch) h1 ∨ Rec s n B (tear d.kept d.wait ch) h2) (hn : n ≤ 16384) (hs : 3 ≤ s) (h2n : 2 + s < n) (hB : B + s + s < 256) :
    ∃ w', m_L18_WalWhole_j2 (some i, a) ps h1 h2 H = some (true, w') := by
  unfold m_L18_WalWhole_j2
  generalize ps.getD 1 [] = ch
  obtain ⟨hh, hor, hR2⟩ : ∃ hh, (hh = h1 ∨ hh = h2) ∧ Rec s n B (tear d.kept d.wait ch) hh := by
    rcases hR ch with h | h
    · exact ⟨h1, .inl rfl, h⟩
    · exact ⟨h2, .inr rfl, h⟩
  obtain ⟨H1, d1, e1, e2, e3, e4, e5, e6, e7, e8⟩ := crash_rec hd (n := n) (by omega) hn hw ch hR2
  show ∃ w', Option.bind (m_disk_Disk_Crash (some i) ch H) _ = _
  rw [e1, Option.bind_some]
  obtain ⟨H2, d2, j2, base2, slot2, f1, f2, f3, f4, f5, f6, f7⟩ := rec_open e2 e6 (by rw [e5]; omega) e7 e4 hn hs h2n (by omega)
  show ∃ w', Option.bind (m_wal_Open (some i) H1) _ = _
  rw [f1, Option.bind_some]
  have hl : d2.now.length ≤ 16384 := f2.ln
  show ∃ w', (bif ((0 : Int) != 0) then some (false, H2) else Option.bind (m_L18_homes (some j2) H2) _) = _
  rw [bif_neg (by rfl), n_homes f2.toLIn, Option.bind_some, bif_neg (by rfl), f6]
  have hsm : hh.length < 4611686018427387904 := by rw [← f6, List.length_drop]; omega
  have hsr : ∀ x ∈ hh, x.length < 4611686018427387904 := by rw [← f6]; exact row_small f2.dsk _
  have fin : ∃ w', m_L18_WalWhole_j3 (some i, a) (some j2, 0, H2) (hh, true) = some (true, w') := wh_j3 (j := j2) a (0, H2) f2 f3 f4 f7 hn hs h2n (by omega) f6
  show ∃ w', Option.bind (m_L18_same hh h1) _ = _
  rw [n_same _ _ hsm hsr, Option.bind_some]
  by_cases c : hh = h1
  · rw [decide_eq_true c, bif_neg (by rfl)]
    exact fin
  · rw [decide_eq_false c, bif_pos (by rfl)]
    show ∃ w', Option.bind (m_L18_same hh h2) _ = _
    rw [n_same _ _ hsm hsr, Option.bind_some, decide_eq_true (hor.resolve_left c), bif_neg (by rfl)]
    exact fin
theorem wh_j1 {n s B i : Nat} {H : Hp} {d : Dsk} {h1 h2 : List (List UInt8)} (a : Int × Hp) (ps : List (List UInt8)) (p1 : List Int) (hp : 0 ≤ p1.getD 1 0) (hp2 : p1.getD 1 0 ≤ 65535) (hd : DIn H i d) (hw : d.wait.length < 1000000) (hR : ∀ ch, Rec s n B (tear d.kept d.wait ch) h1 ∨ Rec s n B (tear d.kept d.wait ch) h2) (hn : n ≤ 16384) (hs : 3 ≤ s) (h2n : 2 + s < n) (hB : B + s + s + s < 256) :
    ∃ w', m_L18_WalWhole_j1 (some i, a) ps p1 h1 h2 H = some (true, w') := by
  unfold m_L18_WalWhole_j1
  generalize p1.getD 1 0 = p at hp hp2
  generalize hch : ps.getD 0 [] = ch
  obtain ⟨hh, hor, hR2⟩ : ∃ hh, (hh = h1 ∨ hh = h2) ∧ Rec s n B (tear d.kept d.wait ch) hh := by
    rcases hR ch with h | h
    · exact ⟨h1, .inl rfl, h⟩
    · exact ⟨h2, .inr rfl, h⟩
  obtain ⟨H1, d1, e1, e2, e3, e4, e5, e6, e7, e8⟩ := crash_rec hd (n := n) (by omega) hn hw ch hR2
  show ∃ w', Option.bind (m_disk_Disk_Crash (some i) ch H) _ = _
  rw [e1, Option.bind_some]
  have ht : Int.tmod p 60 = p % 60 := Int.tmod_eq_emod_of_nonneg hp
  have hq : 0 ≤ p % 60 ∧ p % 60 < 60 := ⟨Int.emod_nonneg _ (by omega), Int.emod_lt_of_pos _ (by omega)⟩
  rw [ht, wi_id (z := p % 60) (by omega) (by omega)]
  generalize p % 60 = q at hq
  obtain ⟨K1, H2, r, z, d2, f1, f2, f3, f4, f5, f6⟩ := fuse_open e2 e3 e4 e6 e7 hs h2n hn (by omega) hq.1 (by omega : q < 1000000)
  show ∃ w', Option.bind (m_disk_Disk_Fuse (some i) q H1) _ = _
  rw [f1, Option.bind_some]
  show ∃ w', Option.bind (m_wal_Open (some i) K1) _ = _
  rw [f2, Option.bind_some]
  have fin : ∃ w', m_L18_WalWhole_j2 (some i, a) ps h1 h2 H2 = some (true, w') := wh_j2 (B := B + s) a ps f3 f4 (fun ch2 => by
    rcases hor with rfl | rfl
    · exact .inl (f6 ch2)
    · exact .inr (f6 ch2)) hn hs h2n (by omega)
  rcases f5 with rfl | rfl
  · rw [bif_pos (by rfl), bif_neg (by rfl)]
    exact fin
  · rw [bif_neg (by rfl)]
    exact fin
theorem wh_loop {i j : Nat} {p0 : List (List S_api_Write)} {p1 : List Int} {ps : List (List UInt8)} (a b : Int × Hp) (hl : p0.length ≤ 12) (hp : 0 ≤ p1.getD 1 0) (hp2 : p1.getD 1 0 ≤ 65535) : ∀ (n k : Nat) (H : Hp) (d : Dsk) (bb sl used : Nat) (com : Int) (L : List (List S_api_Write)) (h : List (List UInt8)), Idle 15 30 H i j d bb sl used com L h → 1 ≤ bb → bb ≤ 16 + 15 * k → k ≤ p0.length → p0.length - k < n → ∃ w', m_L18_WalWhole_l4 p0 (some j, b) (some i, a) ps p1 n h h (k : Int) H = some (true, w')
  | 0, k, _, _, _, _, _, _, _, _, _, _, _, _, h => by omega
  | n + 1, k, H, d, bb, sl, used, com, L, h, I, hb1, hb, hk, hn => by
    have hwl := I.wl
    unfold m_L18_WalWhole_l4
    by_cases hlt : k < p0.length
    · rw [bif_pos (dec_t (by omega)), idx_nat hlt, Option.bind_some]
      obtain ⟨r, e1, e2⟩ := n_Few p0[k]
      rw [e1, Option.bind_some]
      cases r with
      | false => exact ⟨_, rfl⟩
      | true =>
        have hw10 := e2 rfl
        rw [bif_neg (by rfl)]
        obtain ⟨H', r, d', f1, f2, f3, f4⟩ := idle_commit I p0[k] (by omega) hb1 (by omega) (B := 196) (by omega)
        show ∃ w', Option.bind (m_wal_Log_Commit (some j) p0[k] H) _ = _
        rw [f1, Option.bind_some]
        have hhl : h.length = 13 := by
          rw [← I.now_, List.length_drop, I.len]
        rcases f4 with ⟨hr, rfl, rfl⟩ | ⟨rfl, hg, hR⟩ | ⟨rfl, hg, b', sl', used', com', L', g1, g2, g3⟩
        · have ih := wh_loop (ps := ps) a b hl hp hp2 n (k + 1) H' d' bb sl used com L h I hb1 (by omega) (by omega) (by omega)
          rcases hr with rfl | rfl
          · rw [bif_pos (by rfl), wi_succ (by omega)]
            exact ih
          · rw [bif_neg (by rfl), bif_pos (by rfl), wi_succ (by omega)]
            exact ih
        · rw [bif_neg (by rfl), bif_neg (by rfl), n_done (by omega) (by omega) (by omega) (fun w hw => ⟨(hg w hw).1, by have := (hg w hw).2.1; omega⟩), Option.bind_some, bif_pos (by rfl)]
          exact wh_j1 (B := 196) a ps p1 hp hp2 f2 f3 hR (by omega) (by omega) (by omega) (by omega)
        · rw [bif_neg (by rfl), bif_neg (by rfl), n_done (by omega) (by omega) (by omega) (fun w hw => ⟨(hg w hw).1, by have := (hg w hw).2.1; omega⟩), Option.bind_some, bif_neg (by rfl), wi_succ (by omega)]
          exact wh_loop a b hl hp hp2 n (k + 1) H' d' b' sl' used' com' L' _ g3 (by omega) (by omega) (by omega) (by omega)
    · rw [bif_neg (dec_f (by omega))]
      have hS := I.safe hb1 (B := 196) (by omega)
      exact wh_j1 (B := 196) a ps p1 hp hp2 I.lg.dsk (by omega) (fun ch => .inl (hS ch)) (by omega) (by omega) (by omega) (by omega)
theorem n_WalWhole (p0 : List (List S_api_Write)) (p1 : List Int) (p2 : List (List UInt8)) (h0 : 0 ≤ p1.getD 0 0 ∧ p1.getD 0 0 ≤ 65535) (h1 : 0 ≤ p1.getD 1 0 ∧ p1.getD 1 0 ≤ 65535) : ∃ w', m_L18_WalWhole p0 p1 p2 Hp.e = some (true, w') := by
  unfold m_L18_WalWhole
  obtain ⟨w1, e1⟩ := n_awake
  rw [e1, Option.bind_some, bif_neg (by rfl)]
  by_cases hl : p0.length ≤ 12
  · rw [bif_neg (dec_f (by omega))]
    by_cases hc0 : (p2.getD 0 []).length ≤ 300
    · rw [bif_neg (dec_f (by omega))]
      by_cases hc1 : (p2.getD 1 []).length ≤ 300
      · rw [bif_neg (dec_f (by omega))]
        have ht : Int.tmod (p1.getD 0 0) 200 = p1.getD 0 0 % 200 := Int.tmod_eq_emod_of_nonneg h0.1
        have hq : 0 ≤ p1.getD 0 0 % 200 ∧ p1.getD 0 0 % 200 < 200 := ⟨Int.emod_nonneg _ (by omega), Int.emod_lt_of_pos _ (by omega)⟩
        rw [ht, wi_id (z := p1.getD 0 0 % 200) (by omega) (by omega)]
        generalize p1.getD 0 0 % 200 = q at hq
        obtain ⟨H1, H2, H3, H4, i, j, d, f1, f2, f3, f4, f5, f6, f7⟩ := wh_open w1 (n := 30) (s := 15) (by omega) (by omega) (by omega) (by omega) hq.1 (by omega : q < 1000000)
        show ∃ w', Option.bind (m_disk_New ((30 : Nat) : Int) w1) _ = _
        rw [f1, Option.bind_some]
        show ∃ w', Option.bind (m_wal_Format (some i) ((15 : Nat) : Int) H1) _ = _
        rw [f2, Option.bind_some]
        show ∃ w', Option.bind (m_wal_Open (some i) H2) _ = _
        rw [f3, Option.bind_some]
        show ∃ w', (bif ((0 : Int) != 0) then some (false, H3) else Option.bind (m_wal_Log_Homes (some j) H3) _) = _
        rw [bif_neg (by rfl), f4, Option.bind_some, bif_neg (by rfl), f5, Option.bind_some]
        show ∃ w', Option.bind (m_disk_Disk_Fuse (some i) q H3) _ = _
        rw [f6, Option.bind_some]
        exact wh_loop (0, H1) (0, H3) hl h1.1 h1.2 (p0.length + 1) 0 H4 d _ _ _ _ _ _ f7 (by omega) (by omega) (by omega) (by omega)
      · rw [bif_pos (dec_t (by omega))]
        exact ⟨_, rfl⟩
    · rw [bif_pos (dec_t (by omega))]
      exact ⟨_, rfl⟩
  · rw [bif_pos (dec_t (by omega))]
    exact ⟨_, rfl⟩
end Go.Proofs.Ytjomnccladjpgaa

/-
  WalWhole's contract: it starts with no heap, and returns true.
-/
namespace Go.Proofs.Ytjomnccladjpgaa
open Go Go.RowKit
set_option linter.unusedVariables false
theorem law18w (p0 : List (List S_api_Write)) (p1 : List Int) (p2 : List (List UInt8)) (h0 : 0 ≤ p1.getD 0 0 ∧ p1.getD 0 0 ≤ 65535) (h1 : 0 ≤ p1.getD 1 0 ∧ p1.getD 1 0 ≤ 65535) : FC Try.prog 4 [.t (.d (.seq 1 (List.map (cSl 2 cS_api_Write) p0))), .t (.agg (ar (cInt .u16) (0 : Int) p1 0 2)), .t (.agg (ar (cSl 1 cU8) ([] : (List UInt8)) p2 0 2))] [] (.t (.d (.lit (.bool true)))) := by
  obtain ⟨w', h⟩ := n_WalWhole p0 p1 p2 h0 h1
  exact fc_of_h (fch_L18_WalWhole p0 p1 p2 Hp.e (true, w') h) (fun c => hpA_e c) rfl (by show 3 ≤ OB; decide)
end Go.Proofs.Ytjomnccladjpgaa

/-
  What came in: from the reading of the arguments to data.
-/
namespace Go.Proofs.Ytjomnccladjpgaa
open Go Go.RowKit Go.ChangeShapes Go.WideShapes Go.ChangeAt
set_option linter.unusedVariables false
set_option maxRecDepth 20000

/-- All that a world's cells hold. -/
def memW (w : World) : Mem := fun b p => w.cell? ⟨b, p, none⟩
theorem memW_sat (w : World) : ∀ b p u, memW w b p = some u → w.cell? ⟨b, p, none⟩ = some u := fun _ _ _ h => h

/-- What a type's cells are, as data. -/
def OpT {H : Type} (enc : TypeId × Value → H) (w : World) {α : Type} (t : TypeId) (c : α → List D) (ok : α → Prop) : Prop :=
  ∀ (base : Nat) (spare : Nat → Bool) (held : Bool) (fuel : Nat) (cs : List Value) (x : DataW H × List MemPlace), DataW.trod enc Try.prog w base spare held fuel t cs = some x → ∃ v : α, RepL (memW w) (c v) cs ∧ ok v
/-- .. read with less than so much fuel. -/
def OpF {H : Type} (enc : TypeId × Value → H) (w : World) {α : Type} (m : Nat) (t : TypeId) (c : α → List D) (ok : α → Prop) : Prop :=
  ∀ (base : Nat) (spare : Nat → Bool) (held : Bool) (fuel : Nat) (cs : List Value) (x : DataW H × List MemPlace), fuel < m → DataW.trod enc Try.prog w base spare held fuel t cs = some x → ∃ v : α, RepL (memW w) (c v) cs ∧ ok v
theorem OpT.lt {H : Type} {enc : TypeId × Value → H} {w : World} {α : Type} {t : TypeId} {c : α → List D} {ok : α → Prop} (h : OpT enc w t c ok) (m : Nat) : OpF enc w m t c ok := fun b s l f cs x _ k => h b s l f cs x k
theorem OpT.of {H : Type} {enc : TypeId × Value → H} {w : World} {α : Type} {t : TypeId} {c : α → List D} {ok : α → Prop} (h : ∀ m, OpF enc w m t c ok) : OpT enc w t c ok := fun b s l f cs x k => h (f + 1) b s l f cs x (Nat.lt_succ_self f) k

def okInt (k : IntKind) (n : Int) : Prop := (Lit.int k n).wf = true
def okAny {α : Type} (_ : α) : Prop := True
def okList {α : Type} (ok : α → Prop) (l : List α) : Prop := l.length ≤ 9223372036854775807 ∧ ∀ x ∈ l, ok x

theorem repl_one {m : Mem} {d : D} {u : Value} (h : RepD m d u) : RepL m [d] [u] := by
  refine ⟨rfl, fun j e hj => ?_⟩
  match j, hj with
  | 0, hj => injection hj with hj; subst hj; exact ⟨u, rfl, h⟩
  | j + 1, hj => simp at hj
theorem repl_cons {m : Mem} {l1 l2 : List D} {cs : List Value} {o k : Nat} (h1 : RepL m l1 ((cs.drop o).take k)) (h2 : RepL m l2 (cs.drop (o + k))) : RepL m (l1 ++ l2) (cs.drop o) := by
  have e : cs.drop o = (cs.drop o).take k ++ cs.drop (o + k) := by rw [← List.drop_drop, List.take_append_drop]
  rw [e]
  refine ⟨by rw [List.length_append, List.length_append, h1.1, h2.1], fun j d hj => ?_⟩
  rcases Nat.lt_or_ge j l1.length with hl | hl
  · rw [List.getElem?_append_left hl] at hj
    obtain ⟨u, a, b⟩ := h1.2 j d hj
    exact ⟨u, by rw [List.getElem?_append_left (by rw [h1.1]; exact hl)]; exact a, b⟩
  · rw [List.getElem?_append_right hl] at hj
    obtain ⟨u, a, b⟩ := h2.2 _ d hj
    exact ⟨u, by rw [List.getElem?_append_right (by rw [h1.1]; exact hl), h1.1]; exact a, b⟩
theorem repl_nil {m : Mem} {cs : List Value} {n : Nat} (h : cs.length = n) : RepL m [] (cs.drop n) := by
  rw [List.drop_of_length_le (by omega)]
  exact ⟨rfl, fun j d hj => by simp at hj⟩

section
variable {H : Type} {enc : TypeId × Value → H} {w : World}
theorem op_int {t : TypeId} {k : IntKind} (ht : Try.prog.underlying t = some (.int k)) : OpT enc w t (cInt k) (okInt k) := fun b s l f cs x h => by
  obtain ⟨n, rfl, _, hw⟩ := DataW.trod_int ht h
  exact ⟨n, repl_one (.lit _ rfl), hw⟩
theorem op_u8 {t : TypeId} (ht : Try.prog.underlying t = some (.int .u8)) : OpT enc w t cU8 okAny := fun b s l f cs x h => by
  obtain ⟨n, rfl, _, hw⟩ := DataW.trod_int ht h
  refine ⟨UInt8.ofNat n.toNat, repl_one ?_, trivial⟩
  have hr : 0 ≤ n ∧ n ≤ 255 := by
    simp [Lit.wf, IntKind.min, IntKind.max, IntKind.signed, IntKind.bits] at hw
    omega
  have : ((UInt8.ofNat n.toNat).toNat : Int) = n := by
    simp
    omega
  rw [this]
  exact .lit _ rfl
theorem some_list {α : Type} (P : Nat → α → Prop) : ∀ n : Nat, (∀ i, i < n → ∃ x, P i x) → ∃ l : List α, l.length = n ∧ ∀ i (h : i < l.length), P i l[i]
  | 0, _ => ⟨[], rfl, fun i h => absurd h (by simp)⟩
  | n + 1, h => by
    obtain ⟨l, hl, hp⟩ := some_list P n fun i hi => h i (by omega)
    obtain ⟨x, hx⟩ := h n (by omega)
    refine ⟨l ++ [x], by simp [hl], fun i hi => ?_⟩
    by_cases h1 : i < l.length
    · rw [List.getElem_append_left h1]; exact hp i h1
    · have : i = n := by simp at hi; omega
      subst this
      rw [List.getElem_append_right (by omega)]
      simpa [hl] using hx
theorem op_sliceF {α : Type} {t te : TypeId} {k m : Nat} {c : α → List D} {ok : α → Prop} (ht : Try.prog.underlying t = some (.slice te)) (hk : Try.prog.cellsOf te = k) (hk0 : 0 < k) (he : OpF enc w m te c ok) : OpF enc w (m + 1) t (cSl k c) (okList ok) := fun b s l f cs x hf h => by
  rcases DataW.trod_slice ht h with ⟨rfl, _⟩ | ⟨a, len, cap, elems, rest, n, hn, rfl, _, hba, hlc, hcm, hel, hev, _⟩
  · exact ⟨[], repl_one (RepD.nilSeq _ _), by simp, fun x hx => by cases hx⟩
  · have get : ∀ i, i < len → ∃ v : α, (∃ cs' : List Value, cs'.length = k ∧ (∀ j u, cs'[j]? = some u → w.cell? ((a.add (i * k)).add j) = some u) ∧ RepL (memW w) (c v) cs') ∧ ok v := by
      intro i hi
      have h1 := hev i hi
      obtain ⟨y, hy⟩ : ∃ y, elems[i]? = some y := ⟨elems[i], List.getElem?_eq_getElem (by omega)⟩
      rw [hy, hk] at h1
      obtain ⟨cs', hcs', ht'⟩ := Option.bind_eq_some_iff.1 h1
      obtain ⟨hc1, hc2, hc3⟩ := World.cells?_some hcs'
      obtain ⟨v, hrep, hok⟩ := he _ _ _ n cs' y (by omega) ht'
      refine ⟨v, ⟨cs', hc2, fun j u hu => ?_, hrep⟩, hok⟩
      have hjl : j < cs'.length := (List.getElem?_eq_some_iff.1 hu).1
      have hg := hc3 j (by omega)
      rw [hg, ← hu]
    by_cases h0 : len = 0
    · subst h0
      exact ⟨[], repl_one (.seq k [] _ cap 0 0 (fun _ _ => undef) (by simp) hcm (fun h => absurd rfl h) (fun i r h => by simp at h) (fun i r j d h => by simp at h) (fun i r j d h => by simp at h)), by simp, fun x hx => by cases hx⟩
    · have hs : a.spot = none := by
        obtain ⟨v, ⟨cs', hl4, hcell, _⟩, _⟩ := get 0 (by omega)
        have := World.cell?_spot (hcell 0 _ (List.getElem?_eq_getElem (by omega)))
        simpa [Addr.add] using this
      obtain ⟨g, o, sp⟩ := a
      simp only at hs
      subst hs
      obtain ⟨l, hll, hlp⟩ := some_list _ len get
      refine ⟨l, repl_one ?_, by unfold maxLen at hcm; omega, fun x hx => ?_⟩
      · have := RepD.seq (m := memW w) k (l.map c) (some ⟨g, o, none⟩) cap g o (fun i j => (memW w g (o + i * k + j)).getD undef) (by simp; omega) hcm (fun _ => rfl) (fun i r hi => ?_) (fun i r j d hi hj => ?_) (fun i r j d hi hj => ?_)
        · rwa [List.length_map, hll] at this
        all_goals
          rw [List.getElem?_map] at hi
          have hlt : i < l.length := by
            rcases Nat.lt_or_ge i l.length with g | g
            · exact g
            · rw [List.getElem?_eq_none g] at hi; cases hi
          rw [List.getElem?_eq_getElem hlt] at hi
          injection hi with hi
          subst hi
          obtain ⟨⟨cs', h1, h2, h3⟩, _⟩ := hlp i hlt
        · have := h3.1
          omega
        all_goals
          obtain ⟨u, k1, k2⟩ := h3.2 j d hj
          have k3 := h2 j u k1
          rw [Addr.add_mid, Addr.add_mid] at k3
          have k4 : memW w g (o + i * k + j) = some u := k3
          rw [k4]
        · rfl
        · exact k2
      · obtain ⟨i, hi, rfl⟩ := List.getElem_of_mem hx
        exact (hlp i hi).2
theorem op_slice {α : Type} {t te : TypeId} {k : Nat} {c : α → List D} {ok : α → Prop} (ht : Try.prog.underlying t = some (.slice te)) (hk : Try.prog.cellsOf te = k) (hk0 : 0 < k) (he : OpT enc w te c ok) : OpT enc w t (cSl k c) (okList ok) :=
  fun b s l f cs x h => op_sliceF ht hk hk0 (he.lt f) b s l f cs x (Nat.lt_succ_self f) h
end
/-- A law that returns true, called with what came in. -/
theorem fc_law {f : FuncId} {args : List A} (h : FC Try.prog f args [] (.t (.d (.lit (.bool true))))) {w : World} {vals : Array Value} (hs : vals.size = args.length) (hsat : ∀ b p u, memW w b p = some u → w.cell? ⟨b, p, none⟩ = some u) (hr : ∀ s, RepA (memW w) w (fun _ => none) (argS args) s (argS args s) (vals.getD s undef)) (htbl : Mle TBL (memW w) := by intro b p u h; simp [TBL, TBLS] at h) :
    Calls Try.prog f vals w fun e w' => e = .returned (.bool true) ∧ Below w.heap.size w w' := by
  refine (h w (memW w) (fun _ => none) vals hsat htbl (fun _ _ h => by cases h) (fun _ _ _ h => by cases h) hs hr).mono ?_
  rintro e w' ⟨u, m', o', S', a', ρ, rfl, J, hu, _⟩
  have hS : Same (fun _ => False) w w' := J.same.weaken fun g h => h rfl
  have hu : RepD m' (.lit (.bool true)) u := hu
  cases hu
  exact ⟨rfl, hS.below⟩
theorem repl_head {m : Mem} {d : D} {cs : List Value} (h : RepL m [d] cs) : ∃ u, cs = [u] ∧ RepD m d u := by
  match cs, h.1 with
  | [u], _ =>
    obtain ⟨v, h1, h2⟩ := h.2 0 d rfl
    injection h1 with h1
    subst h1
    exact ⟨_, rfl, h2⟩
end Go.Proofs.Ytjomnccladjpgaa

/-
  What came in: arrays of two elements, of one cell each.
-/
namespace Go.Proofs.Ytjomnccladjpgaa
open Go Go.RowKit Go.ChangeShapes Go.WideShapes Go.ChangeAt
set_option linter.unusedVariables false
set_option maxRecDepth 20000
def okArr2 {α : Type} (ok : α → Prop) (l : List α) : Prop := ∃ a b, l = [a, b] ∧ ok a ∧ ok b
theorem op_arr2 {H : Type} {enc : TypeId × Value → H} {w : World} {α : Type} {t te : TypeId} {c : α → List D} {z : α} {ok : α → Prop} (ht : Try.prog.underlying t = some (.array 2 te)) (hk : Try.prog.cellsOf te = 1) (hc : Try.prog.cellsOf t = 2) (he : OpT enc w te c ok) : OpT enc w t (fun l : List α => ar c z l 0 2) (okArr2 ok) := by
  intro base spare held fuel cs x h
  obtain ⟨xs, n, rfl, _, hl, hxl, hfd⟩ := DataW.trod_array ht h
  obtain ⟨y0, h0⟩ : ∃ y, xs[0]? = some y := ⟨xs[0], List.getElem?_eq_getElem (by omega)⟩
  have f0 := (hfd 0 (by omega)).trans h0
  rw [hk] at f0
  obtain ⟨v0, r0, o0⟩ := he _ _ _ _ _ _ f0
  obtain ⟨y1, h1⟩ : ∃ y, xs[1]? = some y := ⟨xs[1], List.getElem?_eq_getElem (by omega)⟩
  have f1 := (hfd 1 (by omega)).trans h1
  rw [hk] at f1
  obtain ⟨v1, r1, o1⟩ := he _ _ _ _ _ _ f1
  exact ⟨[v0, v1], (show RepL (memW w) (c v0 ++ (c v1 ++ [])) (cs.drop 0) from repl_cons (k := 1) r0 (repl_cons (k := 1) r1 (repl_nil (hl.trans hc)))), v0, v1, rfl, o0, o1⟩
theorem okWide_arr {P : Program} {w : World} {r : Reach} {base : Nat} {t e : TypeId} {n : Nat} {v : Value} (ht : P.underlying t = some (.array n e)) (h : Value.okWide P w r base t v) : ∃ cs, v = .agg cs := by
  simp only [Value.okWide, ht] at h
  obtain ⟨cs, h1, _⟩ := h
  exact ⟨cs, h1⟩
end Go.Proofs.Ytjomnccladjpgaa
