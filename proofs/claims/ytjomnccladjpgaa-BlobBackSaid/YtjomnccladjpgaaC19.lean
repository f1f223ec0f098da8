/-
  Texts joined: see the remark at the head of each part.
-/
import Derived.Test.YtjomnccladjpgaaC18
import Derived.Test.YtjomnccladjpgaaC13
set_option linter.unusedVariables false
set_option linter.unusedSimpArgs false
/-
  Plain: what a disk does.
-/
namespace Go.Proofs.Ytjomnccladjpgaa
open Go Go.RowKit
set_option linter.unusedVariables false
set_option linter.unusedSimpArgs false

abbrev pad (x : List UInt8) : List UInt8 := padA (0 : UInt8) x 0 64
theorem pad_len (x : List UInt8) : (pad x).length = 64 := padA_len x 64 0
theorem pad_id {x : List UInt8} (h : x.length = 64) : pad x = x := padA_id h

/-- A disk, plain. -/
structure Dsk where
  kept : List (List UInt8)
  now : List (List UInt8)
  wait : List S_disk_write
  fuse : Int
  off : Bool
  lives : Int

def apw (k : List (List UInt8)) (l : List S_disk_write) : List (List UInt8) := l.foldl (fun s w => s.set w.n_.toNat w.b_) k
theorem apw_snoc (k : List (List UInt8)) (l : List S_disk_write) (w : S_disk_write) : apw k (l ++ [w]) = (apw k l).set w.n_.toNat w.b_ := by simp [apw, List.foldl_append]

structure DIn (H : Hp) (i : Nat) (d : Dsk) : Prop where
  at_ : ∃ a b ks ns, a ≠ b ∧ H.dk[i]? = some ⟨(a, ks.length), (b, ns.length), d.wait, d.fuse, d.off, d.lives⟩ ∧ H.sec[a]? = some ks ∧ H.sec[b]? = some ns ∧ ks.map pad = d.kept ∧ ns.map pad = d.now
  len : d.kept.length = d.now.length
  wok : ∀ w ∈ d.wait, 0 ≤ w.n_ ∧ w.n_ < (d.now.length : Int) ∧ w.b_.length = 64
  same : d.now = apw d.kept d.wait

section
variable {H : Hp} {i : Nat} {d : Dsk}
theorem DIn.lg {H' : Hp} (h : DIn H i d) (h1 : H'.dk = H.dk) (h2 : H'.sec = H.sec) : DIn H' i d := by
  obtain ⟨h3, h4, h5, h6⟩ := h
  exact ⟨by rw [h1, h2]; exact h3, h4, h5, h6⟩
theorem DIn.row (h : DIn H i d) {k : Nat} {r : List UInt8} (hr : d.now[k]? = some r) : r.length = 64 := by
  obtain ⟨⟨a, b, ks, ns, hab, hd, hk, hn, ek, en⟩, _⟩ := h
  rw [← en, List.getElem?_map] at hr
  cases hq : ns[k]? with
  | none => rw [hq] at hr; cases hr
  | some y =>
    rw [hq] at hr
    injection hr with hr
    rw [← hr]
    exact pad_len y
theorem n_is (h : DIn H i d) (h0 : 0 < d.now.length) : m_disk_Disk_is (some i) H = some true := by
  obtain ⟨⟨a, b, ks, ns, hab, hd, hk, hn, ek, en⟩, _⟩ := h
  have hl : ns.length = d.now.length := by rw [← en, List.length_map]
  unfold m_disk_Disk_is
  show Option.bind (H.dk[i]?) _ = _
  rw [hd, Option.bind_some]
  show some (decide ((ns.length : Int) > 0)) = _
  rw [dec_t (by omega)]
theorem n_Size (h : DIn H i d) (h0 : 0 < d.now.length) : m_disk_Disk_Size (some i) H = some (d.now.length : Int) := by
  have hi := n_is h h0
  obtain ⟨⟨a, b, ks, ns, hab, hd, hk, hn, ek, en⟩, _⟩ := h
  have hl : ns.length = d.now.length := by rw [← en, List.length_map]
  unfold m_disk_Disk_Size
  rw [hi, Option.bind_some]
  show Option.bind (H.dk[i]?) _ = _
  rw [hd, Option.bind_some]
  show some (ns.length : Int) = _
  rw [hl]
theorem n_Off (h : DIn H i d) (h0 : 0 < d.now.length) : m_disk_Disk_Off (some i) H = some d.off := by
  have hi := n_is h h0
  obtain ⟨⟨a, b, ks, ns, hab, hd, hk, hn, ek, en⟩, _⟩ := h
  unfold m_disk_Disk_Off
  rw [hi, Option.bind_some]
  show Option.bind (H.dk[i]?) _ = _
  rw [hd, Option.bind_some]
theorem n_Lives (h : DIn H i d) (h0 : 0 < d.now.length) : m_disk_Disk_Lives (some i) H = some d.lives := by
  have hi := n_is h h0
  obtain ⟨⟨a, b, ks, ns, hab, hd, hk, hn, ek, en⟩, _⟩ := h
  unfold m_disk_Disk_Lives
  rw [hi, Option.bind_some]
  show Option.bind (H.dk[i]?) _ = _
  rw [hd, Option.bind_some]
theorem n_may (h : DIn H i d) (ho : d.off = false) {k : Nat} (hk : k < d.now.length) : m_disk_Disk_may (some i) (k : Int) H = some 0 := by
  have hi := n_is h (by omega)
  obtain ⟨⟨a, b, ks, ns, hab, hd, hk1, hn, ek, en⟩, _⟩ := h
  have hl : ns.length = d.now.length := by rw [← en, List.length_map]
  unfold m_disk_Disk_may
  rw [hi, Option.bind_some]
  show Option.bind (H.dk[i]?) _ = _
  rw [hd, Option.bind_some]
  show (bif d.off then _ else bif decide ((k : Int) < 0) then _ else bif decide ((k : Int) ≥ (ns.length : Int)) then _ else some 0) = _
  rw [ho, bif_neg rfl, bif_neg (dec_f (by omega)), bif_neg (dec_f (by omega))]
theorem n_burn {x : S_disk_Disk} (h : H.dk[i]? = some x) (hf : x.fuse_ < 0) : m_disk_Disk_burn (some i) H = some (false, H) := by
  unfold m_disk_Disk_burn
  show Option.bind (H.dk[i]?) _ = _
  rw [h, Option.bind_some, bif_pos (dec_t hf)]
theorem n_Read (h : DIn H i d) (ho : d.off = false) {k : Nat} {r : List UInt8} (hr : d.now[k]? = some r) : m_disk_Disk_Read (some i) (k : Int) H = some (r, 0) := by
  have hk : k < d.now.length := (List.getElem?_eq_some_iff.1 hr).1
  have hm := n_may h ho hk
  obtain ⟨⟨a, b, ks, ns, hab, hd, hk1, hn, ek, en⟩, _⟩ := h
  have hl : ns.length = d.now.length := by rw [← en, List.length_map]
  unfold m_disk_Disk_Read
  rw [hm, Option.bind_some, bif_neg (ine_f rfl)]
  show Option.bind (H.dk[i]?) _ = _
  rw [hd, Option.bind_some]
  show Option.bind (H.sec[b]?) _ = _
  rw [hn, Option.bind_some]
  unfold lenI
  rw [if_pos rfl, Option.bind_some, idx_nat (by omega), Option.bind_some]
  rw [← en, List.getElem?_map, List.getElem?_eq_getElem (by omega)] at hr
  injection hr with hr
  rw [← hr]
theorem n_Write (h : DIn H i d) (ho : d.off = false) (hf : d.fuse < 0) {k : Nat} (hk : k < d.now.length) {x : List UInt8} (hx : x.length = 64) (hw : d.wait.length < 1000000) :
    ∃ H', m_disk_Disk_Write (some i) (k : Int) x H = some (0, H') ∧ DIn H' i { d with now := d.now.set k x, wait := d.wait ++ [⟨k, x⟩] } ∧ H'.lg = H.lg := by
  have hm := n_may h ho hk
  obtain ⟨⟨a, b, ks, ns, hab, hd, hk1, hn, ek, en⟩, h4, h5, h6⟩ := h
  have hl : ns.length = d.now.length := by rw [← en, List.length_map]
  have hil : i < H.dk.length := (List.getElem?_eq_some_iff.1 hd).1
  have hbl : b < H.sec.length := (List.getElem?_eq_some_iff.1 hn).1
  let X : S_disk_Disk := ⟨(a, ks.length), (b, ns.length), d.wait ++ [⟨k, x⟩], d.fuse, d.off, d.lives⟩
  have g1 : ((H.st_dk i X).st_sec b (ns.set k x)).dk[i]? = some X := List.getElem?_set_self hil
  refine ⟨(H.st_dk i X).st_sec b (ns.set k x), ?_, ⟨⟨a, b, ks, ns.set k x, hab, ?_, ?_, ?_, ek, ?_⟩, ?_, ?_, ?_⟩, rfl⟩
  · unfold m_disk_Disk_Write
    rw [hm, Option.bind_some, bif_neg (ine_f rfl), bif_neg (ine_f (by omega))]
    have e1 : s2aI 64 x = some x := by
      unfold s2aI
      rw [if_pos (by omega), List.take_of_length_le (by omega)]
    rw [e1, Option.bind_some]
    show Option.bind (H.dk[i]?) _ = _
    rw [hd, Option.bind_some, appI_ok (by show (d.wait.length + _) * _ ≤ _; simp; omega), Option.bind_some]
    show Option.bind (H.sec[b]?) _ = _
    rw [hn, Option.bind_some]
    unfold lenI
    rw [if_pos rfl, Option.bind_some, idx_nat (by omega), Option.bind_some]
    show Option.bind (m_disk_Disk_burn (some i) ((H.st_dk i X).st_sec b (ns.set k x))) _ = _
    rw [n_burn g1 hf]
    rfl
  · rw [g1, List.length_set]
  · show (H.sec.set b _)[a]? = _
    rw [List.getElem?_set_ne (fun e => hab e.symm), hk1]
  · exact List.getElem?_set_self hbl
  · show _ = d.now.set k x
    rw [List.map_set, en, pad_id hx]
  · show d.kept.length = (d.now.set k x).length
    rw [List.length_set, h4]
  · intro w hw
    show 0 ≤ w.n_ ∧ w.n_ < ((d.now.set k x).length : Int) ∧ _
    rw [List.length_set]
    rcases List.mem_append.1 hw with hw | hw
    · exact h5 w hw
    · rw [List.mem_singleton.1 hw]
      exact ⟨by show (0 : Int) ≤ (k : Int); omega, by show (k : Int) < _; omega, hx⟩
  · show d.now.set k x = apw d.kept (d.wait ++ [⟨k, x⟩])
    rw [apw_snoc, ← h6]
    rfl
theorem n_Flush_l2 {a b : Nat} (hab : a ≠ b) {X : S_disk_Disk} {L : Nat} (hXk : X.kept_ = (a, L)) (hw : ∀ w ∈ X.wait_, 0 ≤ w.n_ ∧ w.n_ < (L : Int) ∧ w.b_.length = 64) (hwl : X.wait_.length < 4611686018427387904) (i : Nat) (ns : List (List UInt8)) : ∀ (n j : Nat) (H : Hp) (ks : List (List UInt8)), j ≤ X.wait_.length → X.wait_.length - j < n → H.dk[i]? = some X → H.sec[a]? = some ks → H.sec[b]? = some ns → ks.length = L →
    ∃ H' ks', m_disk_Disk_Flush_l2 X i (some i) n (j : Int) H = some (0, H') ∧ H'.dk[i]? = some ⟨X.kept_, X.now_, [], X.fuse_, X.off_, X.lives_⟩ ∧ H'.sec[a]? = some ks' ∧ H'.sec[b]? = some ns ∧ ks'.map pad = apw (ks.map pad) (X.wait_.drop j) ∧ H'.lg = H.lg ∧ ks'.length = L
  | 0, j, _, _, _, h, _, _, _, _ => by omega
  | n + 1, j, H, ks, hj, h, hd, hk, hn, hL => by
    unfold m_disk_Disk_Flush_l2
    by_cases hlt : j < X.wait_.length
    · obtain ⟨h1, h2, h3⟩ := hw _ (List.getElem_mem hlt)
      have hal : a < H.sec.length := (List.getElem?_eq_some_iff.1 hk).1
      rw [bif_pos (dec_t (by omega)), idx_nat hlt, Option.bind_some]
      show ∃ H' ks', Option.bind (H.dk[i]?) _ = _ ∧ _
      rw [hd, Option.bind_some]
      have e1 : Hp.ge_sec H X.kept_.1 = some ks := by rw [hXk]; exact hk
      rw [e1, Option.bind_some]
      have e2 : lenI ks.length X.kept_.2 = some () := by
        unfold lenI
        rw [hXk, if_pos hL]
      rw [e2, Option.bind_some]
      have e3 : idx ks X.wait_[j].n_ = some (ks[X.wait_[j].n_.toNat]'(by omega)) := by
        have := idx_nat (l := ks) (i := X.wait_[j].n_.toNat) (by omega)
        rwa [Int.toNat_of_nonneg h1] at this
      rw [e3, Option.bind_some, wi_succ (by omega)]
      have hk' : (H.st_sec X.kept_.1 (ks.set X.wait_[j].n_.toNat X.wait_[j].b_)).sec[a]? = some (ks.set X.wait_[j].n_.toNat X.wait_[j].b_) := by
        rw [hXk]
        exact List.getElem?_set_self hal
      have hn' : (H.st_sec X.kept_.1 (ks.set X.wait_[j].n_.toNat X.wait_[j].b_)).sec[b]? = some ns := by
        rw [hXk]
        show (H.sec.set a _)[b]? = _
        rw [List.getElem?_set_ne hab, hn]
      obtain ⟨H', ks', g1, g2, g3, g4, g5, g6, g7⟩ := n_Flush_l2 hab hXk hw hwl i ns n (j + 1) (H.st_sec X.kept_.1 (ks.set X.wait_[j].n_.toNat X.wait_[j].b_)) _ (by omega) (by omega) (show _ from hd) hk' hn' (by rw [List.length_set, hL])
      refine ⟨H', ks', g1, g2, g3, g4, ?_, g6, g7⟩
      rw [g5, List.drop_eq_getElem_cons hlt, List.map_set, pad_id h3]
      rfl
    · have e : j = X.wait_.length := by omega
      subst e
      rw [bif_neg (dec_f (by omega))]
      unfold m_disk_Disk_Flush_j1
      show ∃ H' ks', Option.bind (H.dk[i]?) _ = _ ∧ _
      rw [hd, Option.bind_some]
      refine ⟨_, ks, rfl, ?_, hk, hn, ?_, rfl, hL⟩
      · exact List.getElem?_set_self (List.getElem?_eq_some_iff.1 hd).1
      · rw [List.drop_length]
        rfl
theorem n_Flush (h : DIn H i d) (ho : d.off = false) (hf : d.fuse < 0) (h0 : 0 < d.now.length) (hw : d.wait.length < 1000000) :
    ∃ H', m_disk_Disk_Flush (some i) H = some (0, H') ∧ DIn H' i { d with kept := d.now, wait := [] } ∧ H'.lg = H.lg := by
  have hm := n_may h ho h0
  obtain ⟨⟨a, b, ks, ns, hab, hd, hk1, hn, ek, en⟩, h4, h5, h6⟩ := h
  have hl : ns.length = d.now.length := by rw [← en, List.length_map]
  have hl2 : ks.length = d.kept.length := by rw [← ek, List.length_map]
  unfold m_disk_Disk_Flush
  rw [show ((0 : Nat) : Int) = 0 from rfl] at hm
  rw [hm, Option.bind_some, bif_neg (ine_f rfl), n_burn hd hf, Option.bind_some, bif_neg rfl]
  show ∃ H', Option.bind (H.dk[i]?) _ = _ ∧ _
  rw [hd, Option.bind_some]
  obtain ⟨H', ks', g1, g2, g3, g4, g5, g6, g7⟩ := n_Flush_l2 hab (X := ⟨(a, ks.length), (b, ns.length), d.wait, d.fuse, d.off, d.lives⟩) (L := ks.length) rfl (fun w hw => by have := h5 w hw; exact ⟨this.1, by omega, this.2.2⟩) (by show d.wait.length < _; omega) i ns (d.wait.length + 1) 0 H ks (Nat.zero_le _) (by show d.wait.length - 0 < _; omega) hd hk1 hn rfl
  have e : ks'.map pad = d.now := by
    rw [g5, ek, h6]
    rfl
  exact ⟨H', g1, ⟨⟨a, b, ks', ns, hab, by rw [g2, g7], g3, g4, e, en⟩, rfl, fun w hw => absurd hw List.not_mem_nil, rfl⟩, g6⟩
theorem n_New {H : Hp} {n : Nat} (h1 : 1 ≤ n) (h2 : n ≤ 16384) : ∃ H', m_disk_New (n : Int) H = some (some H.dk.length, 0, H') ∧ DIn H' H.dk.length ⟨List.replicate n (List.replicate 64 0), List.replicate n (List.replicate 64 0), [], -1, false, 0⟩ ∧ H'.lg = H.lg := by
  have e : mkI 64 (n : Int) = some n := by
    unfold mkI
    rw [if_pos ⟨by omega, by omega, by omega⟩, Int.toNat_natCast]
  have hp : (List.replicate n ([] : List UInt8)).map pad = List.replicate n (List.replicate 64 0) := by
    rw [List.map_replicate]
    rfl
  unfold m_disk_New
  rw [bif_neg (dec_f (by omega)), bif_neg (dec_f (by omega)), e, Option.bind_some, Option.bind_some]
  refine ⟨_, rfl, ⟨⟨H.sec.length, H.sec.length + 1, List.replicate n [], List.replicate n [], by omega, ?_, ?_, ?_, hp, hp⟩, rfl, fun w hw => absurd hw List.not_mem_nil, rfl⟩, rfl⟩
  · show (H.dk ++ [_])[H.dk.length]? = _
    simp [Hp.ln_sec, Hp.nw_sec]
  · show (H.sec ++ [List.replicate n []] ++ [List.replicate n []])[H.sec.length]? = _
    simp
  · show (H.sec ++ [List.replicate n []] ++ [List.replicate n []])[H.sec.length + 1]? = _
    simp
end
end Go.Proofs.Ytjomnccladjpgaa

/-
  Plain: what a log does.
-/
namespace Go.Proofs.Ytjomnccladjpgaa
open Go Go.RowKit
set_option linter.unusedVariables false
set_option linter.unusedSimpArgs false

/-! ### Held against each other -/
theorem n_pair {α : Type} (a b : List α) (ha : a.length < 4611686018427387904) (eq : α → α → Option Bool) (F : Nat → Int → Option Bool)
    (hF : ∀ n z, F (n + 1) z = bif decide (z < (a.length : Int)) then (Option.bind (idx a z) fun x => Option.bind (idx b z) fun y => Option.bind (eq x y) fun e => bif (!e) then some false else F n (wi (z + 1))) else some true)
    (heq : ∀ x ∈ a, ∀ y, ∃ r, eq x y = some r ∧ (r = true ↔ x = y)) [DecidableEq α] : (bif ((a.length : Int) != (b.length : Int)) then some false else F (a.length + 1) 0) = some (decide (a = b)) := by
  by_cases hl : a.length = b.length
  · rw [bif_neg (ine_f (by omega))]
    obtain ⟨r, h1, h2⟩ := pair_loop a b hl ha eq F hF heq (a.length + 1) 0 (by omega) (by omega)
    rw [show ((0 : Nat) : Int) = 0 from rfl] at h1
    rw [h1]
    congr 1
    rw [Bool.eq_iff_iff, h2, decide_eq_true_iff]
    rfl
  · rw [bif_pos (ine_t (by omega)), decide_eq_false (fun e => hl (by rw [e]))]
theorem n_Equal (a b : List UInt8) (ha : a.length < 4611686018427387904) : m_slices_Equal_byte a b = some (decide (a = b)) :=
  n_pair a b ha (fun x y => some ((x.toNat : Int) == (y.toNat : Int))) (m_slices_Equal_byte_l1 a b) (fun n z => rfl) fun x _ y => ⟨_, rfl, by rw [beq_iff_eq, ← UInt8.toNat_inj]; omega⟩

/-! ### An entry read -/
def atE (st : Nat) (r : List UInt8) : S_wal_entry := ⟨((r.headD 0).toNat : Int), (ofBE ((r.drop 1).take 4) : Int), (r.drop 5).take 32, decide (r = entryB (r.headD 0).toNat (ofBE ((r.drop 1).take 4)) ((r.drop 5).take 32) st)⟩
theorem atE_bad {st : Nat} {r : List UInt8} (h : ¬ Valid st r) (hr : r.length = 64) : (atE st r).ok_ = false := by
  refine decide_eq_false fun e => h ?_
  rw [e]
  exact valid_entry (by rw [List.length_take]; omega)
theorem valid_end {st : Nat} {r : List UInt8} (h : Valid st r) : r.drop 56 = be 8 st := by
  obtain ⟨h0, s, t, rfl, hl, hz, hs, ht⟩ := h
  rw [← List.append_assoc, List.drop_left' (by simp [hl, hs, be_length]), ht]

/-! ### A log -/
structure LIn (H : Hp) (i j : Nat) (d : Dsk) (s base slot used : Nat) (com : Int) : Prop where
  dsk : DIn H i d
  off : d.off = false
  lg : H.lg[j]? = some ⟨some i, s, base, slot, used, d.lives, com⟩
  s3 : 3 ≤ s
  sl : 2 + s < d.now.length
  ln : d.now.length ≤ 16384
  bs : base + s ≤ 2305843009213693952
/-- The same, and the disk's fuse does not burn. -/
structure WIn (H : Hp) (i j : Nat) (d : Dsk) (s base slot used : Nat) (com : Int) : Prop extends LIn H i j d s base slot used com where
  fuse : d.fuse < 0
section
variable {H : Hp} {i j : Nat} {d : Dsk} {s base slot used : Nat} {com : Int}
theorem n_alive (h : LIn H i j d s base slot used com) : m_wal_Log_alive (some j) H = some 0 := by
  have := h.sl
  have h0 : 0 < d.now.length := by omega
  have hx := h.lg
  unfold m_wal_Log_alive
  show Option.bind (H.lg[j]?) _ = _
  rw [hx, Option.bind_some]
  show m_wal_Log_alive_j1 (some j) H false = _
  unfold m_wal_Log_alive_j1
  rw [bif_neg rfl]
  show Option.bind (H.lg[j]?) _ = _
  rw [hx, Option.bind_some]
  show Option.bind (m_disk_Disk_Off (some i) H) _ = _
  rw [n_Off h.dsk h0, Option.bind_some, h.off, bif_neg rfl]
  show Option.bind (m_disk_Disk_Lives (some i) H) _ = _
  rw [n_Lives h.dsk h0, Option.bind_some, bif_neg (ine_f rfl)]
theorem n_Homes (h : LIn H i j d s base slot used com) : m_wal_Log_Homes (some j) H = some ((d.now.length - 2 - s : Nat) : Int) := by
  have := h.sl
  have := h.ln
  unfold m_wal_Log_Homes
  show Option.bind (H.lg[j]?) _ = _
  rw [h.lg, Option.bind_some]
  show Option.bind (m_disk_Disk_Size (some i) H) _ = _
  rw [n_Size h.dsk (by omega), Option.bind_some]
  show some (wi (wi ((d.now.length : Int) - 2) - (s : Int))) = _
  rw [wi_id (z := (d.now.length : Int) - 2) (by omega) (by omega), wi_id (by omega) (by omega)]
  congr 1
  omega
theorem n_home (h : LIn H i j d s base slot used com) (k : Nat) (hk : k ≤ 100000) : m_wal_Log_home (some j) (k : Int) H = some ((2 + s + k : Nat) : Int) := by
  have := h.sl
  have := h.ln
  unfold m_wal_Log_home
  show Option.bind (H.lg[j]?) _ = _
  rw [h.lg, Option.bind_some]
  show some (wi (wi (2 + (s : Int)) + (k : Int))) = _
  rw [wi_id (z := 2 + (s : Int)) (by omega) (by omega), wi_id (by omega) (by omega)]
  congr 1
theorem n_LRead (h : LIn H i j d s base slot used com) {k : Nat} {r : List UInt8} (hr : d.now[2 + s + k]? = some r) : m_wal_Log_Read (some j) (k : Int) H = some (r, 0) := by
  have := h.ln
  have := h.sl
  have hk : 2 + s + k < d.now.length := (List.getElem?_eq_some_iff.1 hr).1
  unfold m_wal_Log_Read
  rw [n_alive h, Option.bind_some, bif_neg (ine_f rfl), bif_neg (dec_f (by omega)), n_Homes h, Option.bind_some, bif_neg (dec_f (by omega))]
  show Option.bind (H.lg[j]?) _ = _
  rw [h.lg, Option.bind_some, n_home h k (by omega), Option.bind_some]
  show Option.bind (m_disk_Disk_Read (some i) ((2 + s + k : Nat) : Int) H) _ = _
  rw [n_Read h.dsk h.off hr]
  rfl
theorem n_at (h : LIn H i j d s base slot used com) {p : Nat} {r : List UInt8} (hp : p < s) (hr : d.now[2 + p]? = some r) : m_wal_Log_at (some j) (p : Int) H = some (atE (base + p) r) := by
  have := h.ln
  have := h.sl
  have := h.bs
  have hl := h.dsk.row hr
  unfold m_wal_Log_at
  show Option.bind (H.lg[j]?) _ = _
  rw [h.lg, Option.bind_some]
  show (bif decide ((p : Int) ≥ (s : Int)) then _ else _) = _
  rw [bif_neg (dec_f (by omega)), wi_id (z := 2 + (p : Int)) (by omega) (by omega)]
  show Option.bind (m_disk_Disk_Read (some i) (2 + (p : Int)) H) _ = _
  rw [show 2 + (p : Int) = ((2 + p : Nat) : Int) by omega, n_Read h.dsk h.off hr, Option.bind_some, bif_neg (ine_f rfl)]
  have e0 : idx r 0 = some (r.headD 0) := by
    cases r with
    | nil => cases hl
    | cons x t => rfl
  have e1 : cutI r 5 37 = some ((r.drop 5).take 32) := cutI_mid (l := r) (lo := 5) (n := 32) (by omega) 37 rfl
  have e2 : cutI r 1 5 = some ((r.drop 1).take 4) := cutI_mid (l := r) (lo := 1) (n := 4) (by omega) 5 rfl
  have g := getN_4 (b := (r.drop 1).take 4) (by simp; omega)
  have hb := ofBE_lt 4 ((r.drop 1).take 4) (by simp; omega)
  show Option.bind (idx r 0) _ = _
  rw [e0, Option.bind_some]
  show Option.bind (cutI r 5 37) _ = _
  rw [e1, Option.bind_some]
  show Option.bind (cutI r 1 5) _ = _
  rw [e2, Option.bind_some, n_Get, Option.bind_some, g.1, g.2]
  show Option.bind (m_wal_entry_bytes ⟨((r.headD 0).toNat : Int), (ofBE ((r.drop 1).take 4) : Int), (r.drop 5).take 32, false⟩ (wi ((base : Int) + (p : Int)))) _ = _
  rw [wi_id (z := (base : Int) + (p : Int)) (by omega) (by omega), show (base : Int) + (p : Int) = ((base + p : Nat) : Int) by omega]
  rw [n_bytes (by have := (r.headD 0).toNat_lt; omega) (by omega) (by simp; omega) (by omega), Option.bind_some]
  show Option.bind (m_slices_Equal_byte r _) _ = _
  rw [n_Equal r _ (by omega)]
  rfl
/-! ### What the entries say -/
/-- Writes that a log takes. -/
def Good (s n : Nat) (ws : List S_api_Write) : Prop := ∀ w ∈ ws, 0 ≤ w.Home ∧ w.Home < ((n - 2 - s : Nat) : Int) ∧ w.Data.length = 64
/-- What stands at the places of the log: entries of ws up to the T-th. -/
structure Stand (H : Hp) (j : Nat) (ws : List S_api_Write) (T : Nat) : Prop where
  a : ∀ k (hk : k < ws.length), 2 * k < T → m_wal_Log_at (some j) ((2 * k : Nat) : Int) H = some ⟨1, ws[k].Home, ws[k].Data.take 32, true⟩
  b : ∀ k (hk : k < ws.length), 2 * k + 1 < T → m_wal_Log_at (some j) ((2 * k + 1 : Nat) : Int) H = some ⟨2, ws[k].Home, ws[k].Data.drop 32, true⟩
  c : 2 * ws.length < T → m_wal_Log_at (some j) ((2 * ws.length : Nat) : Int) H = some ⟨3, ws.length, List.replicate 32 0, true⟩
  t : ∃ e, m_wal_Log_at (some j) (T : Int) H = some e ∧ e.ok_ = false
theorem n_says_none (h : LIn H i j d s base slot used com) (hs : ∃ e, m_wal_Log_at (some j) 0 H = some e ∧ e.ok_ = false) : m_wal_Log_says (some j) H = some [] := by
  obtain ⟨e, e1, e2⟩ := hs
  unfold m_wal_Log_says
  show m_wal_Log_says_l1 (some j) H (16399 + 1) [] 0 = _
  unfold m_wal_Log_says_l1
  have g : m_wal_Log_one (some j) 0 H = some ([], 0) := by
    unfold m_wal_Log_one
    show m_wal_Log_one_l1 (some j) H 0 (16399 + 1) [] 0 = _
    unfold m_wal_Log_one_l1
    rw [e1, Option.bind_some, e2]
    rfl
  rw [g, Option.bind_some]
  rfl
end
end Go.Proofs.Ytjomnccladjpgaa

/-
  Plain: what a log does: redo, commit, checkpoint, format, open.
-/
namespace Go.Proofs.Ytjomnccladjpgaa
open Go Go.RowKit
set_option linter.unusedVariables false
set_option linter.unusedSimpArgs false

section
variable {H : Hp} {i j : Nat} {d : Dsk} {s base slot used : Nat} {com : Int}
theorem WIn.wr (h : WIn H i j d s base slot used com) {k : Nat} (hk : k < d.now.length) {x : List UInt8} (hx : x.length = 64) (hw : d.wait.length < 1000000) :
    ∃ H', m_disk_Disk_Write (some i) (k : Int) x H = some (0, H') ∧ WIn H' i j { d with now := d.now.set k x, wait := d.wait ++ [⟨k, x⟩] } s base slot used com := by
  obtain ⟨H', e1, e2, e3⟩ := n_Write h.dsk h.off h.fuse hk hx hw
  refine ⟨H', e1, ⟨e2, h.off, by rw [e3]; exact h.lg, h.s3, ?_, ?_, h.bs⟩, h.fuse⟩
  · show _ < (d.now.set k x).length
    rw [List.length_set]; exact h.sl
  · show (d.now.set k x).length ≤ _
    rw [List.length_set]; exact h.ln
theorem WIn.fl (h : WIn H i j d s base slot used com) (hw : d.wait.length < 1000000) :
    ∃ H', m_disk_Disk_Flush (some i) H = some (0, H') ∧ WIn H' i j { d with kept := d.now, wait := [] } s base slot used com := by
  have := h.sl
  obtain ⟨H', e1, e2, e3⟩ := n_Flush h.dsk h.off h.fuse (by omega) hw
  exact ⟨H', e1, ⟨e2, h.off, by rw [e3]; exact h.lg, h.s3, h.sl, h.ln, h.bs⟩, h.fuse⟩
theorem WIn.jl (h : WIn H i j d s base slot used com) : j < H.lg.length := (List.getElem?_eq_some_iff.1 h.lg).1

/-! ### redo -/
def rd (s : Nat) (now : List (List UInt8)) (ws : List S_api_Write) : List (List UInt8) := ws.foldl (fun t w => t.set (2 + s + w.Home.toNat) w.Data) now
theorem n_redo_l1 {ws : List S_api_Write} (hwl : ws.length ≤ 100000) : ∀ (n z : Nat) (H : Hp) (d : Dsk), WIn H i j d s base slot used com → Good s d.now.length ws → d.wait.length + (ws.length - z) ≤ 200000 → z ≤ ws.length → ws.length - z < n →
    ∃ H' d', m_wal_Log_redo_l1 ws (some j) n (z : Int) H = some (0, H') ∧ WIn H' i j d' s base slot used com ∧ d'.now = rd s d.now (ws.drop z) ∧ d'.kept = d.kept ∧ d'.wait.length ≤ d.wait.length + (ws.length - z) ∧ d'.lives = d.lives
  | 0, z, _, _, _, _, _, _, h => by omega
  | n + 1, z, H, d, h, hg, hw, hz, hn => by
    have := h.ln
    have := h.sl
    unfold m_wal_Log_redo_l1
    by_cases hlt : z < ws.length
    · obtain ⟨w1, w2, w3⟩ := hg _ (List.getElem_mem hlt)
      have hH : ws[z].Home = (ws[z].Home.toNat : Int) := (Int.toNat_of_nonneg w1).symm
      have hb : 2 + s + ws[z].Home.toNat < d.now.length := by omega
      rw [bif_pos (dec_t (by omega)), idx_nat hlt, Option.bind_some]
      show ∃ H' d', Option.bind (H.lg[j]?) _ = _ ∧ _
      rw [h.lg, Option.bind_some]
      have e1 : m_wal_Log_home (some j) ws[z].Home H = some ((2 + s + ws[z].Home.toNat : Nat) : Int) := by
        have := n_home h.toLIn ws[z].Home.toNat (by omega)
        rwa [← hH] at this
      rw [e1, Option.bind_some]
      obtain ⟨H1, g1, g2⟩ := h.wr hb w3 (by omega)
      show ∃ H' d', Option.bind (m_disk_Disk_Write (some i) ((2 + s + ws[z].Home.toNat : Nat) : Int) ws[z].Data H) _ = _ ∧ _
      rw [g1, Option.bind_some, bif_neg (by rfl), wi_succ (by omega)]
      obtain ⟨H', d', k1, k2, k3, k4, k5, k6⟩ := n_redo_l1 hwl n (z + 1) H1 _ g2 (by show Good s (d.now.set _ _).length ws; rw [List.length_set]; exact hg) (by show (d.wait ++ [_]).length + _ ≤ _; simp; omega) (by omega) (by omega)
      refine ⟨H', d', k1, k2, ?_, k4, ?_, k6⟩
      · rw [k3, List.drop_eq_getElem_cons hlt]
        rfl
      · have k5' : d'.wait.length ≤ (d.wait ++ [_]).length + (ws.length - (z + 1)) := k5
        simp at k5'
        omega
    · have e : z = ws.length := by omega
      subst e
      rw [bif_neg (dec_f (by omega))]
      exact ⟨H, d, rfl, h, by rw [List.drop_length]; rfl, rfl, by omega, rfl⟩
theorem n_redo {ws : List S_api_Write} (h : WIn H i j d s base slot used com) (hwl : ws.length ≤ 100000) (hg : Good s d.now.length ws) (hw : d.wait.length ≤ 100000) :
    ∃ H' d', m_wal_Log_redo (some j) ws H = some (0, H') ∧ WIn H' i j d' s base slot used com ∧ d'.now = rd s d.now ws ∧ d'.kept = d.kept ∧ d'.wait.length ≤ d.wait.length + ws.length ∧ d'.lives = d.lives :=
  n_redo_l1 hwl (ws.length + 1) 0 H d h hg (by omega) (by omega) (by omega)

/-! ### raise, Checkpoint -/
theorem n_raise (h : WIn H i j d s base slot used com) (hs : slot ≤ 1) (hb : base + s + s ≤ 2305843009213693952) (hw : d.wait.length < 999999) :
    ∃ H' d', m_wal_Log_raise (some j) H = some (0, H') ∧ WIn H' i j d' s (base + s) (1 - slot) 0 com ∧ d'.now = d.now.set (1 - slot) (slotB (base + s) s) ∧ d'.kept = d'.now ∧ d'.wait = [] ∧ d'.lives = d.lives := by
  have := h.sl
  have := h.ln
  unfold m_wal_Log_raise
  show ∃ H' d', Option.bind (H.lg[j]?) _ = _ ∧ _
  rw [h.lg, Option.bind_some]
  show ∃ H' d', Option.bind (m_wal_slotBytes (wi ((base : Int) + (s : Int))) (s : Int)) _ = _ ∧ _
  rw [wi_id (z := (base : Int) + (s : Int)) (by omega) (by omega), show (base : Int) + (s : Int) = ((base + s : Nat) : Int) by omega, n_slotBytes (by omega) (by omega), Option.bind_some]
  obtain ⟨H1, g1, g2⟩ := h.wr (k := 1 - slot) (by omega) (slotB_len (base + s) s) (by omega)
  show ∃ H' d', Option.bind (m_disk_Disk_Write (some i) (wi (1 - (slot : Int))) (slotB (base + s) s) H) _ = _ ∧ _
  rw [wi_id (z := 1 - (slot : Int)) (by omega) (by omega), show 1 - (slot : Int) = ((1 - slot : Nat) : Int) by omega, g1, Option.bind_some, bif_neg (by rfl)]
  show ∃ H' d', Option.bind (H1.lg[j]?) _ = _ ∧ _
  rw [g2.lg, Option.bind_some]
  obtain ⟨H2, k1, k2⟩ := g2.fl (by show (d.wait ++ [_]).length < _; simp; omega)
  show ∃ H' d', Option.bind (m_disk_Disk_Flush (some i) H1) _ = _ ∧ _
  rw [k1, Option.bind_some, bif_neg (by rfl)]
  show ∃ H' d', Option.bind (H2.lg[j]?) _ = _ ∧ _
  rw [k2.lg, Option.bind_some]
  refine ⟨_, _, rfl, ⟨⟨k2.dsk.lg rfl rfl, k2.off, ?_, h.s3, k2.sl, k2.ln, by omega⟩, k2.fuse⟩, rfl, rfl, rfl, rfl⟩
  have hj := k2.jl
  show (((H2.lg.set j _).set j _).set j _)[j]? = _
  rw [List.getElem?_set_self (by simp; omega)]
  show some (S_wal_Log.mk _ _ (wi ((base : Int) + (s : Int))) _ _ _ _) = _
  rw [wi_id (z := (base : Int) + (s : Int)) (by omega) (by omega), show (base : Int) + (s : Int) = ((base + s : Nat) : Int) by omega]
  rfl
theorem n_Checkpoint (h : WIn H i j d s base slot used com) (hs : slot ≤ 1) (hb : base + s + s ≤ 2305843009213693952) (hw : d.wait.length < 999999) :
    ∃ H' d', m_wal_Log_Checkpoint (some j) H = some (0, H') ∧ WIn H' i j d' s (base + s) (1 - slot) 0 com ∧ d'.now = d.now.set (1 - slot) (slotB (base + s) s) ∧ d'.kept = d'.now ∧ d'.wait = [] ∧ d'.lives = d.lives := by
  have := h.sl
  have := h.ln
  unfold m_wal_Log_Checkpoint
  rw [n_alive h.toLIn, Option.bind_some, bif_neg (by rfl)]
  show ∃ H' d', Option.bind (H.lg[j]?) _ = _ ∧ _
  rw [h.lg, Option.bind_some]
  show ∃ H' d', (bif decide ((base : Int) > wi (2305843009213693952 - (s : Int))) then _ else _) = _ ∧ _
  rw [wi_id (z := 2305843009213693952 - (s : Int)) (by omega) (by omega), bif_neg (dec_f (by omega))]
  obtain ⟨H1, g1, g2⟩ := h.fl (by omega)
  show ∃ H' d', Option.bind (m_disk_Disk_Flush (some i) H) _ = _ ∧ _
  rw [g1, Option.bind_some, bif_neg (by rfl)]
  obtain ⟨H', d', k1, k2, k3, k4, k5, k6⟩ := n_raise g2 hs hb (by show ([] : List S_disk_write).length < _; simp)
  show ∃ H' d', Option.bind (m_wal_Log_raise (some j) H1) _ = _ ∧ _
  rw [k1, Option.bind_some]
  exact ⟨H', d', rfl, k2, k3, k4, k5, k6⟩

/-! ### Commit -/
/-! ### Format -/
abbrev Z64 : List UInt8 := List.replicate 64 0
theorem n_Format_l2 {n s : Nat} (hn : n ≤ 16384) (hs : 2 + s < n) : ∀ (m z : Nat) (H : Hp) (d : Dsk), DIn H i d → d.off = false → d.fuse < 0 → d.now = List.replicate n Z64 → d.wait.length + (2 + s - z) ≤ 200000 → z ≤ 2 + s → 2 + s - z < m →
    ∃ H' d', m_wal_Format_l2 (s : Int) (some i) m (z : Int) H = m_wal_Format_j1 (some i) (s : Int) H' ∧ DIn H' i d' ∧ d'.off = false ∧ d'.fuse < 0 ∧ d'.now = List.replicate n Z64 ∧ d'.wait.length ≤ 200000 ∧ d'.lives = d.lives ∧ H'.lg = H.lg
  | 0, z, _, _, _, _, _, _, _, _, h => by omega
  | m + 1, z, H, d, h, ho, hf, hnow, hw, hz, hm => by
    unfold m_wal_Format_l2
    rw [wi_id (z := 2 + (s : Int)) (by omega) (by omega)]
    by_cases hlt : z < 2 + s
    · rw [bif_pos (dec_t (by omega))]
      obtain ⟨H1, g1, g2, g3⟩ := n_Write h ho hf (k := z) (x := Z64) (by rw [hnow, List.length_replicate]; omega) (by simp) (by omega)
      show ∃ H' d', Option.bind (m_disk_Disk_Write (some i) (z : Int) Z64 H) _ = _ ∧ _
      rw [g1, Option.bind_some, bif_neg (by rfl), wi_succ (by omega)]
      obtain ⟨H', d', k1, k2, k3, k4, k5, k6, k7, k8⟩ := n_Format_l2 hn hs m (z + 1) H1 _ g2 ho hf (by show d.now.set z Z64 = _; rw [hnow, List.set_replicate_self]) (by show (d.wait ++ [_]).length + _ ≤ _; simp; omega) (by omega) (by omega)
      exact ⟨H', d', k1, k2, k3, k4, k5, k6, k7, by rw [k8, g3]⟩
    · rw [bif_neg (dec_f (by omega))]
      exact ⟨H, d, rfl, h, ho, hf, hnow, by omega, rfl, rfl⟩
theorem n_room {n : Nat} (h : DIn H i d) (hl : d.now.length = n) (hn : n ≤ 16384) (hs : 3 ≤ s) (h2 : 2 + s < n) : m_wal_room (some i) (s : Int) H = some true := by
  unfold m_wal_room
  rw [bif_pos (dec_t (by omega)), n_Size h (by omega), Option.bind_some, wi_id (z := (d.now.length : Int) - 2) (by omega) (by omega), wi_id (by omega) (by omega), dec_t (by omega)]
theorem n_Format {n s : Nat} (h : DIn H i d) (ho : d.off = false) (hf : d.fuse < 0) (hnow : d.now = List.replicate n Z64) (hw : d.wait = []) (hn : n ≤ 16384) (hs : 3 ≤ s) (h2 : 2 + s < n) :
    ∃ H' d', m_wal_Format (some i) (s : Int) H = some (0, H') ∧ DIn H' i d' ∧ d'.off = false ∧ d'.fuse < 0 ∧ d'.now = (List.replicate n Z64).set 0 (slotB 1 s) ∧ d'.kept = d'.now ∧ d'.wait = [] ∧ d'.lives = d.lives ∧ H'.lg = H.lg := by
  have hl : d.now.length = n := by rw [hnow, List.length_replicate]
  unfold m_wal_Format
  rw [n_Size h (by omega), Option.bind_some, bif_neg (ieq_f (by omega)), n_room h hl hn hs h2, Option.bind_some, bif_neg (by rfl), wi_id (z := 2 + (s : Int)) (by omega) (by omega)]
  obtain ⟨H1, d1, g1, g2, g3, g4, g5, g6, g7, g8⟩ := n_Format_l2 (s := s) hn h2 ((2 + (s : Int)).toNat + 1) 1 H d h ho hf hnow (by rw [hw]; simp; omega) (by omega) (by omega)
  rw [show ((1 : Nat) : Int) = 1 from rfl] at g1
  rw [g1]
  unfold m_wal_Format_j1
  obtain ⟨H2, k1, k2, k3⟩ := n_Flush g2 g3 g4 (by rw [g5, List.length_replicate]; omega) (by omega)
  rw [k1, Option.bind_some, bif_neg (by rfl)]
  have eS := n_slotBytes (b := 1) (s := s) (by omega) (by omega)
  rw [show ((1 : Nat) : Int) = 1 from rfl] at eS
  rw [eS, Option.bind_some]
  obtain ⟨H3, m1, m2, m3⟩ := n_Write k2 g3 g4 (k := 0) (by show 0 < d1.now.length; rw [g5, List.length_replicate]; omega) (slotB_len 1 s) (by show ([] : List S_disk_write).length < _; simp)
  rw [show ((0 : Nat) : Int) = 0 from rfl] at m1
  show ∃ H' d', Option.bind (m_disk_Disk_Write (some i) 0 (slotB 1 s) H2) _ = _ ∧ _
  rw [m1, Option.bind_some, bif_neg (by rfl)]
  obtain ⟨H4, q1, q2, q3⟩ := n_Flush m2 g3 g4 (by show 0 < (d1.now.set 0 _).length; rw [List.length_set, g5, List.length_replicate]; omega) (by show ([] ++ [_] : List S_disk_write).length < _; simp)
  show ∃ H' d', Option.bind (m_disk_Disk_Flush (some i) H3) _ = _ ∧ _
  rw [q1]
  exact ⟨H4, _, rfl, q2, g3, g4, by show d1.now.set 0 _ = _; rw [g5], rfl, rfl, g7, by rw [q3, m3, k3, g8]⟩

/-! ### Open -/
theorem n_readSlot {n b s k : Nat} (h : DIn H i d) (ho : d.off = false) (hl : d.now.length = n) (hn : n ≤ 16384) (hs : 3 ≤ s) (h2 : 2 + s < n) (hb : 1 ≤ b) (hb2 : b ≤ 2305843009213693952) (hr : d.now[k]? = some (slotB b s)) : m_wal_readSlot (some i) (k : Int) H = some ((b : Int), (s : Int), true) := by
  unfold m_wal_readSlot
  rw [n_Read h ho hr, Option.bind_some, bif_neg (by rfl)]
  have hL := slotB_len b s
  have e1 : cutI (slotB b s) 0 8 = some (be 8 b) := by
    have := cutI_mid (l := slotB b s) (lo := 0) (n := 8) (by omega) 8 rfl
    rw [show ((0 : Nat) : Int) = 0 from rfl, List.drop_zero] at this
    rw [this]
    unfold slotB
    rw [List.take_left' (be_length 8 b)]
  have e2 : cutI (slotB b s) 56 ((slotB b s).length : Int) = some (be 8 b) := by
    have := cutI_drop (l := slotB b s) (n := 56) (by omega)
    rw [show ((56 : Nat) : Int) = 56 from rfl] at this
    rw [this]
    unfold slotB
    rw [show be 8 b ++ (be 4 s ++ (List.replicate 44 (0 : UInt8) ++ be 8 b)) = (be 8 b ++ (be 4 s ++ List.replicate 44 (0 : UInt8))) ++ be 8 b by simp only [List.append_assoc], List.drop_left' (by simp [be_length])]
  have e3 : cutI (slotB b s) 8 12 = some (be 4 s) := by
    have := cutI_mid (l := slotB b s) (lo := 8) (n := 4) (by omega) 12 rfl
    rw [show ((8 : Nat) : Int) = 8 from rfl] at this
    rw [this]
    unfold slotB
    rw [List.drop_left' (be_length 8 b), List.take_left' (be_length 4 s)]
  have e4 : cutI (slotB b s) 12 56 = some (List.replicate 44 0) := by
    have := cutI_mid (l := slotB b s) (lo := 12) (n := 44) (by omega) 56 rfl
    rw [show ((12 : Nat) : Int) = 12 from rfl] at this
    rw [this]
    unfold slotB
    rw [show be 8 b ++ (be 4 s ++ (List.replicate 44 (0 : UInt8) ++ be 8 b)) = (be 8 b ++ be 4 s) ++ (List.replicate 44 (0 : UInt8) ++ be 8 b) by simp only [List.append_assoc], List.drop_left' (by simp [be_length]), List.take_left' (by simp)]
  obtain ⟨gb, gb2⟩ := getN_be (n := b) (k := 8) (by omega) (by omega) (by omega) (by omega)
  obtain ⟨gs, gs2⟩ := getN_be (n := s) (k := 4) (by omega) (by omega) (by omega) (by omega)
  show Option.bind (cutI (slotB b s) 0 8) _ = _
  rw [e1, Option.bind_some, n_Get, Option.bind_some]
  show Option.bind (cutI (slotB b s) 56 ((slotB b s).length : Int)) _ = _
  rw [e2, Option.bind_some, n_Get, Option.bind_some]
  show Option.bind (cutI (slotB b s) 8 12) _ = _
  rw [e3, Option.bind_some, n_Get, Option.bind_some, gb, gb2, gs, gs2]
  rw [bif_neg (by rfl), bif_neg (by rfl), bif_neg (by rfl), bif_neg (ine_f rfl), bif_neg (dec_f (by show ¬ (b : Int) < 1; omega)), bif_neg (dec_f (by show ¬ (b : Int) > 2305843009213693952; omega))]
  show Option.bind (m_wal_room (some i) (s : Int) H) _ = _
  rw [n_room h hl hn hs h2, Option.bind_some, bif_neg (by rfl)]
  show Option.bind (cutI (slotB b s) 12 56) _ = _
  rw [e4, Option.bind_some, show m_wal_noughts (List.replicate 44 0) = some true by decide +kernel, Option.bind_some, bif_neg (by rfl)]
theorem n_readZero {k : Nat} (h : DIn H i d) (ho : d.off = false) (hr : d.now[k]? = some Z64) : m_wal_readSlot (some i) (k : Int) H = some (0, 0, false) := by
  unfold m_wal_readSlot
  rw [n_Read h ho hr, Option.bind_some, bif_neg (by rfl)]
  show Option.bind (cutI Z64 0 8) _ = _
  rw [show cutI Z64 0 8 = some (List.replicate 8 0) by decide +kernel, Option.bind_some, show m_word_Get (List.replicate 8 0) = some (0, 0) by decide +kernel, Option.bind_some]
  show Option.bind (cutI Z64 56 64) _ = _
  rw [show cutI Z64 56 64 = some (List.replicate 8 0) by decide +kernel, Option.bind_some, show m_word_Get (List.replicate 8 0) = some (0, 0) by decide +kernel, Option.bind_some]
  show Option.bind (cutI Z64 8 12) _ = _
  rw [show cutI Z64 8 12 = some (List.replicate 4 0) by decide +kernel, Option.bind_some, show m_word_Get (List.replicate 4 0) = some (0, 0) by decide +kernel, Option.bind_some]
  rfl
theorem n_Open_take {H0 K : Hp} {x : S_wal_Log} {b s n z : Nat} (hK : DIn K i d) (hx : K.lg[H0.lg.length]? = some x) (hz : z < 2) (hr : m_wal_readSlot (some i) (z : Int) K = some ((b : Int), (s : Int), true)) (hb : x.base_ < (b : Int)) :
    ∃ K', m_wal_Open_l5 i H0 (n + 1) (z : Int) K = m_wal_Open_l5 i H0 n ((z + 1 : Nat) : Int) K' ∧ K'.lg[H0.lg.length]? = some ⟨x.d_, s, b, z, x.used_, x.life_, x.commits_⟩ ∧ DIn K' i d := by
  have hl : H0.lg.length < K.lg.length := (List.getElem?_eq_some_iff.1 hx).1
  rw [m_wal_Open_l5, bif_pos (dec_t (by omega)), hr, Option.bind_some, bif_pos (by rfl)]
  show ∃ K', Option.bind (K.lg[H0.lg.length]?) _ = _ ∧ _
  rw [hx, Option.bind_some, dec_t (show (b : Int) > x.base_ from hb)]
  unfold m_wal_Open_j6
  rw [bif_pos (by rfl)]
  show ∃ K', Option.bind (K.lg[H0.lg.length]?) _ = _ ∧ _
  rw [hx, Option.bind_some, wi_succ (by omega)]
  refine ⟨_, rfl, ?_, hK.lg rfl rfl⟩
  show (((K.lg.set H0.lg.length _).set H0.lg.length _).set H0.lg.length _)[H0.lg.length]? = _
  rw [List.getElem?_set_self (by simp; omega)]
theorem n_Open_skip {H0 K : Hp} {u v : Int} {n z : Nat} (hz : z < 2) (hr : m_wal_readSlot (some i) (z : Int) K = some (u, v, false)) : m_wal_Open_l5 i H0 (n + 1) (z : Int) K = m_wal_Open_l5 i H0 n ((z + 1 : Nat) : Int) K := by
  rw [m_wal_Open_l5, bif_pos (dec_t (by omega)), hr, Option.bind_some, bif_neg (by rfl)]
  unfold m_wal_Open_j6
  rw [bif_neg (by rfl), wi_succ (by omega)]
theorem n_Open_l5 {n b s : Nat} (h : DIn H i d) (ho : d.off = false) (hf : d.fuse < 0) (hl : d.now.length = n) (hn : n ≤ 16384) (hs : 3 ≤ s) (h2 : 2 + s < n) (hb : 1 ≤ b) (hb2 : b + s ≤ 2305843009213693952) (h0 : d.now[0]? = some (slotB b s)) (c : Nat) (h1 : d.now[1]? = some Z64 ∧ c = 0 ∨ d.now[1]? = some (slotB c s) ∧ b < c ∧ c + s ≤ 2305843009213693952) :
    ∃ K, m_wal_Open (some i) H = m_wal_Open_j4 H K ∧ WIn K i H.lg.length d s (if c = 0 then b else c) (if c = 0 then 0 else 1) 0 0 := by
  unfold m_wal_Open
  rw [n_Size h (by omega), Option.bind_some, bif_neg (ieq_f (by omega)), n_Off h (by omega), Option.bind_some, ho, bif_neg (by rfl)]
  show ∃ K, Option.bind (m_disk_Disk_Lives (some i) H) _ = _ ∧ _
  rw [n_Lives h (by omega), Option.bind_some]
  have hK0 : DIn (H.nw_lg ⟨some i, 0, 0, 0, 0, d.lives, 0⟩) i d := h.lg rfl rfl
  obtain ⟨K1, g1, g2, g3⟩ := n_Open_take (H0 := H) (n := 2) (z := 0) hK0 (x := ⟨some i, 0, 0, 0, 0, d.lives, 0⟩) (by show (H.lg ++ [_])[H.lg.length]? = _; simp) (by omega) (n_readSlot hK0 ho hl hn hs h2 hb (by omega) h0) (by show (0 : Int) < (b : Int); omega)
  show ∃ K, m_wal_Open_l5 i H (2 + 1) ((0 : Nat) : Int) (H.nw_lg ⟨some i, 0, 0, 0, 0, d.lives, 0⟩) = _ ∧ _
  rw [g1]
  rcases h1 with ⟨h1, rfl⟩ | ⟨h1, h3, h4⟩
  · rw [n_Open_skip (z := 0 + 1) (by omega) (n_readZero g3 ho h1)]
    refine ⟨K1, ?_, ⟨g3, ho, g2, hs, by omega, by omega, hb2⟩, hf⟩
    show m_wal_Open_l5 i H (0 + 1) 2 K1 = _
    rw [m_wal_Open_l5, bif_neg (by decide)]
  · obtain ⟨K2, k1, k2, k3⟩ := n_Open_take (H0 := H) (n := 1) (z := 0 + 1) g3 g2 (by omega) (n_readSlot g3 ho hl hn hs h2 (by omega) (by omega) h1) (by show (b : Int) < (c : Int); omega)
    rw [k1, if_neg (by omega), if_neg (by omega)]
    refine ⟨K2, ?_, ⟨k3, ho, k2, hs, by omega, by omega, h4⟩, hf⟩
    show m_wal_Open_l5 i H (0 + 1) 2 K2 = _
    rw [m_wal_Open_l5, bif_neg (by decide)]
theorem n_Open_j4 {K : Hp} {L : List S_api_Write} (h : WIn K i H.lg.length d s base slot 0 com) (h1 : 1 ≤ base) (hs : slot ≤ 1) (hb : base + s + s ≤ 2305843009213693952) (hL : m_wal_Log_says (some H.lg.length) K = some L) (hg : Good s d.now.length L) (hl : L.length ≤ 100000) (hw : d.wait.length ≤ 1000) :
    ∃ H' d', m_wal_Open_j4 H K = some (some H.lg.length, 0, H') ∧ WIn H' i H.lg.length d' s (base + s) (1 - slot) 0 com ∧ d'.now = (rd s d.now L).set (1 - slot) (slotB (base + s) s) ∧ d'.kept = d'.now ∧ d'.wait = [] ∧ d'.lives = d.lives := by
  have := h.ln
  have := h.sl
  unfold m_wal_Open_j4
  show ∃ H' d', Option.bind (K.lg[H.lg.length]?) _ = _ ∧ _
  rw [h.lg, Option.bind_some]
  show ∃ H' d', (bif ((base : Int) == 0) then _ else bif decide ((base : Int) > wi (2305843009213693952 - (s : Int))) then _ else _) = _ ∧ _
  rw [bif_neg (ieq_f (by omega)), wi_id (z := 2305843009213693952 - (s : Int)) (by omega) (by omega), bif_neg (dec_f (by omega))]
  show ∃ H' d', Option.bind (m_wal_Log_says (some H.lg.length) K) _ = _ ∧ _
  rw [hL, Option.bind_some]
  obtain ⟨H1, d1, g1, g2, g3, g4, g5, g6⟩ := n_redo h hl hg (by omega)
  show ∃ H' d', Option.bind (m_wal_Log_redo (some H.lg.length) L K) _ = _ ∧ _
  rw [g1, Option.bind_some, bif_neg (by rfl)]
  obtain ⟨H2, d2, k1, k2, k3, k4, k5, k6⟩ := n_Checkpoint g2 hs hb (by omega)
  show ∃ H' d', Option.bind (m_wal_Log_Checkpoint (some H.lg.length) H1) _ = _ ∧ _
  rw [k1, Option.bind_some, bif_neg (by rfl)]
  exact ⟨H2, d2, rfl, k2, by rw [k3, g3], k4, k5, by rw [k6, g6]⟩
end
end Go.Proofs.Ytjomnccladjpgaa

/-
  Plain: what a transaction does.
-/
namespace Go.Proofs.Ytjomnccladjpgaa
open Go Go.RowKit
set_option linter.unusedVariables false
set_option linter.unusedSimpArgs false

/-! ### Maps told by their entries -/
section
variable {ν : Type}
theorem mf_nil (k : Int) : mfind ([] : List (Int × ν)) k = none := rfl
theorem mf_cons (a : Int × ν) (l : List (Int × ν)) (k : Int) : mfind (a :: l) k = if k = a.1 then some a.2 else mfind l k := by
  unfold mfind mpos
  rw [List.findIdx?_cons]
  by_cases h : k = a.1
  · rw [if_pos (by simpa using h), if_pos h]
    rfl
  · rw [if_neg (by simpa using h), if_neg h]
    cases List.findIdx? (fun p : Int × ν => k == p.1) l <;> rfl
theorem ms_nil (k : Int) (v : ν) : mset [] k v = [(k, v)] := rfl
theorem ms_cons (a : Int × ν) (l : List (Int × ν)) (k : Int) (v : ν) : mset (a :: l) k v = if k = a.1 then (k, v) :: l else a :: mset l k v := by
  unfold mset mpos
  rw [List.findIdx?_cons]
  by_cases h : k = a.1
  · rw [if_pos (by simpa using h), if_pos h]
    rfl
  · rw [if_neg (by simpa using h), if_neg h]
    cases List.findIdx? (fun p : Int × ν => k == p.1) l <;> rfl
theorem mf_ms (l : List (Int × ν)) (k q : Int) (v : ν) : mfind (mset l k v) q = if q = k then some v else mfind l q := by
  induction l with
  | nil => rw [ms_nil, mf_cons, mf_nil]
  | cons a l ih =>
    rw [ms_cons]
    by_cases h : k = a.1
    · rw [if_pos h, mf_cons, mf_cons]
      by_cases h2 : q = k
      · rw [if_pos h2, if_pos h2]
      · rw [if_neg h2, if_neg h2, if_neg (by rw [← h]; exact h2)]
    · rw [if_neg h, mf_cons, mf_cons, ih]
      by_cases h2 : q = k
      · rw [if_pos h2, if_pos h2, if_neg (by rw [h2]; exact h)]
      · rw [if_neg h2, if_neg h2]
end

/-- A transaction: what its homes are (hs), and what was written (mp). -/
structure TIn (H : Hp) (t : Nat) (hs : List (List UInt8)) (mp : List (Int × List UInt8)) : Prop where
  at_ : ∃ i j d s b sl us com m, LIn H i j d s b sl us com ∧ H.tx[t]? = some ⟨some j, com, false, m⟩ ∧ H.mp[m]? = some mp ∧ hs.length = d.now.length - 2 - s ∧
    ∀ (k : Nat) (r : List UInt8), hs[k]? = some r → mfind mp (k : Int) = some r ∨ mfind mp (k : Int) = none ∧ d.now[2 + s + k]? = some r
  row : ∀ r ∈ hs, r.length = 64
  keys : ∀ (q : Int) (r : List UInt8), mfind mp q = some r → 0 ≤ q ∧ q < (hs.length : Int)

section
variable {H : Hp} {t : Nat} {hs : List (List UInt8)} {mp : List (Int × List UInt8)}
theorem TIn.low (h : TIn H t hs mp) : hs.length ≤ 16384 := by
  obtain ⟨⟨i, j, d, s, b, sl, us, com, m, h1, h2, h3, h4, h5⟩, _, _⟩ := h
  have := h1.ln
  omega
theorem TIn.wide (h : TIn H t hs mp) {k : Nat} {r : List UInt8} (hk : hs[k]? = some r) : r.length = 64 := h.row r (List.mem_of_getElem? hk)
theorem TIn.ht (h : TIn H t hs mp) : t < H.tx.length := by
  obtain ⟨⟨i, j, d, s, b, sl, us, com, m, h1, h2, h3, h4, h5⟩, _, _⟩ := h
  exact (List.getElem?_eq_some_iff.1 h2).1
theorem TIn.tell {H' : Hp} (h : TIn H t hs mp) (e1 : H'.dk = H.dk) (e2 : H'.sec = H.sec) (e3 : H'.lg = H.lg) (e4 : H'.tx = H.tx) (e5 : H'.mp = H.mp) : TIn H' t hs mp := by
  obtain ⟨⟨i, j, d, s, b, sl, us, com, m, h1, h2, h3, h4, h5⟩, h6, h7⟩ := h
  exact ⟨⟨i, j, d, s, b, sl, us, com, m, ⟨h1.dsk.lg e1 e2, h1.off, by rw [e3]; exact h1.lg, h1.s3, h1.sl, h1.ln, h1.bs⟩, by rw [e4]; exact h2, by rw [e5]; exact h3, h4, h5⟩, h6, h7⟩
theorem n_TAlive (h : TIn H t hs mp) : m_wal_Txn_alive (some t) H = some 0 := by
  obtain ⟨⟨i, j, d, s, b, sl, us, com, m, h1, h2, h3, h4, h5⟩, h6, h7⟩ := h
  unfold m_wal_Txn_alive
  show Option.bind (H.tx[t]?) _ = _
  rw [h2, Option.bind_some]
  show Option.bind (m_wal_Log_alive (some j) H) _ = _
  rw [n_alive h1, Option.bind_some, bif_neg (ine_f rfl)]
  show Option.bind (H.lg[j]?) _ = _
  rw [h1.lg, Option.bind_some]
  show (bif com != com then some 34 else some 0) = _
  rw [bif_neg (ine_f rfl)]
theorem n_TRead (h : TIn H t hs mp) {k : Nat} {r : List UInt8} (hr : hs[k]? = some r) : m_wal_Txn_Read (some t) (k : Int) H = some (r, 0) := by
  have ha := n_TAlive h
  have hw := h.wide hr
  obtain ⟨⟨i, j, d, s, b, sl, us, com, m, h1, h2, h3, h4, h5⟩, h6, h7⟩ := h
  unfold m_wal_Txn_Read
  rw [ha, Option.bind_some, bif_neg (ine_f rfl)]
  show Option.bind (H.tx[t]?) _ = _
  rw [h2, Option.bind_some]
  show Option.bind (H.mp[m]?) _ = _
  rw [h3, Option.bind_some]
  rcases h5 k r hr with h8 | ⟨h8, h9⟩
  · rw [h8, bif_pos (by rfl)]
    show Option.bind (m_slices_Clone_byte r) _ = _
    unfold m_slices_Clone_byte
    rw [appI_ok (by rw [List.length_nil]; omega), Option.bind_some]
    rfl
  · rw [h8, bif_neg (by rfl)]
    show Option.bind (m_wal_Log_Read (some j) (k : Int) H) _ = _
    rw [n_LRead h1 h9]
    rfl
theorem n_LReadOut {i j : Nat} {d : Dsk} {s b sl us : Nat} {com : Int} (h : LIn H i j d s b sl us com) {z : Int} (hz : ¬ (0 ≤ z ∧ z < ((d.now.length - 2 - s : Nat) : Int))) : m_wal_Log_Read (some j) z H = some ([], 31) := by
  unfold m_wal_Log_Read
  rw [n_alive h, Option.bind_some, bif_neg (ine_f rfl)]
  by_cases h0 : z < 0
  · rw [bif_pos (dec_t h0)]
  · rw [bif_neg (dec_f h0), n_Homes h, Option.bind_some, bif_pos (dec_t (by omega))]
theorem n_TReadOut (h : TIn H t hs mp) {z : Int} (hz : ¬ (0 ≤ z ∧ z < (hs.length : Int))) : m_wal_Txn_Read (some t) z H = some ([], 31) := by
  have ha := n_TAlive h
  obtain ⟨⟨i, j, d, s, b, sl, us, com, m, h1, h2, h3, h4, h5⟩, h6, h7⟩ := h
  unfold m_wal_Txn_Read
  rw [ha, Option.bind_some, bif_neg (ine_f rfl)]
  show Option.bind (H.tx[t]?) _ = _
  rw [h2, Option.bind_some]
  show Option.bind (H.mp[m]?) _ = _
  rw [h3, Option.bind_some]
  have h8 : mfind mp z = none := by
    cases hf : mfind mp z with
    | none => rfl
    | some r => exact absurd (h7 z r hf) hz
  rw [h8, bif_neg (by rfl)]
  show Option.bind (m_wal_Log_Read (some j) z H) _ = _
  rw [n_LReadOut h1 (by rw [← h4]; exact hz)]
  rfl
theorem n_TWrite (h : TIn H t hs mp) {k : Nat} (hk : k < hs.length) {x : List UInt8} (hx : x.length = 64) :
    ∃ H', m_wal_Txn_Write (some t) (k : Int) x H = some (0, H') ∧ TIn H' t (hs.set k x) (mset mp (k : Int) x) ∧ ∃ m v, H' = H.st_mp m v := by
  have ha := n_TAlive h
  obtain ⟨⟨i, j, d, s, b, sl, us, com, m, h1, h2, h3, h4, h5⟩, h6, h7⟩ := h
  have hm : m < H.mp.length := (List.getElem?_eq_some_iff.1 h3).1
  refine ⟨H.st_mp m (mset mp (k : Int) x), ?_, ⟨⟨i, j, d, s, b, sl, us, com, m, ⟨h1.dsk.lg rfl rfl, h1.off, h1.lg, h1.s3, h1.sl, h1.ln, h1.bs⟩, h2, List.getElem?_set_self hm, by rw [List.length_set]; exact h4, fun q r hq => ?_⟩, fun r hr => ?_, fun q r hq => ?_⟩, m, _, rfl⟩
  · unfold m_wal_Txn_Write
    rw [ha, Option.bind_some, bif_neg (ine_f rfl), bif_neg (dec_f (by omega))]
    show Option.bind (H.tx[t]?) _ = _
    rw [h2, Option.bind_some]
    show Option.bind (m_wal_Log_Homes (some j) H) _ = _
    rw [n_Homes h1, Option.bind_some, bif_neg (dec_f (by omega)), bif_neg (ine_f (by omega))]
    unfold m_slices_Clone_byte
    rw [appI_ok (by rw [List.length_nil]; omega), Option.bind_some]
    show Option.bind (H.mp[m]?) _ = _
    rw [h3, Option.bind_some]
    rfl
  · rw [mf_ms]
    by_cases e : q = k
    · subst e
      rw [List.getElem?_set_self hk] at hq
      rw [if_pos rfl]
      exact .inl hq
    · rw [List.getElem?_set_ne (by omega)] at hq
      rw [if_neg (by omega)]
      exact h5 q r hq
  · rcases List.mem_or_eq_of_mem_set hr with hr | rfl
    · exact h6 r hr
    · exact hx
  · rw [List.length_set]
    rw [mf_ms] at hq
    by_cases e : q = k
    · omega
    · rw [if_neg e] at hq
      exact h7 q r hq
theorem n_TWriteOut (h : TIn H t hs mp) {z : Int} (hz : ¬ (0 ≤ z ∧ z < (hs.length : Int))) (x : List UInt8) : m_wal_Txn_Write (some t) z x H = some (31, H) := by
  have ha := n_TAlive h
  obtain ⟨⟨i, j, d, s, b, sl, us, com, m, h1, h2, h3, h4, h5⟩, h6, h7⟩ := h
  unfold m_wal_Txn_Write
  rw [ha, Option.bind_some, bif_neg (ine_f rfl)]
  by_cases h0 : z < 0
  · rw [bif_pos (dec_t h0)]
  · rw [bif_neg (dec_f h0)]
    show Option.bind (H.tx[t]?) _ = _
    rw [h2, Option.bind_some]
    show Option.bind (m_wal_Log_Homes (some j) H) _ = _
    rw [n_Homes h1, Option.bind_some, bif_pos (dec_t (by omega))]
end

/-! ### A disk made anew, a log on it, a transaction of it -/
theorem z_badA {st : Nat} (h1 : 0 < st) (h2 : st < 18446744073709551616) : ¬ Valid st Z64 := by
  intro h
  have := congrArg ofBE (valid_end h)
  rw [ofBE_be, Nat.mod_eq_of_lt (by omega), show ofBE (Z64.drop 56) = 0 by decide +kernel] at this
  omega
/-- The homes of a log just made: noughts. -/
theorem open_new (w1 : Hp) {n s : Nat} (hn : n ≤ 16384) (hs : 3 ≤ s) (h2 : 2 + s < n) : ∃ H1 H2 H3 i j d, m_disk_New (n : Int) w1 = some (some i, 0, H1) ∧ m_wal_Format (some i) (s : Int) H1 = some (0, H2) ∧ m_wal_Open (some i) H2 = some (some j, 0, H3) ∧ WIn H3 i j d s (1 + s) 1 0 0 ∧ d.wait = [] ∧ d.now = ((List.replicate n Z64).set 0 (slotB 1 s)).set 1 (slotB (1 + s) s) := by
  obtain ⟨H1, e1, e2, e3⟩ := n_New (H := w1) (n := n) (by omega) (by omega)
  obtain ⟨H2, d2, f1, f2, f3, f4, f5, f6, f7, f8, f9⟩ := n_Format (n := n) (s := s) e2 rfl (by show (-1 : Int) < 0; omega) rfl rfl (by omega) (by omega) (by omega)
  have hl : d2.now.length = n := by rw [f5]; simp
  obtain ⟨K, g1, g2⟩ := n_Open_l5 (b := 1) (s := s) f2 f3 f4 hl (by omega) (by omega) (by omega) (by omega) (by omega) (by rw [f5, List.getElem?_set_self (by simp; omega)]) 0 (.inl ⟨by rw [f5, List.getElem?_set_ne (by omega), List.getElem?_replicate, if_pos (by omega)], rfl⟩)
  rw [if_pos rfl, if_pos rfl] at g2
  have hr : d2.now[2 + 0]? = some Z64 := by rw [f5, List.getElem?_set_ne (by omega), List.getElem?_replicate, if_pos (by omega)]
  have hs2 := n_says_none g2.toLIn ⟨_, n_at g2.toLIn (p := 0) (by omega) hr, atE_bad (z_badA (by omega) (by omega)) (by simp)⟩
  obtain ⟨H3, d3, k1, k2, k3, k4, k5, k6⟩ := n_Open_j4 (H := H2) g2 (by omega) (by omega) (by omega) hs2 (fun w hw => absurd hw List.not_mem_nil) (by simp) (by rw [f7]; simp)
  refine ⟨H1, H2, H3, w1.dk.length, H2.lg.length, d3, e1, f1, ?_, k2, k5, ?_⟩
  · rw [g1, k1]
  · rw [k3, f5]
    rfl
theorem n_Begin {H : Hp} {i j : Nat} {d : Dsk} {s b sl us : Nat} {com : Int} (h : LIn H i j d s b sl us com) : ∃ H', m_wal_Log_Begin (some j) H = some (some H.tx.length, 0, H') ∧ TIn H' H.tx.length (d.now.drop (2 + s)) [] ∧ H'.ix = H.ix := by
  have hsl := h.sl
  let X : S_wal_Txn := ⟨some j, com, false, H.mp.length⟩
  have e1 : ((H.nw_mp []).nw_tx X).tx[H.tx.length]? = some X := by
    show (H.tx ++ [X])[H.tx.length]? = _
    exact List.getElem?_concat_length
  have e2 : ((H.nw_mp []).nw_tx X).mp[H.mp.length]? = some [] := by
    show (H.mp ++ [[]])[H.mp.length]? = _
    exact List.getElem?_concat_length
  refine ⟨(H.nw_mp []).nw_tx X, ?_, ⟨⟨i, j, d, s, b, sl, us, com, H.mp.length, ⟨h.dsk.lg rfl rfl, h.off, h.lg, h.s3, h.sl, h.ln, h.bs⟩, e1, e2, by rw [List.length_drop]; omega, fun k r hk => .inr ⟨rfl, by rw [List.getElem?_drop] at hk; exact hk⟩⟩, fun r hr => ?_, fun q r hq => by cases hq⟩, rfl⟩
  · unfold m_wal_Log_Begin
    rw [n_alive h, Option.bind_some, bif_neg (ine_f rfl)]
    show Option.bind (H.lg[j]?) _ = _
    rw [h.lg, Option.bind_some]
    rfl
  · obtain ⟨k, hk⟩ := List.getElem?_of_mem hr
    rw [List.getElem?_drop] at hk
    exact h.dsk.row hk
end Go.Proofs.Ytjomnccladjpgaa

/-
  Plain: the bytes of an index's entries, and what the document says of them.
-/
namespace Go.Proofs.Ytjomnccladjpgaa
open Go Go.RowKit
set_option linter.unusedVariables false
set_option linter.unusedSimpArgs false

/-! ### Numbers as bytes, as the document has them -/
theorem U8_nat {n : Nat} (h : n < 256) : U8 (n : Int) = UInt8.ofNat n := by
  unfold U8
  congr 1
  omega
theorem ofBE_le (x y : List UInt8) : ofBE x ≤ ofBE (x ++ y) := by
  unfold ofBE
  rw [List.foldl_append]
  generalize List.foldl (fun x c => x * 256 + c.toNat) 0 x = a
  induction y generalizing a with
  | nil => exact Nat.le_refl _
  | cons c r ih => exact Nat.le_trans (by omega) (ih (a * 256 + UInt8.toNat c))
theorem n_R01_Get_l2 (b : List UInt8) (hb : b.length ≤ 8) : ∀ (n i : Nat), i ≤ b.length → b.length - i < n → ofBE (b.take i) ≤ 4611686018427387904 → m_R01_Get_l2 b n (ofBE (b.take i) : Int) (i : Int) = some (if 4611686018427387904 < ofBE b then (0, 11) else ((ofBE b : Int), 0))
  | 0, i, _, h, _ => by omega
  | n + 1, i, hi, h, ho => by
    unfold m_R01_Get_l2
    by_cases hlt : i < b.length
    · rw [bif_pos (dec_t (by omega)), idx_nat hlt, Option.bind_some]
      have ht : ofBE (b.take (i + 1)) = ofBE (b.take i) * 256 + b[i].toNat := by rw [← List.take_append_getElem hlt, ofBE_snoc]
      have hm : ofBE (b.take (i + 1)) ≤ ofBE b := by
        have := ofBE_le (b.take (i + 1)) (b.drop (i + 1))
        rwa [List.take_append_drop] at this
      have hc := b[i].toNat_lt
      have hgo : ofBE (b.take (i + 1)) ≤ 4611686018427387904 → ∀ y, m_R01_Get_j3 (m_R01_Get_l2 b n) (ofBE (b.take i) : Int) b[i] (i : Int) y = some (if 4611686018427387904 < ofBE b then (0, 11) else ((ofBE b : Int), 0)) := by
        intro hle y
        unfold m_R01_Get_j3
        rw [wi_succ (by omega), wi_id (z := 256 * (ofBE (b.take i) : Int)) (by omega) (by omega), wi_id (by omega) (by omega)]
        rw [show (256 * (ofBE (b.take i) : Int) + (b[i].toNat : Int)) = ((ofBE (b.take (i + 1)) : Nat) : Int) by rw [ht]; omega]
        exact n_R01_Get_l2 b hb n (i + 1) (by omega) (by omega) hle
      by_cases h1 : 18014398509481984 < ofBE (b.take i)
      · rw [bif_pos (dec_t (by omega)), if_pos (by omega)]
      · rw [bif_neg (dec_f (by omega))]
        by_cases h2 : ofBE (b.take i) = 18014398509481984
        · rw [bif_pos (ieq_t (by omega))]
          by_cases h3 : 0 < b[i].toNat
          · rw [bif_pos (dec_t (by omega)), if_pos (by omega)]
          · rw [bif_neg (dec_f (by omega))]
            exact hgo (by omega) _
        · rw [bif_neg (ieq_f (by omega))]
          exact hgo (by omega) _
    · have e : i = b.length := by omega
      subst e
      rw [bif_neg (dec_f (by omega))]
      rw [List.take_length] at ho ⊢
      rw [if_neg (by omega)]
      rfl
theorem n_R01_Get (b : List UInt8) : m_R01_Get b = some (getN b, getE b) := by
  unfold m_R01_Get getN getE
  by_cases h0 : b.length = 0
  · rw [bif_pos (ieq_t (by omega)), if_pos (.inl h0), if_pos h0]
  · rw [bif_neg (ieq_f (by omega)), if_neg h0]
    by_cases h8 : 8 < b.length
    · rw [bif_pos (dec_t (by omega)), if_pos (.inr (.inl h8)), if_pos h8]
    · rw [bif_neg (dec_f (by omega)), if_neg h8]
      have h := n_R01_Get_l2 b (by omega) (b.length + 1) 0 (by omega) (by omega) (by simp [ofBE])
      have e : m_R01_Get_l2 b (b.length + 1) 0 0 = m_R01_Get_l2 b (b.length + 1) ((ofBE (b.take 0) : Nat) : Int) ((0 : Nat) : Int) := rfl
      rw [e, h]
      by_cases hx : 4611686018427387904 < ofBE b
      · rw [if_pos hx, if_pos hx, if_pos (.inr (.inr hx))]
      · rw [if_neg hx, if_neg hx, if_neg (by omega)]

theorem n_R01_Low_l2 (k : Nat) (hk : k ≤ 8) : ∀ (n i m : Nat) (out : List UInt8), i ≤ k → k - i < n → out.length = i → m ≤ 4611686018427387904 → m_R01_Low_l2 (k : Int) n (m : Int) out (i : Int) = some (if 0 < m / 256 ^ (k - i) then ([], 2) else (out ++ le (k - i) m, 0))
  | 0, i, m, out, _, h, _, _ => by omega
  | n + 1, i, m, out, hi, h, ho, hm => by
    unfold m_R01_Low_l2
    by_cases hlt : i < k
    · rw [bif_pos (dec_t (by omega)), appI_ok (by simp; omega), Option.bind_some, wi_succ (by omega)]
      have e1 : Int.tdiv (m : Int) 256 = ((m / 256 : Nat) : Int) := rfl
      have e2 : Int.tmod (m : Int) 256 = ((m % 256 : Nat) : Int) := rfl
      rw [e1, e2, wi_id (by omega) (by omega), U8_nat (by omega), n_R01_Low_l2 k hk n (i + 1) (m / 256) _ (by omega) (by omega) (by simp [ho]) (by omega)]
      obtain ⟨j, hj⟩ : ∃ j, k - i = j + 1 := ⟨k - i - 1, by omega⟩
      rw [show k - (i + 1) = j by omega, hj, Nat.div_div_eq_div_mul, ← Nat.pow_succ', le]
      simp
    · have e : k - i = 0 := by omega
      rw [bif_neg (dec_f (by omega)), e]
      unfold m_R01_Low_j1
      by_cases h0 : 0 < m
      · rw [bif_pos (dec_t (by omega)), if_pos (by simpa using h0)]
      · rw [bif_neg (dec_f (by omega)), if_neg (by simpa using h0)]
        simp [le]
theorem n_R01_Turned_l1 (b : List UInt8) (hb : b.length ≤ 4611686018427387904) : ∀ (n i : Nat) (out : List UInt8), i ≤ b.length → i < n → out.length + i ≤ 1000000000 → m_R01_Turned_l1 b n out ((i : Int) - 1) = some (out ++ (b.take i).reverse)
  | 0, i, out, _, h, _ => by omega
  | n + 1, i, out, hi, h, ho => by
    unfold m_R01_Turned_l1
    cases i with
    | zero =>
      rw [bif_neg (dec_f (by omega))]
      simp
    | succ i =>
      rw [bif_pos (dec_t (by omega)), show ((i + 1 : Nat) : Int) - 1 = (i : Int) by omega, idx_nat (by omega), Option.bind_some, appI_ok (by simp; omega), Option.bind_some, wi_id (by omega) (by omega),
        n_R01_Turned_l1 b hb n i _ (by omega) (by omega) (by simp; omega), ← List.take_append_getElem (by omega : i < b.length), List.reverse_append]
      simp
theorem n_R01_Put {n k : Nat} (h : n < 256 ^ k) (h1 : 1 ≤ k) (h8 : k ≤ 8) (hn : n ≤ 4611686018427387904) : m_R01_Put (n : Int) (k : Int) = some (be k n, 0) := by
  unfold m_R01_Put m_R01_Low
  rw [bif_neg (dec_f (by omega)), bif_neg (dec_f (by omega)), bif_neg (dec_f (by omega)), bif_neg (dec_f (by omega)), Int.toNat_natCast]
  have hl := n_R01_Low_l2 k h8 (k + 1) 0 n [] (by omega) (by omega) rfl hn
  rw [Nat.sub_zero, if_neg (by rw [Nat.div_eq_of_lt h]; omega)] at hl
  show Option.bind (m_R01_Low_l2 (k : Int) (k + 1) (n : Int) [] ((0 : Nat) : Int)) _ = _
  rw [hl, Option.bind_some]
  show Option.bind (m_R01_Turned (le k n)) _ = _
  unfold m_R01_Turned
  rw [le_length, wi_id (by omega) (by omega)]
  have ht := n_R01_Turned_l1 (le k n) (by rw [le_length]; omega) (Int.toNat ((k : Int) - 1) + 2) k [] (by rw [le_length]; exact Nat.le_refl _) (by omega) (by simp; omega)
  rw [ht, Option.bind_some, show (le k n).take k = le k n from List.take_of_length_le (by rw [le_length]; exact Nat.le_refl _)]
  rfl

theorem n_number {n k : Nat} (h : n < 256 ^ k) (h1 : 1 ≤ k) (h8 : k ≤ 8) (hn : n ≤ 4611686018427387904) : m_R20_number (n : Int) (k : Int) = some (be k n) := by
  unfold m_R20_number
  rw [n_R01_Put h h1 h8 hn]
  rfl
theorem n_R01_Same_l1 (a b : List UInt8) (hl : a.length = b.length) (hb : a.length < 4611686018427387904) : ∀ (n i : Nat), i ≤ a.length → a.length - i < n → m_R01_Same_l1 a b n (i : Int) = some (a.drop i == b.drop i)
  | 0, i, _, h => by omega
  | n + 1, i, hi, h => by
    unfold m_R01_Same_l1
    by_cases hlt : i < a.length
    · have hlb : i < b.length := by omega
      rw [bif_pos (dec_t (by omega)), idx_nat hlt, Option.bind_some, idx_nat hlb, Option.bind_some, wi_succ (by omega), n_R01_Same_l1 a b hl hb n (i + 1) (by omega) (by omega)]
      have ha : a.drop i = a[i] :: a.drop (i + 1) := List.drop_eq_getElem_cons hlt
      have hb : b.drop i = b[i] :: b.drop (i + 1) := List.drop_eq_getElem_cons hlb
      rw [ha, hb]
      generalize a[i] = x
      generalize b[i] = y
      by_cases he : x = y
      · subst he
        rw [bif_neg (ine_f rfl)]
        simp
      · rw [bif_pos (ine_t (fun h => he (UInt8.toNat_inj.1 (by omega))))]
        simp [he]
    · rw [bif_neg (dec_f (by omega)), List.drop_eq_nil_of_le (by omega), List.drop_eq_nil_of_le (by omega)]
      rfl
theorem n_R01_Same (a b : List UInt8) (hb : a.length < 4611686018427387904) : m_R01_Same a b = some (a == b) := by
  unfold m_R01_Same
  by_cases hl : a.length = b.length
  · rw [bif_neg (ine_f (by omega))]
    exact n_R01_Same_l1 a b hl hb _ 0 (Nat.zero_le _) (by omega)
  · rw [bif_pos (ine_t (by omega))]
    congr 1
    symm
    rw [beq_eq_false_iff_ne]
    exact fun e => hl (by rw [e])
/-! ### Keys -/
def okc (c : UInt8) : Bool := decide (33 ≤ c.toNat) && decide (c.toNat ≤ 126)
def keyB (k : List UInt8) : Bool := decide (1 ≤ k.length) && (decide (k.length ≤ 40) && k.all okc)
def bkt : Nat → List UInt8 → Nat
  | h, [] => h
  | h, c :: r => bkt ((31 * h + c.toNat) % 4294967296) r
def buckN (k : List UInt8) : Nat := bkt 0 k % 64
def mayB (e : S_api_Entry) : Bool := keyB e.Key && (decide (e.Version ≥ 0) && (decide (e.Version ≤ 4611686018427387904) && (decide (e.Len ≥ 0) && (decide (e.Len ≤ 1024) && (decide (e.First ≥ 0) && decide (e.First ≤ 16384))))))
/-! ### An entry's bytes -/
def nodeB (e : S_api_Entry) (n : Nat) : List UInt8 := be 4 n ++ (be 8 e.Version.toNat ++ (be 4 e.Len.toNat ++ (be 4 e.First.toNat ++ (UInt8.ofNat e.Key.length :: (e.Key ++ List.replicate (43 - e.Key.length) 0)))))
theorem lenI_ok {a b : Nat} (h : a = b) : lenI a b = some () := by unfold lenI; rw [if_pos h]
/-! ### The entry of bytes -/
def fE (b : List UInt8) : S_api_Entry := ⟨(b.drop 21).take (b.getD 20 0).toNat, getN ((b.drop 4).take 8), (ofBE ((b.drop 12).take 4) : Int), (ofBE ((b.drop 16).take 4) : Int)⟩
def fN (b : List UInt8) : Nat := ofBE ((b.drop 0).take 4)
instance : DecidableEq (List UInt8) := inferInstance
def ent (b : List UInt8) : Option (S_api_Entry × Nat) := if getE ((b.drop 4).take 8) = 0 ∧ (b.getD 20 0).toNat ≤ 40 ∧ mayB (fE b) = true ∧ nodeB (fE b) (fN b) = b then some (fE b, fN b) else none
end Go.Proofs.Ytjomnccladjpgaa

/-
  Plain: an index' buckets, as the code and the document go through them.
-/
namespace Go.Proofs.Ytjomnccladjpgaa
open Go Go.RowKit
set_option linter.unusedVariables false
set_option linter.unusedSimpArgs false

/-- The number that stands at a place of a home. -/
def num (hs : List (List UInt8)) (h o : Nat) : Nat := ofBE (((hs.getD h []).drop o).take 4)
/-- Its bytes with another number there. -/
def wr4 (b : List UInt8) (o n : Nat) : List UInt8 := b.take o ++ (be 4 n ++ b.drop (o + 4))
theorem wr4_len {b : List UInt8} {o n : Nat} (h : o + 4 ≤ b.length) : (wr4 b o n).length = b.length := by
  simp [wr4, be_length]
  omega
def stp (hs : List (List UInt8)) (bk at_ : Nat) : Option (S_api_Entry × Nat) := Option.bind hs[at_]? fun b => Option.bind (ent b) fun x => if buckN x.1.Key = bk then some x else none
def chn (hs : List (List UInt8)) (bk : Nat) : Nat → Nat → List (Nat × S_api_Entry) × Bool
  | 0, at_ => ([], at_ == 0)
  | n + 1, at_ => if at_ = 0 then ([], true) else match stp hs bk at_ with
    | none => ([], false)
    | some (e, nx) => ((at_, e) :: (chn hs bk n nx).1, (chn hs bk n nx).2)
theorem chn_some {hs : List (List UInt8)} {bk at_ nx n : Nat} {e : S_api_Entry} (h0 : at_ ≠ 0) (h : stp hs bk at_ = some (e, nx)) : chn hs bk (n + 1) at_ = ((at_, e) :: (chn hs bk n nx).1, (chn hs bk n nx).2) := by
  conv => lhs; unfold chn
  rw [if_neg h0, h]
section
variable {hs : List (List UInt8)} (hw : ∀ r ∈ hs, r.length = 64) (hl : hs.length ≤ 16384)
include hw hl
omit hl in
theorem n_cut4 {h o : Nat} (hh : h < hs.length) (ho : o + 4 ≤ 64) : ∃ b, idx hs (h : Int) = some b ∧ hs[h]? = some b ∧ b.length = 64 ∧ cutI b (o : Int) (wi ((o : Int) + 4)) = some ((b.drop o).take 4) ∧ ofBE ((b.drop o).take 4) = num hs h o ∧ ((b.drop o).take 4).length = 4 := by
  have hb : hs[h]? = some hs[h] := List.getElem?_eq_getElem hh
  have h64 := hw hs[h] (List.getElem_mem hh)
  refine ⟨hs[h], idx_nat hh, hb, h64, ?_, ?_, by simp; omega⟩
  · rw [wi_id (by omega) (by omega)]
    exact cutI_mid (by omega) _ (by omega)
  · unfold num
    rw [List.getD_eq_getElem?_getD, hb]
    rfl
omit hl in
/-! ### What names a home, names another one -/
omit hl in
theorem n_name_hit {h o p4 w : Nat} (hh : h < hs.length) (ho : o + 4 ≤ 64) (he : num hs h o = w) (hp : p4 < 4294967296) (f : Nat) : m_R20_name_v0_l1 hs (w : Int) (p4 : Int) (f + 1) (h : Int) (o : Int) = some (hs.set h (wr4 (hs.getD h []) o p4)) := by
  obtain ⟨b, k1, k2, k3, k4, k5, k6⟩ := n_cut4 hw hh ho
  have hb : hs.getD h [] = b := by rw [List.getD_eq_getElem?_getD, k2]; rfl
  unfold m_R20_name_v0_l1
  rw [k1, Option.bind_some, k4, Option.bind_some, n_R01_Get, Option.bind_some, (getN_4 k6).1, k5, bif_pos (ieq_t (by omega)), Option.bind_some]
  have hne : b.isEmpty = false := by cases b with | nil => simp at k3 | cons _ _ => rfl
  rw [hne, bif_neg rfl, appI_ok (by rw [List.length_nil]; omega), Option.bind_some, List.nil_append]
  have ev : vcut b.length (o : Int) (wi ((o : Int) + 4)) = some () := by
    rw [wi_id (by omega) (by omega)]
    unfold vcut
    rw [if_pos ⟨by omega, by omega, by omega⟩]
  rw [ev, Option.bind_some]
  have en := n_number (n := p4) (k := 4) (by omega) (by omega) (by omega) (by omega)
  show Option.bind (m_R20_number (p4 : Int) ((4 : Nat) : Int)) _ = _
  rw [en, Option.bind_some, hne, bif_neg rfl, wi_id (by omega) (by omega), Int.toNat_natCast, show Int.toNat ((o : Int) + 4) - o = 4 by omega, show 0 + o * 1 = o by omega]
  have ec : cpyI b o 4 (be 4 p4) = some (wr4 b o p4) := by
    unfold cpyI
    rw [if_pos (by omega)]
    unfold cpyL wr4
    rw [be_length, Nat.min_self, List.take_of_length_le (l := be 4 p4) (by rw [be_length]; omega)]
  rw [ec, Option.bind_some, lenI_ok (wr4_len (by omega)), Option.bind_some, Option.bind_some, hb, Int.toNat_natCast]
omit hl in
end
end Go.Proofs.Ytjomnccladjpgaa

/-
  Plain: what an index does, held against what the document says.
-/
namespace Go.Proofs.Ytjomnccladjpgaa
open Go Go.RowKit
set_option linter.unusedVariables false
set_option linter.unusedSimpArgs false

/-- An index at a table of a transaction. -/
structure XIn (H : Hp) (x t tb : Nat) (hs : List (List UInt8)) (mp : List (Int × List UInt8)) : Prop where
  tn : TIn H t hs mp
  ix : H.ix[x]? = some ⟨some t, (tb : Int)⟩
  tbl : tb + 4 ≤ hs.length
section
variable {H : Hp} {x t tb : Nat} {hs : List (List UInt8)} {mp : List (Int × List UInt8)}
/-- What going through a bucket, up to a key, answers. -/
def EachR (hs : List (List UInt8)) (bk : Nat) (key : List UInt8) (n at_ sh so : Nat) (res : Option (S_index_spot × Int × S_index_node × Int)) : Prop := match (chn hs bk n at_).1.find? (fun y => y.2.Key == key) with
  | none => res = some (⟨0, 0⟩, 0, ⟨⟨[], 0, 0, 0⟩, 0⟩, if (chn hs bk n at_).2 then 35 else 11)
  | some y => ∃ a o nx, res = some (⟨((a : Nat) : Int), ((o : Nat) : Int)⟩, (y.1 : Int), ⟨y.2, ((nx : Nat) : Int)⟩, 0) ∧ stp hs bk y.1 = some (y.2, nx) ∧ y.2.Key = key ∧ a < hs.length ∧ o + 4 ≤ 64 ∧ num hs a o = y.1 ∧
        ∀ (p4 : Nat), p4 < 4294967296 → ∀ f, n < f → m_R20_name_v0_l1 hs (y.1 : Int) (p4 : Int) f (sh : Int) (so : Int) = some (hs.set a (wr4 (hs.getD a []) o p4))
theorem EachR.none {bk : Nat} {key : List UInt8} {n at_ sh so : Nat} {b : Bool} (hc : chn hs bk n at_ = ([], b)) : EachR hs bk key n at_ sh so (some (⟨0, 0⟩, 0, ⟨⟨[], 0, 0, 0⟩, 0⟩, if b then 35 else 11)) := by
  unfold EachR
  rw [hc]
  rfl
theorem EachR.hit (hw : ∀ r ∈ hs, r.length = 64) {bk : Nat} {key : List UInt8} {n at_ sh so nx : Nat} {e : S_api_Entry} (h0 : at_ ≠ 0) (hn : stp hs bk at_ = some (e, nx)) (hk : e.Key = key) (h1 : sh < hs.length) (h2 : so + 4 ≤ 64) (h3 : num hs sh so = at_) : EachR hs bk key (n + 1) at_ sh so (some (⟨(sh : Int), (so : Int)⟩, (at_ : Int), ⟨e, (nx : Int)⟩, 0)) := by
  unfold EachR
  rw [chn_some h0 hn, List.find?_cons_of_pos (by simpa using hk)]
  refine ⟨sh, so, nx, rfl, hn, hk, h1, h2, h3, fun p4 hp g hg => ?_⟩
  obtain ⟨g, rfl⟩ : ∃ g', g = g' + 1 := ⟨g - 1, by omega⟩
  exact n_name_hit hw h1 h2 h3 hp g
end
end Go.Proofs.Ytjomnccladjpgaa

/-
  Plain: put, set, drop and find are the document's.
-/
namespace Go.Proofs.Ytjomnccladjpgaa
open Go Go.RowKit
set_option linter.unusedVariables false
set_option linter.unusedSimpArgs false

end Go.Proofs.Ytjomnccladjpgaa
