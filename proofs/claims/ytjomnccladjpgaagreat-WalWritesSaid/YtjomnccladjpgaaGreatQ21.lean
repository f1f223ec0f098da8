/-
  Texts joined: see the remark at the head of each part.
-/
import Derived.Test.YtjomnccladjpgaaGreatQ20
import Derived.Test.YtjomnccladjpgaaGreatQ11
set_option linter.unusedVariables false
set_option linter.unusedSimpArgs false
/-
 Plain: a disk whose fuse burns, and a crash that tears writes.
-/
namespace Go.Proofs.YtjomnccladjpgaaGreat
open Go Go.RowKit
set_option linter.unusedVariables false
set_option linter.unusedSimpArgs false
def Dsk.burn (d : Dsk) : Dsk := if d.fuse < 0 then d else ⟨d.kept, d.now, d.wait, d.fuse - 1, decide (d.fuse = 0), d.lives⟩
theorem Dsk.burn_neg {d : Dsk} (h : d.fuse < 0) : d.burn = d := if_pos h
theorem Dsk.burn_pos {d : Dsk} (h : 0 ≤ d.fuse) : d.burn = ⟨d.kept, d.now, d.wait, d.fuse - 1, decide (d.fuse = 0), d.lives⟩ := if_neg (by omega)
def over (x b : List UInt8) (c : Nat) : List UInt8 := b.take c ++ x.drop c
theorem zG8 {x b : List UInt8} {c : Nat} (hx : x.length = 64) (hb : b.length = 64) : (over x b c).length = 64 := by simp [over]; omega
def tear : List (List UInt8) → List qZ → List UInt8 → List (List UInt8)
 | k, w :: r, c :: cs => tear (k.set w.n_.toNat (over (k.getD w.n_.toNat []) w.b_ (min c.toNat 64))) r cs
 | k, _, _ => k
theorem zG7 : ∀ (l : List qZ) (k : List (List UInt8)) (cs : List UInt8), (tear k l cs).length = k.length
 | [], k, cs => by cases cs <;> rfl
 | w :: r, k, [] => rfl
 | w :: r, k, c :: cs => by
  show (tear (k.set _ _) r cs).length = _
  rw [zG7 r, List.length_set]
section
variable {H : Hp} {i : Nat} {d : Dsk}
theorem n_burnF {x : zH} (h : H.dk[i]? = some x) (hf : 0 ≤ x.fuse_) (hf2 : x.fuse_ < 9223372036854775808) : ∃ H', yS (some i) H = some (decide (x.fuse_ = 0), H') ∧ H'.dk[i]? = some ⟨x.kept_, x.now_, x.wait_, x.fuse_ - 1, decide (x.fuse_ = 0), x.lives_⟩ ∧ H'.sec = H.sec ∧ H'.lg = H.lg := by
 have hil : i < H.dk.length := (List.getElem?_eq_some_iff.1 h).1
 have e : (x.fuse_ == 0) = decide (x.fuse_ = 0) := rfl
 unfold yS
 show ∃ H', Option.bind (H.dk[i]?) _ = _ ∧ _
 rw [h, Option.bind_some, zD (zZ (by omega))]
 refine ⟨_, rfl, ?_, rfl, rfl⟩
 show ((H.dk.set i _).set i _)[i]? = _
 rw [List.getElem?_set_self (by simp; omega)]
 show some (zH.mk _ _ _ (wi (x.fuse_ - 1)) _ _) = _
 rw [yB (by omega) (by omega)]
 rfl
theorem n_WriteF (h : DIn H i d) (ho : d.off = false) (hf2 : d.fuse < 9223372036854775808) {k : Nat} (hk : k < d.now.length) {x : List UInt8} (hx : x.length = 64) (hw : d.wait.length < 1000000) :
  ∃ H', zX (some i) (k : Int) x H = some (if d.fuse = 0 then 30 else 0, H') ∧ DIn H' i (Dsk.burn { d with now := d.now.set k x, wait := d.wait ++ [⟨k, x⟩] }) ∧ H'.lg = H.lg := by
 by_cases hf : d.fuse < 0
 ·
  obtain ⟨H', e1, e2, e3⟩ := n_Write h ho hf hk hx hw
  exact ⟨H', by rw [if_neg (by omega)]; exact e1, by rw [Dsk.burn_neg (by exact hf)]; exact e2, e3⟩
 ·
  have hm := n_may h ho hk
  obtain ⟨⟨a, b, ks, ns, hab, hd, hk1, hn, ek, en⟩, h4, h5, h6⟩ := h
  have hl : ns.length = d.now.length := by rw [← en, List.length_map]
  have hil : i < H.dk.length := (List.getElem?_eq_some_iff.1 hd).1
  have hbl : b < H.sec.length := (List.getElem?_eq_some_iff.1 hn).1
  let X : zH := ⟨(a, ks.length), (b, ns.length), d.wait ++ [⟨k, x⟩], d.fuse, d.off, d.lives⟩
  have g1 : ((H.st_dk i X).st_sec b (ns.set k x)).dk[i]? = some X := List.getElem?_set_self hil
  obtain ⟨H', q1, q2, q3, q4⟩ := n_burnF g1 (by show 0 ≤ d.fuse; omega) hf2
  refine ⟨H', ?_, ?_, q4⟩
  ·
   unfold zX
   rw [hm, Option.bind_some, zD (by rfl), zD (zBH (by omega))]
   have e1 : s2aI 64 x = some x := by
    unfold s2aI
    rw [if_pos (by omega), List.take_of_length_le (by omega)]
   rw [e1, Option.bind_some]
   show Option.bind (H.dk[i]?) _ = _
   rw [hd, Option.bind_some, zBV (by show (d.wait.length + _) * _ ≤ _; simp; omega), Option.bind_some]
   show Option.bind (H.sec[b]?) _ = _
   rw [hn, Option.bind_some]
   unfold lenI
   rw [if_pos rfl, Option.bind_some, qY (by omega), Option.bind_some]
   show Option.bind (yS (some i) ((H.st_dk i X).st_sec b (ns.set k x))) _ = _
   rw [q1, Option.bind_some]
   show (bif decide (d.fuse = 0) then some (30, H') else some (0, H')) = _
   by_cases h0 : d.fuse = 0
   · rw [zE (qK h0), if_pos h0]
   · rw [zD (zZ h0), if_neg h0]
  ·
   rw [Dsk.burn_pos (by show 0 ≤ d.fuse; omega)]
   refine ⟨⟨a, b, ks, ns.set k x, hab, ?_, ?_, ?_, ek, ?_⟩, ?_, ?_, ?_⟩
   · rw [q2, List.length_set]
   ·
    rw [q3]
    show (H.sec.set b _)[a]? = _
    rw [List.getElem?_set_ne (fun e => hab e.symm), hk1]
   ·
    rw [q3]
    exact List.getElem?_set_self hbl
   ·
    show _ = d.now.set k x
    rw [List.map_set, en, zIy hx]
   ·
    show d.kept.length = (d.now.set k x).length
    rw [List.length_set, h4]
   ·
    intro w hw
    show 0 ≤ w.n_ ∧ w.n_ < ((d.now.set k x).length : Int) ∧ _
    rw [List.length_set]
    rcases List.mem_append.1 hw with hw | hw
    · exact h5 w hw
    ·
     rw [List.mem_singleton.1 hw]
     exact ⟨by show (0 : Int) ≤ (k : Int); omega, by show (k : Int) < _; omega, hx⟩
   ·
    show d.now.set k x = apw d.kept (d.wait ++ [⟨k, x⟩])
    rw [zG5, ← h6]
    rfl
theorem n_FlushF (h : DIn H i d) (ho : d.off = false) (hf2 : d.fuse < 9223372036854775808) (h0 : 0 < d.now.length) (hw : d.wait.length < 1000000) :
  ∃ H', qD (some i) H = some (if d.fuse = 0 then 30 else 0, H') ∧ DIn H' i (Dsk.burn (if d.fuse = 0 then d else { d with kept := d.now, wait := [] })) ∧ H'.lg = H.lg := by
 by_cases hf : d.fuse < 0
 ·
  obtain ⟨H', e1, e2, e3⟩ := n_Flush h ho hf h0 hw
  exact ⟨H', by rw [if_neg (by omega)]; exact e1, by rw [if_neg (by omega), Dsk.burn_neg (by exact hf)]; exact e2, e3⟩
 ·
  have hm := n_may h ho h0
  obtain ⟨⟨a, b, ks, ns, hab, hd, hk1, hn, ek, en⟩, h4, h5, h6⟩ := h
  have hl : ns.length = d.now.length := by rw [← en, List.length_map]
  have hl2 : ks.length = d.kept.length := by rw [← ek, List.length_map]
  obtain ⟨H1, q1, q2, q3, q4⟩ := n_burnF hd (by show 0 ≤ d.fuse; omega) hf2
  unfold qD
  rw [show ((0 : Nat) : Int) = 0 from rfl] at hm
  rw [hm, Option.bind_some, zD (by rfl), q1, Option.bind_some]
  by_cases hz : d.fuse = 0
  ·
   rw [zE (qK hz), if_pos hz, if_pos hz, Dsk.burn_pos (by omega)]
   exact ⟨H1, rfl, ⟨⟨a, b, ks, ns, hab, q2, by rw [q3]; exact hk1, by rw [q3]; exact hn, ek, en⟩, h4, h5, h6⟩, q4⟩
  ·
   rw [zD (zZ hz), if_neg hz, if_neg hz, Dsk.burn_pos (by show 0 ≤ d.fuse; omega)]
   show ∃ H', Option.bind (H1.dk[i]?) _ = _ ∧ _
   rw [q2, Option.bind_some]
   obtain ⟨H', ks', g1, g2, g3, g4, g5, g6, g7⟩ := zGT hab (X := ⟨(a, ks.length), (b, ns.length), d.wait, d.fuse - 1, decide (d.fuse = 0), d.lives⟩) (L := ks.length) rfl (fun w hw => by have := h5 w hw; exact ⟨this.1, by omega, this.2.2⟩) (by show d.wait.length < _; omega) i ns (d.wait.length + 1) 0 H1 ks (Nat.zero_le _) (by show d.wait.length - 0 < _; omega) q2 (by rw [q3]; exact hk1) (by rw [q3]; exact hn) rfl
   have e : ks'.map pad = d.now := by
    rw [g5, ek, h6]
    rfl
   exact ⟨H', g1, ⟨⟨a, b, ks', ns, hab, by rw [g2, g7], g3, g4, e, en⟩, rfl, fun w hw => absurd hw List.not_mem_nil, rfl⟩, by rw [g6, q4]⟩
theorem n_may_off (h : DIn H i d) (h0 : 0 < d.now.length) (ho : d.off = true) (k : Int) : zAP (some i) k H = some 30 := by
 have hi := n_is h h0
 obtain ⟨⟨a, b, ks, ns, hab, hd, hk1, hn, ek, en⟩, _⟩ := h
 unfold zAP
 rw [hi, Option.bind_some]
 show Option.bind (H.dk[i]?) _ = _
 rw [hd, Option.bind_some]
 show (bif d.off then _ else bif decide (k < 0) then _ else bif decide (k ≥ (ns.length : Int)) then _ else some 0) = _
 rw [ho, zE (by rfl)]
theorem zH5 {a b : Nat} (hab : a ≠ b) {X : zH} {L : Nat} (hXk : X.kept_ = (a, L)) (hw : ∀ w ∈ X.wait_, 0 ≤ w.n_ ∧ w.n_ < (L : Int) ∧ w.b_.length = 64) (hwl : X.wait_.length < 4611686018427387904) (ch : List UInt8) (i : Nat) (ns : List (List UInt8)) : ∀ (n j : Nat) (H : Hp) (ks : List (List UInt8)), j ≤ X.wait_.length → X.wait_.length - j < n → H.dk[i]? = some X → H.sec[a]? = some ks → H.sec[b]? = some ns → ks.length = L →
  ∃ H' ks', zAL X ch (some i) i n (j : Int) H = yX (some i) H' ∧ H'.dk[i]? = some X ∧ H'.sec[a]? = some ks' ∧ H'.sec[b]? = some ns ∧ ks'.map pad = tear (ks.map pad) (X.wait_.drop j) (ch.drop j) ∧ H'.lg = H.lg ∧ ks'.length = L
 | 0, j, _, _, _, h, _, _, _, _ => by omega
 | n + 1, j, H, ks, hj, h, hd, hk, hn, hL => by
  unfold zAL
  by_cases hlt : j < X.wait_.length
  ·
   obtain ⟨h1, h2, h3⟩ := hw _ (List.getElem_mem hlt)
   have hal : a < H.sec.length := (List.getElem?_eq_some_iff.1 hk).1
   rw [zE (qK (by omega)), qY hlt, Option.bind_some]
   by_cases hc : j < ch.length
   ·
    have hr : X.wait_[j].n_.toNat < ks.length := by omega
    have e3 : idx ks X.wait_[j].n_ = some (ks[X.wait_[j].n_.toNat]'hr) := by
     have := qY (l := ks) (i := X.wait_[j].n_.toNat) hr
     rwa [Int.toNat_of_nonneg h1] at this
    have e1 : Hp.ge_sec H X.kept_.1 = some ks := by rw [hXk]; exact hk
    have e2 : lenI ks.length X.kept_.2 = some () := by
     unfold lenI
     rw [hXk, if_pos hL]
    rw [zD (zZ (by omega)), qY hc, Option.bind_some]
    show ∃ H' ks', Option.bind (H.dk[i]?) _ = _ ∧ _
    rw [hd, Option.bind_some, e1, Option.bind_some, e2, Option.bind_some, e3, Option.bind_some]
    have em : (if 64 < ((ch[j].toNat : Nat) : Int) then (64 : Int) else ((ch[j].toNat : Nat) : Int)) = ((min ch[j].toNat 64 : Nat) : Int) := by
     split <;> omega
    have hm : min ch[j].toNat 64 ≤ 64 := Nat.min_le_right _ _
    rw [em]
    generalize hcm : min ch[j].toNat 64 = c at hm
    have e4 : vcut 64 0 (c : Int) = some () := by
     unfold vcut
     rw [if_pos ⟨by omega, by omega, by omega⟩]
    have e5 : cutI (padA (0 : UInt8) X.wait_[j].b_ 0 64) 0 (c : Int) = some (X.wait_[j].b_.take c) := by
     rw [show padA (0 : UInt8) X.wait_[j].b_ 0 64 = X.wait_[j].b_ from zIy h3, zIz (by omega)]
    rw [e4, Option.bind_some, e5, Option.bind_some, yK (by omega)]
    have e6 : cpyL (padA (0 : UInt8) (ks[X.wait_[j].n_.toNat]'hr) 0 64) 0 (Int.toNat (c : Int) - Int.toNat 0) (X.wait_[j].b_.take c) = over (pad (ks[X.wait_[j].n_.toNat]'hr)) X.wait_[j].b_ c := by
     unfold cpyL over
     rw [show Int.toNat (c : Int) - Int.toNat 0 = c from rfl, List.take_zero, List.nil_append, List.take_take, Nat.min_self, List.length_take, show 0 + min (min c X.wait_[j].b_.length) c = c by omega]
    rw [e6]
    generalize hov : over (pad (ks[X.wait_[j].n_.toNat]'hr)) X.wait_[j].b_ c = y
    have hy : y.length = 64 := by rw [← hov]; exact zG8 (pad_len _) h3
    have hk' : (H.st_sec X.kept_.1 (ks.set X.wait_[j].n_.toNat y)).sec[a]? = some (ks.set X.wait_[j].n_.toNat y) := by
     rw [hXk]
     exact List.getElem?_set_self hal
    have hn' : (H.st_sec X.kept_.1 (ks.set X.wait_[j].n_.toNat y)).sec[b]? = some ns := by
     rw [hXk]
     show (H.sec.set a _)[b]? = _
     rw [List.getElem?_set_ne hab, hn]
    obtain ⟨H', ks', g1, g2, g3, g4, g5, g6, g7⟩ := zH5 hab hXk hw hwl ch i ns n (j + 1) (H.st_sec X.kept_.1 (ks.set X.wait_[j].n_.toNat y)) _ (by omega) (by omega) (show _ from hd) hk' hn' (by rw [List.length_set, hL])
    refine ⟨H', ks', g1, g2, g3, g4, ?_, g6, g7⟩
    rw [g5, List.drop_eq_getElem_cons hlt, List.drop_eq_getElem_cons hc, List.map_set, zIy hy]
    show _ = tear ((ks.map pad).set _ (over ((ks.map pad).getD _ []) _ (min ch[j].toNat 64))) _ _
    rw [hcm, List.getD_eq_getElem?_getD, List.getElem?_map, List.getElem?_eq_getElem hr]
    show _ = tear ((ks.map pad).set _ (over (pad (ks[X.wait_[j].n_.toNat]'hr)) X.wait_[j].b_ c)) _ _
    rw [hov]
   ·
    rw [zE (qK (by omega))]
    refine ⟨H, ks, rfl, hd, hk, hn, ?_, rfl, hL⟩
    rw [List.drop_of_length_le (l := ch) (by omega), List.drop_eq_getElem_cons hlt]
    rfl
  ·
   have e : j = X.wait_.length := by omega
   subst e
   rw [zD (zZ (by omega))]
   refine ⟨H, ks, rfl, hd, hk, hn, ?_, rfl, hL⟩
   rw [List.drop_length]
   cases ch.drop X.wait_.length <;> rfl
theorem zK1 {a : Nat} {ks : List (List UInt8)} {X : zH} (hX : X.kept_ = (a, ks.length)) (hd : H.dk[i]? = some X) (hk1 : H.sec[a]? = some ks) (h0 : 0 < ks.length) (hl : ks.length < 1000000) :
  ∃ H', yX (some i) H = some (0, H') ∧ DIn H' i ⟨ks.map pad, ks.map pad, [], -1, false, wi (X.lives_ + 1)⟩ ∧ H'.lg = H.lg := by
 have hal : a < H.sec.length := (List.getElem?_eq_some_iff.1 hk1).1
 have hil : i < H.dk.length := (List.getElem?_eq_some_iff.1 hd).1
 unfold yX
 show ∃ H', Option.bind (H.dk[i]?) _ = _ ∧ _
 rw [hd, Option.bind_some]
 have e1 : Hp.ge_sec H X.kept_.1 = some ks := by rw [hX]; exact hk1
 rw [e1, Option.bind_some, hX]
 unfold lenI zCU
 rw [if_pos rfl, Option.bind_some, zBV (by simp; omega), Option.bind_some, List.nil_append]
 have hne : ks.isEmpty = false := by
  cases ks with
  | nil => simp at h0
  | cons x r => rfl
 rw [zD hne]
 refine ⟨_, rfl, ⟨⟨a, H.sec.length, ks, ks, by omega, ?_, ?_, ?_, rfl, rfl⟩, rfl, fun w hw => absurd hw List.not_mem_nil, rfl⟩, rfl⟩
 ·
  show ((((((H.dk.set i _).set i _).set i _).set i _).set i _)[i]?) = _
  rw [List.getElem?_set_self (by simp; omega)]
 ·
  show (H.sec ++ [ks])[a]? = _
  rw [List.getElem?_append_left hal, hk1]
 ·
  show (H.sec ++ [ks])[H.sec.length]? = _
  simp
theorem n_CrashC (h : DIn H i d) (h0 : 0 < d.now.length) (hl0 : d.now.length < 1000000) (hw : d.wait.length < 1000000) (ch : List UInt8) :
  ∃ H', zAZ (some i) ch H = some (0, H') ∧ DIn H' i ⟨tear d.kept d.wait ch, tear d.kept d.wait ch, [], -1, false, wi (d.lives + 1)⟩ ∧ H'.lg = H.lg := by
 have hi := n_is h h0
 obtain ⟨⟨a, b, ks, ns, hab, hd, hk1, hn, ek, en⟩, h4, h5, h6⟩ := h
 have hl2 : ks.length = d.kept.length := by rw [← ek, List.length_map]
 unfold zAZ
 rw [hi, Option.bind_some, zD (by rfl)]
 show ∃ H', Option.bind (H.dk[i]?) _ = _ ∧ _
 rw [hd, Option.bind_some]
 obtain ⟨H1, ks', g1, g2, g3, g4, g5, g6, g7⟩ := zH5 hab (X := ⟨(a, ks.length), (b, ns.length), d.wait, d.fuse, d.off, d.lives⟩) (L := ks.length) rfl (fun w hw => by have := h5 w hw; exact ⟨this.1, by omega, this.2.2⟩) (by show d.wait.length < _; omega) ch i ns (d.wait.length + 1) 0 H ks (Nat.zero_le _) (by show d.wait.length - 0 < _; omega) hd hk1 hn rfl
 obtain ⟨H2, q1, q2, q3⟩ := zK1 (by rw [g7]) g2 g3 (by omega) (by omega)
 rw [ek] at g5
 refine ⟨H2, g1.trans q1, ?_, by rw [q3, g6]⟩
 rw [g5] at q2
 exact q2
end
end Go.Proofs.YtjomnccladjpgaaGreat

/-
 Plain: the document's disk holds what the program's holds.
-/
namespace Go.Proofs.YtjomnccladjpgaaGreat
open Go Go.RowKit
set_option linter.unusedVariables false
set_option linter.unusedSimpArgs false
def rW (w : qZ) : zDX := ⟨w.n_, w.b_⟩
structure Dok (d : Dsk) : Prop where
 len : d.kept.length = d.now.length
 wok : ∀ w ∈ d.wait, 0 ≤ w.n_ ∧ w.n_ < (d.now.length : Int) ∧ w.b_.length = 64
 same : d.now = apw d.kept d.wait
 row : ∀ r ∈ d.kept, r.length = 64
 n0 : 0 < d.now.length
 n1 : d.now.length ≤ 100
 f0 : -1 ≤ d.fuse
 f1 : d.fuse ≤ 9223372036854775807
structure RIn (H : Hp) (k : Nat) (d : Dsk) : Prop where
 at_ : ∃ a, H.rd[k]? = some ⟨(a, d.kept.length), d.wait.map rW, d.fuse, d.off, d.lives⟩ ∧ H.rs[a]? = some d.kept
theorem RIn.fr {H H' : Hp} {k : Nat} {d : Dsk} (h : RIn H k d) (f : FrQ H H') : RIn H' k d := ⟨by rw [f.rd, f.rs]; exact h.at_⟩
theorem DIn.fr {H H' : Hp} {i : Nat} {d : Dsk} (h : DIn H i d) (f : FrR H H') : DIn H' i d := DIn.lg h f.dk f.sec
def Dsk.wr (d : Dsk) (k : Nat) (x : List UInt8) : Dsk := Dsk.burn { d with now := d.now.set k x, wait := d.wait ++ [⟨k, x⟩] }
def Dsk.fl (d : Dsk) : Dsk := Dsk.burn (if d.fuse = 0 then d else { d with kept := d.now, wait := [] })
def Dsk.e (d : Dsk) : Int := if d.fuse = 0 then 30 else 0
theorem zIn (d : Dsk) : d.burn.now = d.now ∧ d.burn.kept = d.kept ∧ d.burn.wait = d.wait ∧ d.burn.lives = d.lives := by
 unfold Dsk.burn
 split <;> exact ⟨rfl, rfl, rfl, rfl⟩
theorem zIg (d : Dsk) (h : d.off = false) : d.burn.off = decide (d.fuse = 0) := by
 unfold Dsk.burn
 split
 · rw [h]; symm; exact zZ (by omega)
 · rfl
theorem Dok.burn {d : Dsk} (h : Dok d) : Dok d.burn := by
 obtain ⟨e1, e2, e3, _⟩ := zIn d
 obtain ⟨a1, a2, a3, a4, a5, a6, a7, a8⟩ := h
 refine ⟨by rw [e1, e2]; exact a1, by rw [e1, e3]; exact a2, by rw [e1, e2, e3]; exact a3, by rw [e2]; exact a4, by rw [e1]; exact a5, by rw [e1]; exact a6, ?_, ?_⟩
 ·
  unfold Dsk.burn
  split
  · exact a7
  · show -1 ≤ d.fuse - 1; omega
 ·
  unfold Dsk.burn
  split
  · exact a8
  · show d.fuse - 1 ≤ _; omega
theorem apw_row : ∀ (l : List qZ) (k : List (List UInt8)), (∀ r ∈ k, r.length = 64) → (∀ w ∈ l, w.b_.length = 64) → ∀ r ∈ apw k l, r.length = 64
 | [], k, hk, _ => hk
 | w :: r, k, hk, hw => apw_row r _ (fun x hx => by
   rcases List.mem_or_eq_of_mem_set hx with h | h
   · exact hk x h
   · rw [h]; exact hw w List.mem_cons_self) fun v hv => hw v (List.mem_cons_of_mem _ hv)
theorem Dok.nrow {d : Dsk} (h : Dok d) : ∀ r ∈ d.now, r.length = 64 := by
 rw [h.same]
 exact apw_row _ _ h.row fun w hw => (h.wok w hw).2.2
theorem Dok.wr {d : Dsk} (h : Dok d) {k : Nat} {x : List UInt8} (hk : k < d.now.length) (hx : x.length = 64) : Dok (d.wr k x) := by
 refine Dok.burn ?_
 obtain ⟨a1, a2, a3, a4, a5, a6, a7, a8⟩ := h
 refine ⟨?_, fun w hw => ?_, ?_, a4, ?_, ?_, a7, a8⟩
 · show _ = (d.now.set k x).length; rw [List.length_set]; exact a1
 ·
  show _ ∧ _ < ((d.now.set k x).length : Int) ∧ _
  rw [List.length_set]
  rcases List.mem_append.1 hw with hw | hw
  · exact a2 w hw
  ·
   rw [List.mem_singleton.1 hw]
   exact ⟨by show (0 : Int) ≤ (k : Int); omega, by show (k : Int) < _; omega, hx⟩
 ·
  show d.now.set k x = apw d.kept (d.wait ++ [⟨k, x⟩])
  rw [zG5, ← a3]
  rfl
 · show 0 < (d.now.set k x).length; rw [List.length_set]; exact a5
 · show (d.now.set k x).length ≤ 100; rw [List.length_set]; exact a6
theorem Dok.fl {d : Dsk} (h : Dok d) : Dok d.fl := by
 refine Dok.burn ?_
 split
 · exact h
 · exact ⟨rfl, fun w hw => absurd hw List.not_mem_nil, rfl, h.nrow, h.n0, h.n1, h.f0, h.f1⟩
theorem zDP (d : Dsk) (k : Nat) (x : List UInt8) : (d.wr k x).now.length = d.now.length ∧ (d.wr k x).lives = d.lives ∧ (d.wr k x).wait.length = d.wait.length + 1 := by
 unfold Dsk.wr
 obtain ⟨e1, e2, e3, e4⟩ := zIn { d with now := d.now.set k x, wait := d.wait ++ [⟨k, x⟩] }
 rw [e1, e3, e4]
 exact ⟨List.length_set, rfl, by simp⟩
theorem zD4 (d : Dsk) : d.fl.now.length = d.now.length ∧ d.fl.now = d.now ∧ d.fl.lives = d.lives ∧ d.fl.wait.length ≤ d.wait.length := by
 unfold Dsk.fl
 obtain ⟨e1, e2, e3, e4⟩ := zIn (if d.fuse = 0 then d else { d with kept := d.now, wait := [] })
 rw [e1, e3, e4]
 split
 · exact ⟨rfl, rfl, rfl, Nat.le_refl _⟩
 · exact ⟨rfl, rfl, rfl, Nat.zero_le _⟩
theorem zGm {d : Dsk} (h : d.off = false) (k : Nat) (x : List UInt8) : (d.wr k x).off = decide (d.fuse = 0) := zIg _ h
theorem zIC {d : Dsk} (h : d.off = false) : d.fl.off = decide (d.fuse = 0) := by
 unfold Dsk.fl
 by_cases h0 : d.fuse = 0
 · rw [if_pos h0]; exact zIg _ h
 · rw [if_neg h0]; exact zIg _ h
theorem e_ne {d : Dsk} (h : d.fuse ≠ 0) : d.e = 0 := if_neg h
theorem e_eq {d : Dsk} (h : d.fuse = 0) : d.e = 30 := if_pos h
section
variable {H : Hp} {k : Nat} {d : Dsk}
theorem r_burn {x : zO} (h : H.rd[k]? = some x) (hf : -1 ≤ x.Fuse) (hf2 : x.Fuse ≤ 9223372036854775807) (ho : x.Off = false) : ∃ H', zBu (some k) H = some (decide (x.Fuse = 0), H') ∧ H'.rd[k]? = some ⟨x.Kept, x.Wait, if x.Fuse < 0 then x.Fuse else x.Fuse - 1, decide (x.Fuse = 0), x.Lives⟩ ∧ H'.rs = H.rs ∧ H'.rl = H.rl ∧ FrR H H' := by
 have hk : k < H.rd.length := (List.getElem?_eq_some_iff.1 h).1
 unfold zBu
 show ∃ H', Option.bind (H.rd[k]?) _ = _ ∧ _
 rw [h, Option.bind_some]
 by_cases h0 : x.Fuse = 0
 ·
  rw [zE (zDB h0)]
  unfold zBj
  show ∃ H', Option.bind ((H.rd.set k _)[k]?) _ = _ ∧ _
  rw [List.getElem?_set_self hk, Option.bind_some, zE (qK (by show x.Fuse ≥ 0; omega))]
  unfold zAw
  show ∃ H', Option.bind (((H.rd.set k _).set k _)[k]?) _ = _ ∧ _
  rw [List.getElem?_set_self (by simp; omega), Option.bind_some]
  rw [qK h0]
  refine ⟨_, rfl, ?_, rfl, rfl, ⟨rfl, rfl, rfl, rfl, rfl, rfl⟩⟩
  show ((H.rd.set k _).set k _)[k]? = _
  rw [List.getElem?_set_self (by simp; omega), if_neg (by omega)]
  show some (zO.mk _ _ (wi (x.Fuse - 1)) _ _) = _
  rw [yB (by omega) (by omega)]
 ·
  rw [zD (zBq h0)]
  unfold zBj
  show ∃ H', Option.bind (H.rd[k]?) _ = _ ∧ _
  rw [h, Option.bind_some]
  by_cases hn : x.Fuse < 0
  ·
   rw [zD (zZ (by omega))]
   unfold zAw
   show ∃ H', Option.bind (H.rd[k]?) _ = _ ∧ _
   rw [h, Option.bind_some]
   rw [zZ h0]
   refine ⟨H, by rw [ho], ?_, rfl, rfl, .refl _⟩
   rw [h, if_pos hn, ← ho]
  ·
   rw [zE (qK (by omega))]
   unfold zAw
   show ∃ H', Option.bind ((H.rd.set k _)[k]?) _ = _ ∧ _
   rw [List.getElem?_set_self hk, Option.bind_some]
   rw [zZ h0, ho]
   refine ⟨_, rfl, ?_, rfl, rfl, ⟨rfl, rfl, rfl, rfl, rfl, rfl⟩⟩
   show (H.rd.set k _)[k]? = _
   rw [List.getElem?_set_self hk, if_neg hn, yB (by omega) (by omega)]
theorem zJv (d : Dsk) (ho : d.off = false) : d.burn = ⟨d.kept, d.now, d.wait, if d.fuse < 0 then d.fuse else d.fuse - 1, decide (d.fuse = 0), d.lives⟩ := by
 unfold Dsk.burn
 split
 ·
  rw [zZ (by omega)]
  cases d
  simp only at ho
  rw [ho]
 · rfl
theorem wr_eq (d : Dsk) (ho : d.off = false) (p : Nat) (x : List UInt8) : d.wr p x = ⟨d.kept, d.now.set p x, d.wait ++ [⟨p, x⟩], if d.fuse < 0 then d.fuse else d.fuse - 1, decide (d.fuse = 0), d.lives⟩ := zJv _ ho
theorem fl_eq (d : Dsk) (ho : d.off = false) (h0 : d.fuse ≠ 0) : d.fl = ⟨d.now, d.now, [], if d.fuse < 0 then d.fuse else d.fuse - 1, decide (d.fuse = 0), d.lives⟩ := by
 unfold Dsk.fl
 rw [if_neg h0]
 exact zJv _ ho
theorem zHe (h : RIn H k d) (g : Dok d) (ho : d.off = false) {p : Nat} (hp : p < d.now.length) {x : List UInt8} (hx : x.length = 64) (hw : d.wait.length < 1000000) :
  ∃ H', yH (some k) (p : Int) x H = some (d.e, H') ∧ RIn H' k (d.wr p x) ∧ H'.rl = H.rl ∧ FrR H H' := by
 obtain ⟨a, h1, h2⟩ := h.at_
 have hk : k < H.rd.length := (List.getElem?_eq_some_iff.1 h1).1
 have hl := g.len
 unfold yH
 show ∃ H', Option.bind (H.rd[k]?) _ = _ ∧ _
 rw [h1, Option.bind_some]
 show ∃ H', (bif d.off then _ else _) = _ ∧ _
 rw [ho, zD (by rfl), zD (zZ (by omega)), zD (zZ (by show ¬ (p : Int) ≥ (d.kept.length : Int); omega)), zD (zBH (by omega)), zBV (by simp; omega), Option.bind_some, List.nil_append, zBV (by show ((d.wait.map rW).length + _) * _ ≤ _; simp; omega), Option.bind_some]
 let X : zO := ⟨(a, d.kept.length), d.wait.map rW ++ [⟨p, x⟩], d.fuse, false, d.lives⟩
 have g1 : (H.st_rd k X).rd[k]? = some X := List.getElem?_set_self hk
 obtain ⟨H', q1, q2, q3, q4, q5⟩ := r_burn g1 g.f0 g.f1 rfl
 show ∃ H', Option.bind (zBu (some k) (H.st_rd k X)) _ = _ ∧ _
 rw [q1, Option.bind_some]
 refine ⟨H', ?_, ⟨⟨a, ?_, ?_⟩⟩, q4, ⟨q5.dk, q5.sec, q5.lg, q5.tx, q5.mp, q5.lo⟩⟩
 ·
  show (bif decide (d.fuse = 0) then some (30, H') else some (0, H')) = _
  by_cases h0 : d.fuse = 0
  · rw [zE (qK h0), e_eq h0]
  · rw [zD (zZ h0), e_ne h0]
 ·
  rw [q2]
  rw [wr_eq d ho]
  show some (zO.mk _ (d.wait.map rW ++ [zDX.mk p x]) _ _ _) = some (zO.mk _ ((d.wait ++ [qZ.mk p x]).map rW) _ _ _)
  rw [List.map_append]
  rfl
 ·
  rw [q3]
  show H.rs[a]? = _
  rw [h2]
  rw [wr_eq d ho]
theorem zH4 {a : Nat} {X : zO} {L : Nat} (hX : X.Kept = (a, L)) (W : List qZ) (hXW : X.Wait = W.map rW) (hW : ∀ w ∈ W, 0 ≤ w.n_ ∧ w.n_ < (L : Int) ∧ w.b_.length = 64) (hl : W.length < 1000000) : ∀ (n j : Nat) (H : Hp) (ks : List (List UInt8)), j ≤ W.length → W.length - j < n → H.rd[k]? = some X → H.rs[a]? = some ks → ks.length = L →
  ∃ H', zBL k n (j : Int) H = some (0, H') ∧ H'.rd[k]? = some ⟨X.Kept, [], X.Fuse, X.Off, X.Lives⟩ ∧ H'.rs[a]? = some (apw ks (W.drop j)) ∧ H'.rl = H.rl ∧ FrR H H'
 | 0, j, _, _, _, h, _, _, _ => by omega
 | n + 1, j, H, ks, hj, h, hd, hk, hL => by
  have hkl : k < H.rd.length := (List.getElem?_eq_some_iff.1 hd).1
  have hal : a < H.rs.length := (List.getElem?_eq_some_iff.1 hk).1
  unfold zBL
  show ∃ H', Option.bind (H.rd[k]?) _ = _ ∧ _
  rw [hd, Option.bind_some]
  have hwl : X.Wait.length = W.length := by rw [hXW, List.length_map]
  by_cases hlt : j < W.length
  ·
   obtain ⟨h1, h2, h3⟩ := hW _ (List.getElem_mem hlt)
   have e1 : idx X.Wait (j : Int) = some (rW W[j]) := by
    rw [qY (by omega)]
    simp [hXW]
   have e2 : Hp.ge_rs H X.Kept.1 = some ks := by rw [hX]; exact hk
   have e3 : lenI ks.length X.Kept.2 = some () := by
    unfold lenI
    rw [hX, if_pos hL]
   have hr : W[j].n_.toNat < ks.length := by omega
   have e4 : idx ks (rW W[j]).N = some (ks[W[j].n_.toNat]'hr) := by
    have := qY (l := ks) (i := W[j].n_.toNat) hr
    rwa [Int.toNat_of_nonneg h1] at this
   rw [zE (qK (by omega)), e1, Option.bind_some, Option.bind_some, e2, Option.bind_some, e3, Option.bind_some, e4, Option.bind_some, yK (by omega)]
   have hk' : (H.st_rs X.Kept.1 (ks.set (Int.toNat (rW W[j]).N) (rW W[j]).B)).rs[a]? = some (ks.set W[j].n_.toNat W[j].b_) := by
    rw [hX]
    exact List.getElem?_set_self hal
   obtain ⟨H', g1, g2, g3, g4, g5⟩ := zH4 hX W hXW hW hl n (j + 1) (H.st_rs X.Kept.1 (ks.set (Int.toNat (rW W[j]).N) (rW W[j]).B)) _ (by omega) (by omega) hd hk' (by rw [List.length_set, hL])
   refine ⟨H', g1, g2, ?_, g4, ⟨g5.dk, g5.sec, g5.lg, g5.tx, g5.mp, g5.lo⟩⟩
   rw [g3, List.drop_eq_getElem_cons hlt]
   rfl
  ·
   have e : j = W.length := by omega
   subst e
   rw [zD (zZ (by omega)), List.drop_length]
   unfold zC3
   show ∃ H', Option.bind (H.rd[k]?) _ = _ ∧ _
   rw [hd, Option.bind_some]
   exact ⟨_, rfl, List.getElem?_set_self hkl, hk, rfl, ⟨rfl, rfl, rfl, rfl, rfl, rfl⟩⟩
theorem sum_ge {l : List zO} {k : Nat} {x : zO} (h : l[k]? = some x) : x.Wait.length ≤ (l.map fun x => x.Wait.length).sum := by
 induction l generalizing k with
 | nil => simp at h
 | cons y r ih =>
  cases k with
  | zero => injection h with h; subst h; simp
  | succ k =>
   have := ih (k := k) (by simpa using h)
   simp only [List.map_cons, List.sum_cons]
   omega
theorem zHZ (h : RIn H k d) (g : Dok d) (ho : d.off = false) (hw : d.wait.length < 1000000) :
  ∃ H', yJ (some k) H = some (d.e, H') ∧ RIn H' k d.fl ∧ H'.rl = H.rl ∧ FrR H H' := by
 obtain ⟨a, h1, h2⟩ := h.at_
 have hl := g.len
 unfold yJ
 show ∃ H', Option.bind (H.rd[k]?) _ = _ ∧ _
 rw [h1, Option.bind_some]
 show ∃ H', (bif d.off then _ else _) = _ ∧ _
 rw [ho, zD (by rfl)]
 obtain ⟨H1, q1, q2, q3, q4, q5⟩ := r_burn h1 g.f0 g.f1 ho
 rw [q1, Option.bind_some]
 by_cases h0 : d.fuse = 0
 ·
  have e : d.fl = d.burn := by unfold Dsk.fl; rw [if_pos h0]
  rw [zE (qK h0), e_eq h0, e, zJv _ ho]
  exact ⟨H1, rfl, ⟨a, q2, by rw [q3]; exact h2⟩, q4, q5⟩
 ·
  rw [zD (zZ h0), e_ne h0, fl_eq d ho h0]
  obtain ⟨H', g1, g2, g3, g4, g5⟩ := zH4 (k := k) (X := ⟨(a, d.kept.length), d.wait.map rW, if d.fuse < 0 then d.fuse else d.fuse - 1, decide (d.fuse = 0), d.lives⟩) (L := d.kept.length) rfl d.wait rfl (fun w hw => by rw [hl]; exact g.wok w hw) hw (((H1.rd.map fun x => x.Wait.length).sum) + 1) 0 H1 d.kept (Nat.zero_le _) (by have := sum_ge q2; rw [List.length_map] at this; omega) q2 (by rw [q3]; exact h2) rfl
  refine ⟨H', g1, ⟨a, ?_, ?_⟩, g4.trans q4, q5.trans g5⟩
  ·
   rw [g2]
   show some (zO.mk (a, d.kept.length) [] _ _ _) = some (zO.mk (a, d.now.length) [] _ _ _)
   rw [hl]
  · rw [g3, List.drop_zero, ← g.same]
end
end Go.Proofs.YtjomnccladjpgaaGreat

/-
 Plain: the document's disk read, crashed and made; the program's disk, its answers told the same way.
-/
namespace Go.Proofs.YtjomnccladjpgaaGreat
open Go Go.RowKit
set_option linter.unusedVariables false
set_option linter.unusedSimpArgs false
section
variable {H : Hp} {k : Nat} {d : Dsk}
theorem r_At_l2 {a : Nat} {X : zO} (W : List qZ) (hXW : X.Wait = W.map rW) (ks : List (List UInt8)) (hX : X.Kept = (a, ks.length)) (hd : H.rd[k]? = some X) (hk : H.rs[a]? = some ks) (hW : ∀ w ∈ W, 0 ≤ w.n_) (hl : W.length < 1000000) {p : Nat} (hp : p < ks.length) : ∀ (n j : Nat), j ≤ W.length → j < n →
  zBX X (p : Int) (some k) H n ((j : Int) - 1) = (apw ks (W.take j))[p]?
 | 0, j, _, h => by omega
 | n + 1, j, hj, h => by
  unfold zBX
  cases j with
  | zero =>
   rw [zD (zZ (by omega))]
   unfold zDu
   show Option.bind (H.rd[k]?) _ = _
   rw [hd, Option.bind_some]
   have e2 : Hp.ge_rs H X.Kept.1 = some ks := by rw [hX]; exact hk
   have e3 : lenI ks.length X.Kept.2 = some () := by
    unfold lenI
    rw [hX, if_pos rfl]
   rw [e2, Option.bind_some, e3, Option.bind_some, qY hp, Option.bind_some]
   show _ = ks[p]?
   rw [List.getElem?_eq_getElem hp]
  | succ j =>
   have hlt : j < W.length := by omega
   have e1 : idx X.Wait (j : Int) = some (rW W[j]) := by
    rw [qY (by rw [hXW, List.length_map]; exact hlt)]
    simp [hXW]
   have h0 := hW _ (List.getElem_mem hlt)
   rw [zE (qK (by omega)), show ((j + 1 : Nat) : Int) - 1 = (j : Int) by omega, e1, Option.bind_some, ← List.take_append_getElem hlt, zG5, yB (by omega) (by omega), r_At_l2 W hXW ks hX hd hk hW hl hp n j (by omega) (by omega)]
   show (bif (W[j].n_ == (p : Int)) then some W[j].b_ else _) = _
   by_cases he : W[j].n_ = (p : Int)
   · rw [zE (zDB he), List.getElem?_set, if_pos (by omega), if_pos (by rw [apw_len]; omega)]
   · rw [zD (zBq he), List.getElem?_set_ne (by omega)]
theorem r_At (h : RIn H k d) (g : Dok d) (hw : d.wait.length < 1000000) {p : Nat} {r : List UInt8} (hr : d.now[p]? = some r) : zBi (some k) (p : Int) H = some r := by
 obtain ⟨a, h1, h2⟩ := h.at_
 have hp : p < d.now.length := (List.getElem?_eq_some_iff.1 hr).1
 have hl := g.len
 unfold zBi
 show Option.bind (H.rd[k]?) _ = _
 rw [h1, Option.bind_some]
 have hml : (d.wait.map rW).length = d.wait.length := List.length_map ..
 show zBX _ (p : Int) (some k) H (Int.toNat (wi (((d.wait.map rW).length : Int) - 1)) + 2) (wi (((d.wait.map rW).length : Int) - 1)) = _
 rw [hml, yB (by omega) (by omega), r_At_l2 (X := ⟨(a, d.kept.length), d.wait.map rW, d.fuse, d.off, d.lives⟩) d.wait rfl d.kept rfl h1 h2 (fun w hw => (g.wok w hw).1) hw (by omega) _ d.wait.length (Nat.le_refl _) (by omega), List.take_length, ← g.same, hr]
def Dsk.rdA (d : Dsk) (z : Int) : List UInt8 × Int := if d.off then ([], 30) else if z < 0 ∨ (d.now.length : Int) ≤ z then ([], 31) else (d.now.getD z.toNat [], 0)
theorem zKh (h : RIn H k d) (g : Dok d) (hw : d.wait.length < 1000000) (z : Int) : zBP (some k) z H = some (d.rdA z) := by
 obtain ⟨a, h1, h2⟩ := h.at_
 have hl := g.len
 unfold zBP Dsk.rdA
 show Option.bind (H.rd[k]?) _ = _
 rw [h1, Option.bind_some]
 show (bif d.off then _ else _) = _
 cases ho : d.off with
 | true => rw [zE (by rfl), if_pos rfl]
 | false =>
  rw [zD (by rfl), if_neg (by simp)]
  by_cases h0 : z < 0
  · rw [zE (qK h0), if_pos (.inl h0)]
  ·
   rw [zD (zZ h0)]
   by_cases h3 : (d.now.length : Int) ≤ z
   · rw [zE (qK (by show z ≥ (d.kept.length : Int); omega)), if_pos (.inr h3)]
   ·
    obtain ⟨p, rfl⟩ := Int.eq_ofNat_of_zero_le (show 0 ≤ z by omega)
    have hp : p < d.now.length := by omega
    rw [zD (zZ (by show ¬ (p : Int) ≥ (d.kept.length : Int); omega)), if_neg (by omega), r_At h g hw (List.getElem?_eq_getElem hp), Option.bind_some, Int.toNat_natCast, List.getD_eq_getElem?_getD, List.getElem?_eq_getElem hp]
    rfl
theorem r_Fused (h : RIn H k d) (p : Int) : ∃ H', zA2 (some k) p H = some H' ∧ RIn H' k { d with fuse := if p < 0 then -1 else p } ∧ H'.rl = H.rl ∧ FrR H H' := by
 obtain ⟨a, h1, h2⟩ := h.at_
 have hk : k < H.rd.length := (List.getElem?_eq_some_iff.1 h1).1
 unfold zA2
 show ∃ H', Option.bind (H.rd[k]?) _ = _ ∧ _
 rw [h1, Option.bind_some]
 by_cases h0 : p < 0
 ·
  rw [zE (qK h0), if_pos h0]
  refine ⟨_, rfl, ⟨⟨a, ?_, h2⟩⟩, rfl, ⟨rfl, rfl, rfl, rfl, rfl, rfl⟩⟩
  show ((H.rd.set k _).set k _)[k]? = _
  rw [List.getElem?_set_self (by simp; omega)]
 ·
  rw [zD (zZ h0), if_neg h0]
  refine ⟨_, rfl, ⟨⟨a, ?_, h2⟩⟩, rfl, ⟨rfl, rfl, rfl, rfl, rfl, rfl⟩⟩
  show (H.rd.set k _)[k]? = _
  rw [List.getElem?_set_self hk]
theorem zHw {X : zO} {W : List qZ} {ch was b : List UInt8} {j : Nat} (hXW : X.Wait = W.map rW) (hj : j < W.length) (hb : W[j].b_ = b) (hbl : b.length = 64) (hwl : was.length = 64) (hchl : ch.length < 1000000) (hWl : W.length < 1000000) (kl : Option Nat → Int → Hp → Option Hp) (x17 : List (List UInt8)) (i : Nat) (H : Hp) :
  ∀ (n z : Nat) (y : List UInt8), z ≤ 64 → 64 - z < n → y.length = 64 → y.take z = (over was b (match ch[j]? with | some c => min c.toNat 64 | none => 0)).take z →
  zAA kl was (j : Int) ch X x17 i H n (z : Int) y = zB7 kl X (j : Int) x17 i H (over was b (match ch[j]? with | some c => min c.toNat 64 | none => 0))
 | 0, z, y, _, h, _, _ => by omega
 | n + 1, z, y, hz, h, hy, ht => by
  unfold zAA
  generalize hN : over was b (match ch[j]? with | some c => min c.toNat 64 | none => 0) = N at ht ⊢
  have hNl : N.length = 64 := by rw [← hN]; exact zG8 hwl hbl
  by_cases hlt : z < 64
  ·
   have hjw : idx X.Wait (j : Int) = some (rW W[j]) := by
    rw [qY (by rw [hXW, List.length_map]; exact hj)]
    simp [hXW]
   have hzw : z < was.length := by omega
   have hzb : z < b.length := by omega
   rw [zE (qK (by omega)), qY hzw, Option.bind_some, qY (by omega), Option.bind_some]
   have hput : ∀ x, N[z]? = some x → (y.set z x).take (z + 1) = N.take (z + 1) := fun x hx => by
    rw [List.take_add_one, List.take_add_one, List.take_set_of_le (Nat.le_refl _), ht, hx, List.getElem?_set_self (by omega)]
   have hset2 : ∀ x x', ((y.set z x).set z x') = y.set z x' := fun x x' => List.set_set ..
   have rec_ := fun y' (h1 : y'.length = 64) (h2 : y'.take (z + 1) = N.take (z + 1)) => zHw hXW hj hb hbl hwl hchl hWl kl x17 i H n (z + 1) y' (by omega) (by omega) h1 (by rw [hN]; exact h2)
   by_cases hc : j < ch.length
   ·
    have ech : ch[j]? = some ch[j] := List.getElem?_eq_getElem hc
    rw [zE (qK (by omega)), qY hc, Option.bind_some]
    have hNz : N[z]? = if z < ch[j].toNat then some b[z] else some was[z] := by
     rw [← hN, ech]
     unfold over
     simp only
     by_cases hzc : z < ch[j].toNat
     · rw [if_pos hzc, List.getElem?_append_left (by simp; omega), List.getElem?_take, if_pos (by omega), List.getElem?_eq_getElem hzb]
     · rw [if_neg hzc, List.getElem?_append_right (by simp; omega), List.getElem?_drop, List.length_take, show min ch[j].toNat 64 + (z - min (min ch[j].toNat 64) b.length) = z by omega, List.getElem?_eq_getElem hzw]
    unfold zBO
    by_cases hzc : z < ch[j].toNat
    ·
     rw [zE (qK (by omega)), hjw, Option.bind_some]
     have e3 : idx (rW W[j]).B (z : Int) = some b[z] := by
      show idx W[j].b_ (z : Int) = _
      rw [hb, qY hzb]
     rw [e3, Option.bind_some, qY (by rw [List.length_set]; omega), Option.bind_some]
     unfold zAl
     rw [Int.toNat_natCast, hset2, yK (by omega), rec_ _ (by rw [List.length_set]; exact hy) (hput _ (by rw [hNz, if_pos hzc])), hN]
    ·
     rw [zD (zZ (by omega))]
     unfold zAl
     rw [Int.toNat_natCast, yK (by omega), rec_ _ (by rw [List.length_set]; exact hy) (hput _ (by rw [hNz, if_neg hzc])), hN]
   ·
    have ech : ch[j]? = none := List.getElem?_eq_none (by omega)
    have hNz : N[z]? = some was[z] := by
     rw [← hN, ech]
     unfold over
     simp only [List.take_zero, List.nil_append, List.drop_zero]
     exact List.getElem?_eq_getElem hzw
    rw [zD (zZ (by omega))]
    unfold zBO
    rw [zD (by rfl)]
    unfold zAl
    rw [Int.toNat_natCast, yK (by omega), rec_ _ (by rw [List.length_set]; exact hy) (hput _ hNz), hN]
  ·
   have e : z = 64 := by omega
   subst e
   rw [List.take_of_length_le (by omega), List.take_of_length_le (by omega)] at ht
   rw [zD (zZ (by omega)), ht]
theorem set_self_ {α : Type} (l : List α) (i : Nat) (x : α) (h : l[i]? = some x) : l.set i x = l := by
 apply List.ext_getElem?
 intro j
 rw [List.getElem?_set]
 split
 ·
  rename_i e
  subst e
  rw [h]
  split
  · rfl
  ·
   rename_i hh
   have := (List.getElem?_eq_some_iff.1 h).1
   exact absurd this hh
 · rfl
theorem zIM {a : Nat} {X : zO} {L : Nat} (hX : X.Kept = (a, L)) (W : List qZ) (hXW : X.Wait = W.map rW) (hW : ∀ w ∈ W, 0 ≤ w.n_ ∧ w.n_ < (L : Int) ∧ w.b_.length = 64) (hl : W.length < 1000000) (ch : List UInt8) (hchl : ch.length < 1000000) : ∀ (n j : Nat) (H : Hp) (ks : List (List UInt8)), j ≤ W.length → W.length - j < n → H.rd[k]? = some X → H.rs[a]? = some ks → ks.length = L → (∀ r ∈ ks, r.length = 64) →
  ∃ H', yC ch n (some k) (j : Int) H = some H' ∧ H'.rd[k]? = some ⟨X.Kept, [], -1, false, wi (X.Lives + 1)⟩ ∧ H'.rs[a]? = some (tear ks (W.drop j) (ch.drop j)) ∧ H'.rl = H.rl ∧ FrR H H'
 | 0, j, _, _, _, h, _, _, _, _ => by omega
 | n + 1, j, H, ks, hj, h, hd, hk, hL, hrow => by
  have hkl : k < H.rd.length := (List.getElem?_eq_some_iff.1 hd).1
  have hal : a < H.rs.length := (List.getElem?_eq_some_iff.1 hk).1
  unfold yC
  show ∃ H', Option.bind (H.rd[k]?) _ = _ ∧ _
  rw [hd, Option.bind_some]
  have hwl : X.Wait.length = W.length := by rw [hXW, List.length_map]
  by_cases hlt : j < W.length
  ·
   obtain ⟨h1, h2, h3⟩ := hW _ (List.getElem_mem hlt)
   have e1 : idx X.Wait (j : Int) = some (rW W[j]) := by
    rw [qY (by omega)]
    simp [hXW]
   have e2 : Hp.ge_rs H X.Kept.1 = some ks := by rw [hX]; exact hk
   have e3 : lenI ks.length X.Kept.2 = some () := by
    unfold lenI
    rw [hX, if_pos hL]
   have hr : W[j].n_.toNat < ks.length := by omega
   have e4 : idx ks (rW W[j]).N = some (ks[W[j].n_.toNat]'hr) := by
    have := qY (l := ks) (i := W[j].n_.toNat) hr
    rwa [Int.toNat_of_nonneg h1] at this
   have hwas : (ks[W[j].n_.toNat]'hr).length = 64 := hrow _ (List.getElem_mem hr)
   rw [zE (qK (by omega)), e1, Option.bind_some, e2, Option.bind_some, e3, Option.bind_some, e4, Option.bind_some, show mkI 1 64 = some 64 from mk_1 64 (by omega), Option.bind_some]
   have hin := zHw (ch := ch) hXW hlt rfl h3 hwas hchl hl (yC ch n) ks k H (Int.toNat 64 + 1) 0 (List.replicate 64 0) (by omega) (by show 64 - 0 < 65; omega) (by simp) (by simp)
   rw [show ((0 : Nat) : Int) = 0 from rfl] at hin
   rw [hin]
   generalize hN : over (ks[W[j].n_.toNat]'hr) W[j].b_ (match ch[j]? with | some c => min c.toNat 64 | none => 0) = N
   have hNl : N.length = 64 := by rw [← hN]; exact zG8 hwas h3
   unfold zB7
   rw [e1, Option.bind_some, e3, Option.bind_some, e4, Option.bind_some, yK (by omega)]
   have hk' : (H.st_rs X.Kept.1 (ks.set (Int.toNat (rW W[j]).N) N)).rs[a]? = some (ks.set W[j].n_.toNat N) := by
    rw [hX]
    exact List.getElem?_set_self hal
   obtain ⟨H', g1, g2, g3, g4, g5⟩ := zIM hX W hXW hW hl ch hchl n (j + 1) (H.st_rs X.Kept.1 (ks.set (Int.toNat (rW W[j]).N) N)) _ (by omega) (by omega) hd hk' (by rw [List.length_set, hL]) (fun r hr => by
    rcases List.mem_or_eq_of_mem_set hr with h | h
    · exact hrow r h
    · rw [h]; exact hNl)
   refine ⟨H', g1, g2, ?_, g4, ⟨g5.dk, g5.sec, g5.lg, g5.tx, g5.mp, g5.lo⟩⟩
   rw [g3, List.drop_eq_getElem_cons hlt]
   by_cases hc : j < ch.length
   ·
    rw [List.drop_eq_getElem_cons hc]
    show some (tear _ _ _) = some (tear (ks.set _ (over (ks.getD _ []) _ (min ch[j].toNat 64))) _ _)
    rw [List.getD_eq_getElem?_getD, List.getElem?_eq_getElem hr, ← hN, List.getElem?_eq_getElem hc]
    rfl
   ·
    have ech : ch[j]? = none := List.getElem?_eq_none (by omega)
    rw [ech] at hN
    rw [List.drop_of_length_le (l := ch) (by omega), List.drop_of_length_le (l := ch) (i := j) (by omega), ← hN]
    show some (tear (ks.set _ (ks[W[j].n_.toNat]'hr)) _ []) = some ks
    rw [set_self_ _ _ _ (List.getElem?_eq_getElem hr)]
    cases W.drop (j + 1) <;> rfl
  ·
   have e : j = W.length := by omega
   subst e
   rw [zD (zZ (by omega)), List.drop_length]
   unfold zC4
   show ∃ H', Option.bind (H.rd[k]?) _ = _ ∧ _
   rw [hd, Option.bind_some]
   refine ⟨_, rfl, ?_, ?_, rfl, ⟨rfl, rfl, rfl, rfl, rfl, rfl⟩⟩
   ·
    show ((((H.rd.set k _).set k _).set k _).set k _)[k]? = _
    rw [List.getElem?_set_self (by simp; omega)]
   ·
    show H.rs[a]? = _
    rw [hk]
    cases ch.drop W.length <;> rfl
def Dsk.cr (d : Dsk) (ch : List UInt8) : Dsk := ⟨tear d.kept d.wait ch, tear d.kept d.wait ch, [], -1, false, wi (d.lives + 1)⟩
theorem zJ2 : ∀ (l : List qZ) (k : List (List UInt8)) (cs : List UInt8), (∀ r ∈ k, r.length = 64) → (∀ w ∈ l, 0 ≤ w.n_ ∧ w.n_ < (k.length : Int) ∧ w.b_.length = 64) → ∀ r ∈ tear k l cs, r.length = 64
 | [], k, cs, hk, _ => by cases cs <;> exact hk
 | w :: r, k, [], hk, _ => hk
 | w :: r, k, c :: cs, hk, hw => by
  obtain ⟨w1, w2, w3⟩ := hw w List.mem_cons_self
  have hlt : w.n_.toNat < k.length := by omega
  refine zJ2 r _ cs (fun x hx => ?_) fun v hv => by rw [List.length_set]; exact hw v (List.mem_cons_of_mem _ hv)
  rcases List.mem_or_eq_of_mem_set hx with h | h
  · exact hk x h
  ·
   rw [h]
   refine zG8 ?_ w3
   rw [List.getD_eq_getElem?_getD, List.getElem?_eq_getElem hlt]
   exact hk _ (List.getElem_mem hlt)
theorem Dok.cr (g : Dok d) (ch : List UInt8) : Dok (d.cr ch) := by
 have hl := g.len
 have ht := zG7 d.wait d.kept ch
 refine ⟨rfl, fun w hw => absurd hw List.not_mem_nil, rfl, zJ2 _ _ _ g.row fun w hw => by rw [hl]; exact g.wok w hw, ?_, ?_, by show (-1 : Int) ≤ -1; omega, by show (-1 : Int) ≤ _; omega⟩
 · show 0 < (tear d.kept d.wait ch).length; rw [ht]; have := g.n0; omega
 · show (tear d.kept d.wait ch).length ≤ 100; rw [ht]; have := g.n1; omega
theorem r_Crash (h : RIn H k d) (g : Dok d) (hw : d.wait.length < 1000000) (ch : List UInt8) (hch : ch.length < 1000000) :
  ∃ H', zCC (some k) ch H = some H' ∧ RIn H' k (d.cr ch) ∧ H'.rl = H.rl ∧ FrR H H' := by
 obtain ⟨a, h1, h2⟩ := h.at_
 have hl := g.len
 unfold zCC
 obtain ⟨H', q1, q2, q3, q4, q5⟩ := zIM (k := k) (X := ⟨(a, d.kept.length), d.wait.map rW, d.fuse, d.off, d.lives⟩) (L := d.kept.length) rfl d.wait rfl (fun w hw => by rw [hl]; exact g.wok w hw) hw ch hch (((H.rd.map fun x => x.Wait.length).sum) + 1) 0 H d.kept (Nat.zero_le _) (by have := sum_ge h1; rw [List.length_map] at this; omega) h1 h2 rfl g.row
 refine ⟨H', q1, ⟨⟨a, ?_, q3⟩⟩, q4, q5⟩
 rw [q2]
 show some (zO.mk (a, d.kept.length) [] _ _ _) = some (zO.mk (a, (tear d.kept d.wait ch).length) [] _ _ _)
 rw [zG7]
 rfl
end
end Go.Proofs.YtjomnccladjpgaaGreat

/-
 Plain: what a log does.
-/
namespace Go.Proofs.YtjomnccladjpgaaGreat
open Go Go.RowKit
set_option linter.unusedVariables false
set_option linter.unusedSimpArgs false
theorem n_pair {α : Type} (a b : List α) (ha : a.length < 4611686018427387904) (eq : α → α → Option Bool) (F : Nat → Int → Option Bool)
  (hF : ∀ n z, F (n + 1) z = bif decide (z < (a.length : Int)) then (Option.bind (idx a z) fun x => Option.bind (idx b z) fun y => Option.bind (eq x y) fun e => bif (!e) then some false else F n (wi (z + 1))) else some true)
  (heq : ∀ x ∈ a, ∀ y, ∃ r, eq x y = some r ∧ (r = true ↔ x = y)) [DecidableEq α] : (bif ((a.length : Int) != (b.length : Int)) then some false else F (a.length + 1) 0) = some (decide (a = b)) := by
 by_cases hl : a.length = b.length
 ·
  rw [zD (zBH (by omega))]
  obtain ⟨r, h1, h2⟩ := zJL a b hl ha eq F hF heq (a.length + 1) 0 (by omega) (by omega)
  rw [show ((0 : Nat) : Int) = 0 from rfl] at h1
  rw [h1]
  congr 1
  rw [Bool.eq_iff_iff, h2, decide_eq_true_iff]
  rfl
 · rw [zE (zDL (by omega)), decide_eq_false (fun e => hl (by rw [e]))]
theorem n_Equal (a b : List UInt8) (ha : a.length < 4611686018427387904) : zCA a b = some (decide (a = b)) :=
 n_pair a b ha (fun x y => some ((x.toNat : Int) == (y.toNat : Int))) (zBU a b) (fun n z => rfl) fun x _ y => ⟨_, rfl, by rw [beq_iff_eq, ← UInt8.toNat_inj]; omega⟩
def atE (st : Nat) (r : List UInt8) : zV := ⟨((r.headD 0).toNat : Int), (ofBE ((r.drop 1).take 4) : Int), (r.drop 5).take 32, decide (r = zAz (r.headD 0).toNat (ofBE ((r.drop 1).take 4)) ((r.drop 5).take 32) st)⟩
theorem zF8 {k n st : Nat} {d : List UInt8} (hk : k < 256) (hn : n < 4294967296) (hd : d.length = 32) : atE st (zAz k n d st) = ⟨k, n, d, true⟩ := by
 have e : zAz k n d st = UInt8.ofNat k :: (be 4 n ++ (d ++ (List.replicate (47 - d.length) 0 ++ (be 4 (Crc.crc (zC1 k n d ++ be 8 st)) ++ be 8 st)))) := by
  simp [zAz, zC1]
 have h1 : (zAz k n d st).headD 0 = UInt8.ofNat k := by rw [e]; rfl
 have h2 : ((zAz k n d st).drop 1).take 4 = be 4 n := by rw [e, List.drop_succ_cons, List.drop_zero, List.take_left' (qB 4 n)]
 have h3 : ((zAz k n d st).drop 5).take 32 = d := by rw [e, List.drop_succ_cons, List.drop_left' (qB 4 n), List.take_left' hd]
 have h4 : (UInt8.ofNat k).toNat = k := by simp; omega
 unfold atE
 rw [h1, h2, h3, h4, ofBE_be, Nat.mod_eq_of_lt (by omega), decide_eq_true rfl]
theorem zLF (k n st : Nat) : zAz k n [] st = zAz k n (List.replicate 32 0) st := by
 have : zC1 k n [] = zC1 k n (List.replicate 32 0) := rfl
 unfold zAz
 rw [this]
structure LIn (H : Hp) (i j : Nat) (d : Dsk) (s base slot used : Nat) (com : Int) : Prop where
 dsk : DIn H i d
 off : d.off = false
 lg : H.lg[j]? = some ⟨some i, s, base, slot, used, d.lives, com⟩
 s3 : 3 ≤ s
 sl : 2 + s < d.now.length
 ln : d.now.length ≤ 16384
 bs : base ≤ 2305843009213693952
structure WIn (H : Hp) (i j : Nat) (d : Dsk) (s base slot used : Nat) (com : Int) : Prop extends LIn H i j d s base slot used com where
 fuse : d.fuse < 0
section
variable {H : Hp} {i j : Nat} {d : Dsk} {s base slot used : Nat} {com : Int}
theorem n_alive (h : LIn H i j d s base slot used com) : yU (some j) H = some 0 := by
 have := h.sl
 have h0 : 0 < d.now.length := by omega
 have hx := h.lg
 unfold yU
 show Option.bind (H.lg[j]?) _ = _
 rw [hx, Option.bind_some]
 show zAO (some j) H false = _
 unfold zAO
 rw [zD rfl]
 show Option.bind (H.lg[j]?) _ = _
 rw [hx, Option.bind_some]
 show Option.bind (zBN (some i) H) _ = _
 rw [n_Off h.dsk h0, Option.bind_some, h.off, zD rfl]
 show Option.bind (zAH (some i) H) _ = _
 rw [zJb h.dsk h0, Option.bind_some, zD (zBH rfl)]
theorem zIS (h : LIn H i j d s base slot used com) : qP (some j) H = some ((d.now.length - 2 - s : Nat) : Int) := by
 have := h.sl
 have := h.ln
 unfold qP
 show Option.bind (H.lg[j]?) _ = _
 rw [h.lg, Option.bind_some]
 show Option.bind (zAR (some i) H) _ = _
 rw [zHU h.dsk (by omega), Option.bind_some]
 show some (wi (wi ((d.now.length : Int) - 2) - (s : Int))) = _
 rw [yB (z := (d.now.length : Int) - 2) (by omega) (by omega), yB (by omega) (by omega)]
 congr 1
 omega
theorem n_home (h : LIn H i j d s base slot used com) (k : Nat) (hk : k ≤ 100000) : zCI (some j) (k : Int) H = some ((2 + s + k : Nat) : Int) := by
 have := h.sl
 have := h.ln
 unfold zCI
 show Option.bind (H.lg[j]?) _ = _
 rw [h.lg, Option.bind_some]
 show some (wi (wi (2 + (s : Int)) + (k : Int))) = _
 rw [yB (z := 2 + (s : Int)) (by omega) (by omega), yB (by omega) (by omega)]
 congr 1
theorem n_LRead (h : LIn H i j d s base slot used com) {k : Nat} {r : List UInt8} (hr : d.now[2 + s + k]? = some r) : yW (some j) (k : Int) H = some (r, 0) := by
 have := h.ln
 have := h.sl
 have hk : 2 + s + k < d.now.length := (List.getElem?_eq_some_iff.1 hr).1
 unfold yW
 rw [n_alive h, Option.bind_some, zD (zBH rfl), zD (zZ (by omega)), zIS h, Option.bind_some, zD (zZ (by omega))]
 show Option.bind (H.lg[j]?) _ = _
 rw [h.lg, Option.bind_some, n_home h k (by omega), Option.bind_some]
 show Option.bind (yI (some i) ((2 + s + k : Nat) : Int) H) _ = _
 rw [zKc h.dsk h.off hr]
 rfl
theorem n_at (h : LIn H i j d s base slot used com) {p : Nat} {r : List UInt8} (hp : p < s) (hr : d.now[2 + p]? = some r) : zAg (some j) (p : Int) H = some (atE (base + p) r) := by
 have := h.ln
 have := h.sl
 have := h.bs
 have hl := h.dsk.row hr
 unfold zAg
 show Option.bind (H.lg[j]?) _ = _
 rw [h.lg, Option.bind_some]
 show (bif decide ((p : Int) ≥ (s : Int)) then _ else _) = _
 rw [zD (zZ (by omega)), yB (z := 2 + (p : Int)) (by omega) (by omega)]
 show Option.bind (yI (some i) (2 + (p : Int)) H) _ = _
 rw [show 2 + (p : Int) = ((2 + p : Nat) : Int) by omega, zKc h.dsk h.off hr, Option.bind_some, zD (zBH rfl)]
 have e0 : idx r 0 = some (r.headD 0) := by
  cases r with
  | nil => cases hl
  | cons x t => rfl
 have e1 : cutI r 5 37 = some ((r.drop 5).take 32) := zCv (l := r) (lo := 5) (n := 32) (by omega) 37 rfl
 have e2 : cutI r 1 5 = some ((r.drop 1).take 4) := zCv (l := r) (lo := 1) (n := 4) (by omega) 5 rfl
 have g := zKL (b := (r.drop 1).take 4) (by simp; omega)
 have hb := zFV 4 ((r.drop 1).take 4) (by simp; omega)
 show Option.bind (idx r 0) _ = _
 rw [e0, Option.bind_some]
 show Option.bind (cutI r 5 37) _ = _
 rw [e1, Option.bind_some]
 show Option.bind (cutI r 1 5) _ = _
 rw [e2, Option.bind_some, n_Get, Option.bind_some, g.1, g.2]
 show Option.bind (zAW ⟨((r.headD 0).toNat : Int), (ofBE ((r.drop 1).take 4) : Int), (r.drop 5).take 32, false⟩ (wi ((base : Int) + (p : Int)))) _ = _
 rw [yB (z := (base : Int) + (p : Int)) (by omega) (by omega), show (base : Int) + (p : Int) = ((base + p : Nat) : Int) by omega]
 rw [n_bytes (by have := (r.headD 0).toNat_lt; omega) (by omega) (by simp; omega) (by omega), Option.bind_some]
 show Option.bind (zCA r _) _ = _
 rw [n_Equal r _ (by omega)]
 rfl
theorem zKJ (h : LIn H i j d s base slot used com) {p : Nat} (hp : s ≤ p) : zAg (some j) (p : Int) H = some ⟨0, 0, [], false⟩ := by
 unfold zAg
 show Option.bind (H.lg[j]?) _ = _
 rw [h.lg, Option.bind_some]
 show (bif decide ((p : Int) ≥ (s : Int)) then _ else _) = _
 rw [zE (qK (by omega))]
theorem n_Concat {a b : List UInt8} (ha : a.length = 32) (hb : b.length = 32) : zAf [a, b] = some (a ++ b) := by
 have j : zA4 [a, b] 64 = some (a ++ b) := by
  unfold zA4
  rw [show zCa 64 = some [] by decide +kernel, Option.bind_some]
  show yP [a, b] 3 [] 0 = _
  unfold yP
  rw [zE (by show decide ((0 : Int) < 2) = true; decide)]
  show Option.bind (some a) _ = _
  rw [Option.bind_some, zBV (by simp; omega), Option.bind_some]
  show yP [a, b] 2 _ 1 = _
  unfold yP
  rw [zE (by show decide ((1 : Int) < 2) = true; decide)]
  show Option.bind (some b) _ = _
  rw [Option.bind_some, zBV (by simp; omega), Option.bind_some]
  rfl
 unfold zAf
 show yR [a, b] 3 0 0 = _
 unfold yR
 rw [zE (by show decide ((0 : Int) < 2) = true; decide)]
 show Option.bind (some a) _ = _
 rw [Option.bind_some, ha, zD (by decide)]
 show yR [a, b] 2 32 1 = _
 unfold yR
 rw [zE (by show decide ((1 : Int) < 2) = true; decide)]
 show Option.bind (some b) _ = _
 rw [Option.bind_some, hb, zD (by decide)]
 exact j
def Good (s n : Nat) (ws : List zC) : Prop := ∀ w ∈ ws, 0 ≤ w.Home ∧ w.Home < ((n - 2 - s : Nat) : Int) ∧ w.Data.length = 64
structure Stand (H : Hp) (j : Nat) (ws : List zC) (T : Nat) : Prop where
 a : ∀ k (hk : k < ws.length), 2 * k < T → zAg (some j) ((2 * k : Nat) : Int) H = some ⟨1, ws[k].Home, ws[k].Data.take 32, true⟩
 b : ∀ k (hk : k < ws.length), 2 * k + 1 < T → zAg (some j) ((2 * k + 1 : Nat) : Int) H = some ⟨2, ws[k].Home, ws[k].Data.drop 32, true⟩
 c : 2 * ws.length < T → zAg (some j) ((2 * ws.length : Nat) : Int) H = some ⟨3, ws.length, List.replicate 32 0, true⟩
 t : ∃ e, zAg (some j) (T : Int) H = some e ∧ e.ok_ = false
end
end Go.Proofs.YtjomnccladjpgaaGreat

/-
 Plain: what a log does: redo, commit, checkpoint, format, open.
-/
namespace Go.Proofs.YtjomnccladjpgaaGreat
open Go Go.RowKit
set_option linter.unusedVariables false
set_option linter.unusedSimpArgs false
section
variable {H : Hp} {i j : Nat} {d : Dsk} {s base slot used : Nat} {com : Int}
theorem WIn.wr (h : WIn H i j d s base slot used com) {k : Nat} (hk : k < d.now.length) {x : List UInt8} (hx : x.length = 64) (hw : d.wait.length < 1000000) :
  ∃ H', zX (some i) (k : Int) x H = some (0, H') ∧ WIn H' i j { d with now := d.now.set k x, wait := d.wait ++ [⟨k, x⟩] } s base slot used com := by
 obtain ⟨H', e1, e2, e3⟩ := n_Write h.dsk h.off h.fuse hk hx hw
 refine ⟨H', e1, ⟨e2, h.off, by rw [e3]; exact h.lg, h.s3, ?_, ?_, h.bs⟩, h.fuse⟩
 ·
  show _ < (d.now.set k x).length
  rw [List.length_set]; exact h.sl
 ·
  show (d.now.set k x).length ≤ _
  rw [List.length_set]; exact h.ln
theorem WIn.fl (h : WIn H i j d s base slot used com) (hw : d.wait.length < 1000000) :
  ∃ H', qD (some i) H = some (0, H') ∧ WIn H' i j { d with kept := d.now, wait := [] } s base slot used com := by
 have := h.sl
 obtain ⟨H', e1, e2, e3⟩ := n_Flush h.dsk h.off h.fuse (by omega) hw
 exact ⟨H', e1, ⟨e2, h.off, by rw [e3]; exact h.lg, h.s3, h.sl, h.ln, h.bs⟩, h.fuse⟩
def rd (s : Nat) (now : List (List UInt8)) (ws : List zC) : List (List UInt8) := ws.foldl (fun t w => t.set (2 + s + w.Home.toNat) w.Data) now
theorem zGl (h : LIn H i j d s base slot used com) (ws : List zC) (hl : ws.length ≤ 10000) : (Good s d.now.length ws → qJ (some j) ws H = zAU (some j) H ws) ∧ (¬ Good s d.now.length ws → qJ (some j) ws H = some (2, H)) := by
 have key := zHR (len := ws.length) (qN ws H (some j)) (fun k => ∀ hk : k < ws.length, 0 ≤ ws[k].Home ∧ ws[k].Home < ((d.now.length - 2 - s : Nat) : Int) ∧ ws[k].Data.length = 64) (zAU (some j) H ws) (some (2, H)) (fun n k hk => by
  have hu : qN ws H (some j) (n + 1) (k : Int) = (bif decide (ws[k].Home < 0) then some (2, H) else bif decide (ws[k].Home ≥ ((d.now.length - 2 - s : Nat) : Int)) then some (2, H) else bif ((ws[k].Data.length : Int) != 64) then some (2, H) else qN ws H (some j) n ((k + 1 : Nat) : Int)) := by
   rw [qN, zE (qK (by omega)), qY hk, Option.bind_some, ptM_s, zIS h, Option.bind_some, yK (by omega)]
  rw [hu]
  refine ⟨fun hp => ?_, fun hp => ?_⟩
  ·
   obtain ⟨h1, h2, h3⟩ := hp hk
   rw [zD (zZ (by omega)), zD (zZ (by omega)), zD (zBH (by omega))]
  ·
   by_cases h1 : ws[k].Home < 0
   · rw [zE (qK h1)]
   ·
    rw [zD (zZ h1)]
    by_cases h2 : ws[k].Home < ((d.now.length - 2 - s : Nat) : Int)
    · rw [zD (zZ (by omega)), zE (zDL fun e => hp fun _ => ⟨by omega, h2, by omega⟩)]
    · rw [zE (qK (by omega))]) (fun n => by rw [qN, zD (zZ (by omega))]) (ws.length + 1) 0 (by omega) (by omega)
 have e : qJ (some j) ws H = qN ws H (some j) (ws.length + 1) ((0 : Nat) : Int) := by
  unfold qJ
  rw [n_alive h, Option.bind_some, zD (by rfl)]
  rfl
 rw [e]
 refine ⟨fun hg => key.1 fun k _ hk _ => hg _ (List.getElem_mem hk), fun hg => key.2 fun hc => hg fun w hw => ?_⟩
 obtain ⟨k, hk, rfl⟩ := List.getElem_of_mem hw
 exact hc k (by omega) hk hk
def ents : List zC → List zV
 | [] => []
 | w :: r => ⟨1, w.Home, w.Data.take 32, false⟩ :: ⟨2, w.Home, w.Data.drop 32, false⟩ :: ents r
def zCT (ws : List zC) : List zV := ents ws ++ [⟨3, ws.length, [], false⟩]
theorem zKR : ∀ a b : List zC, ents (a ++ b) = ents a ++ ents b
 | [], b => rfl
 | w :: r, b => by simp [ents, zKR r b]
theorem zEm : ∀ a : List zC, (ents a).length = 2 * a.length
 | [] => rfl
 | w :: r => by simp [ents, zEm r]; omega
theorem zDN (a : List zC) : (zCT a).length = 2 * a.length + 1 := by simp [zCT, zEm]
theorem ents_at (ws : List zC) : ∀ k (hk : k < ws.length), (ents ws)[2 * k]? = some ⟨1, ws[k].Home, ws[k].Data.take 32, false⟩ ∧ (ents ws)[2 * k + 1]? = some ⟨2, ws[k].Home, ws[k].Data.drop 32, false⟩ := by
 induction ws with
 | nil => intro k hk; cases hk
 | cons w r ih =>
  intro k hk
  cases k with
  | zero => exact ⟨rfl, rfl⟩
  | succ k =>
   have := ih k (by simp at hk; omega)
   exact ⟨this.1, this.2⟩
theorem n_entries (ws : List zC) (hl : ws.length ≤ 10000) (hg : ∀ w ∈ ws, w.Data.length = 64) : zEq ws = some (zCT ws) := by
 have key : ∀ (n k : Nat), k ≤ ws.length → ws.length - k < n → zCB ws n (ents (ws.take k)) (k : Int) = some (zCT ws) := by
  intro n
  induction n with
  | zero => intro k _ h; omega
  | succ n ih =>
   intro k hk h
   unfold zCB
   by_cases hlt : k < ws.length
   ·
    have h64 := hg _ (List.getElem_mem hlt)
    have e1 : cutI ws[k].Data 0 32 = some (ws[k].Data.take 32) := zIz (n := 32) (by omega)
    have e2 : cutI ws[k].Data 32 (ws[k].Data.length : Int) = some (ws[k].Data.drop 32) := cutI_drop (n := 32) (by omega)
    have hen : (ents (ws.take k)).length ≤ 20000 := by rw [zEm, List.length_take]; omega
    rw [zE (qK (by omega)), qY hlt, Option.bind_some, e1, Option.bind_some, e2, Option.bind_some, zBV (by simp; omega), Option.bind_some, yK (by omega)]
    have e : ents (ws.take k) ++ [⟨1, ws[k].Home, ws[k].Data.take 32, false⟩, ⟨2, ws[k].Home, ws[k].Data.drop 32, false⟩] = ents (ws.take (k + 1)) := by
     rw [← List.take_append_getElem hlt, zKR]
     rfl
    rw [e]
    exact ih (k + 1) (by omega) (by omega)
   ·
    have e : k = ws.length := by omega
    subst e
    rw [zD (zZ (by omega)), List.take_of_length_le (Nat.le_refl _)]
    unfold zDp
    rw [zBV (by rw [zEm]; simp; omega)]
    rfl
 exact key (ws.length + 1) 0 (by omega) (by omega)
def rowE (e : zV) (st : Nat) : List UInt8 := zAz e.kind_.toNat e.number_.toNat e.data_ st
def OkE (e : zV) : Prop := 0 ≤ e.kind_ ∧ e.kind_ < 256 ∧ 0 ≤ e.number_ ∧ e.number_ < 4294967296 ∧ e.data_.length ≤ 32
theorem zHB {e : zV} {st : Nat} (h : OkE e) : (rowE e st).length = 64 := zH1 h.2.2.2.2
theorem n_rowE {e : zV} {st : Nat} (h : OkE e) (hs : st ≤ 4611686018427387904) : zAW e (st : Int) = some (rowE e st) := by
 obtain ⟨k, n, dd, ok⟩ := e
 obtain ⟨h1, h2, h3, h4, h5⟩ := h
 have := n_bytes (k := k.toNat) (n := n.toNat) (st := st) (d := dd) (ok := ok) (by simp only at h1 h2; omega) (by simp only at h3 h4; omega) h5 hs
 rw [Int.toNat_of_nonneg h1, Int.toNat_of_nonneg h3] at this
 exact this
theorem ok_ents {s n : Nat} (ws : List zC) (hg : Good s n ws) (hn : n ≤ 16384) : ∀ e ∈ ents ws, OkE e := by
 induction ws with
 | nil => intro e he; cases he
 | cons w r ih =>
  obtain ⟨w1, w2, w3⟩ := hg w List.mem_cons_self
  intro e he
  rcases List.mem_cons.1 he with rfl | he
  · exact ⟨by show (0 : Int) ≤ 1; omega, by show (1 : Int) < 256; omega, w1, by show w.Home < _; omega, by show (w.Data.take 32).length ≤ 32; rw [List.length_take]; omega⟩
  ·
   rcases List.mem_cons.1 he with rfl | he
   · exact ⟨by show (0 : Int) ≤ 2; omega, by show (2 : Int) < 256; omega, w1, by show w.Home < _; omega, by show (w.Data.drop 32).length ≤ 32; rw [List.length_drop]; omega⟩
   · exact ih (fun w hw => hg w (List.mem_cons_of_mem _ hw)) e he
theorem zHA {s n : Nat} (ws : List zC) (hg : Good s n ws) (hn : n ≤ 16384) (hl : ws.length ≤ 10000) : ∀ e ∈ zCT ws, OkE e := by
 intro e he
 rcases List.mem_append.1 he with he | he
 · exact ok_ents ws hg hn e he
 ·
  rw [List.mem_singleton.1 he]
  exact ⟨by show (0 : Int) ≤ 3; omega, by show (3 : Int) < 256; omega, by show (0 : Int) ≤ (ws.length : Int); omega, by show (ws.length : Int) < _; omega, by show ([] : List UInt8).length ≤ 32; simp⟩
abbrev Z64 : List UInt8 := List.replicate 64 0
theorem zJl {H0 K : Hp} {x : zM} {b s n z : Nat} (hK : DIn K i d) (hx : K.lg[H0.lg.length]? = some x) (hz : z < 2) (hr : zAc (some i) (z : Int) K = some ((b : Int), (s : Int), true)) (hb : x.base_ < (b : Int)) :
  ∃ K', qW i H0 (n + 1) (z : Int) K = qW i H0 n ((z + 1 : Nat) : Int) K' ∧ K'.lg[H0.lg.length]? = some ⟨x.d_, s, b, z, x.used_, x.life_, x.commits_⟩ ∧ DIn K' i d := by
 have hl : H0.lg.length < K.lg.length := (List.getElem?_eq_some_iff.1 hx).1
 rw [qW, zE (qK (by omega)), hr, Option.bind_some, zE (by rfl)]
 show ∃ K', Option.bind (K.lg[H0.lg.length]?) _ = _ ∧ _
 rw [hx, Option.bind_some, qK (show (b : Int) > x.base_ from hb)]
 unfold zBk
 rw [zE (by rfl)]
 show ∃ K', Option.bind (K.lg[H0.lg.length]?) _ = _ ∧ _
 rw [hx, Option.bind_some, yK (by omega)]
 refine ⟨_, rfl, ?_, hK.lg rfl rfl⟩
 show (((K.lg.set H0.lg.length _).set H0.lg.length _).set H0.lg.length _)[H0.lg.length]? = _
 rw [List.getElem?_set_self (by simp; omega)]
end
end Go.Proofs.YtjomnccladjpgaaGreat

/-
 Plain: what the laws on the log share.
-/
namespace Go.Proofs.YtjomnccladjpgaaGreat
open Go Go.RowKit
set_option linter.unusedVariables false
set_option linter.unusedSimpArgs false
theorem awake18 : (zD8 Hp.e).map (·.1) = some true := by kernel_rfl
theorem n_awake : ∃ w1, zD8 Hp.e = some (true, w1) := by
 have := awake18
 cases h : zD8 Hp.e with
 | none => rw [h] at this; cases this
 | some p =>
  rw [h] at this
  injection this with this
  obtain ⟨b, w1⟩ := p
  exact ⟨w1, by rw [show b = true from this]⟩
theorem n_Few (ws : List zC) : ∃ r, zDI ws = some r ∧ (r = true → ws.length ≤ 10) := by
 unfold zDI
 by_cases h : ws.length ≤ 10
 ·
  rw [zD (zZ (by omega))]
  obtain ⟨r, h1, _⟩ := zIE (len := ws.length) (zAv ws) (fun k => ∀ hk : k < ws.length, ws[k].Data.length ≤ 100) True (fun n k hk => by
   refine ⟨decide (ws[k].Data.length ≤ 100), by simp [hk], ?_⟩
   rw [zAv, zE (qK (by omega)), qY hk, Option.bind_some, yK (by omega)]
   by_cases h1 : ws[k].Data.length ≤ 100
   · rw [zD (zZ (by omega)), qK h1]; rfl
   · rw [zE (qK (by omega)), zZ h1]; rfl) (fun n => by
   rw [zAv, zD (zZ (by omega))]
   exact ⟨true, rfl, by simp⟩) (ws.length + 1) 0 (by omega) (by omega)
  exact ⟨r, h1, fun _ => h⟩
 ·
  rw [zE (qK (by omega))]
  exact ⟨false, rfl, fun h => by cases h⟩
end Go.Proofs.YtjomnccladjpgaaGreat
