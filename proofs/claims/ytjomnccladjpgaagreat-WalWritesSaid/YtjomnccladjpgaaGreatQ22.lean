/-
  Texts joined: see the remark at the head of each part.
-/
import Derived.Test.YtjomnccladjpgaaGreatQ21
set_option linter.unusedVariables false
set_option linter.unusedSimpArgs false
/-
 Plain: what a log does to a disk whose power may go: told once for the program and the document; the program.
-/
namespace Go.Proofs.YtjomnccladjpgaaGreat
open Go Go.RowKit
set_option linter.unusedVariables false
set_option linter.unusedSimpArgs false
section
variable {H : Hp} {i : Nat} {d : Dsk}
theorem zHH (h : DIn H i d) (g : Dok d) (ho : d.off = false) {p : Nat} (hp : p < d.now.length) {x : List UInt8} (hx : x.length = 64) (hw : d.wait.length < 1000000) :
  ∃ H', zX (some i) (p : Int) x H = some (d.e, H') ∧ DIn H' i (d.wr p x) ∧ H'.lg = H.lg ∧ FrP H H' := by
 obtain ⟨H', e1, e2, e3⟩ := n_WriteF h ho (by have := g.f1; omega) hp hx hw
 exact ⟨H', e1, e2, e3, (zGR _ _ _ _).h _ e1⟩
theorem zHc (h : DIn H i d) (g : Dok d) (ho : d.off = false) (hw : d.wait.length < 1000000) :
  ∃ H', qD (some i) H = some (d.e, H') ∧ DIn H' i d.fl ∧ H'.lg = H.lg ∧ FrP H H' := by
 obtain ⟨H', e1, e2, e3⟩ := n_FlushF h ho (by have := g.f1; omega) g.n0 hw
 exact ⟨H', e1, e2, e3, (zGP _ _).h _ e1⟩
theorem p_Crash (h : DIn H i d) (g : Dok d) (hw : d.wait.length < 1000000) (ch : List UInt8) :
  ∃ H', zAZ (some i) ch H = some (0, H') ∧ DIn H' i (d.cr ch) ∧ H'.lg = H.lg ∧ FrP H H' := by
 obtain ⟨H', e1, e2, e3⟩ := n_CrashC h g.n0 (by have := g.n1; omega) hw ch
 exact ⟨H', e1, e2, e3, (f_Crash _ _ _).h _ e1⟩
theorem p_Fuse (h : DIn H i d) (g : Dok d) (p : Int) : ∃ H', zAG (some i) p H = some H' ∧ DIn H' i { d with fuse := if p < 0 then -1 else p } ∧ H'.lg = H.lg ∧ FrP H H' := by
 have hi := n_is h g.n0
 obtain ⟨⟨a, b, ks, ns, hab, hd, hk1, hn, ek, en⟩, h4, h5, h6⟩ := h
 have hil : i < H.dk.length := (List.getElem?_eq_some_iff.1 hd).1
 have key : ∃ H', zAG (some i) p H = some H' ∧ DIn H' i { d with fuse := if p < 0 then -1 else p } ∧ H'.lg = H.lg := by
  unfold zAG
  rw [hi, Option.bind_some, zE (by rfl)]
  show ∃ H', Option.bind (H.dk[i]?) _ = _ ∧ _
  rw [hd, Option.bind_some]
  refine ⟨_, rfl, ⟨⟨a, b, ks, ns, hab, ?_, hk1, hn, ek, en⟩, h4, h5, h6⟩, rfl⟩
  show (H.dk.set i _)[i]? = _
  rw [List.getElem?_set_self hil]
  have : (if (-1 : Int) > p then (-1 : Int) else p) = if p < 0 then -1 else p := by split <;> split <;> omega
  rw [this]
 obtain ⟨H', e1, e2, e3⟩ := key
 exact ⟨H', e1, e2, e3, (f_Fuse _ _ _).h _ e1⟩
theorem p_Read (h : DIn H i d) (g : Dok d) (z : Int) : yI (some i) z H = some (d.rdA z) := by
 unfold Dsk.rdA
 cases ho : d.off with
 | true =>
  rw [if_pos rfl]
  unfold yI
  rw [n_may_off h g.n0 ho, Option.bind_some, zE (by rfl)]
 | false =>
  rw [if_neg (by simp)]
  by_cases h3 : z < 0 ∨ (d.now.length : Int) ≤ z
  ·
   rw [if_pos h3]
   have hi := n_is h g.n0
   have hm : zAP (some i) z H = some 31 := by
    obtain ⟨⟨a, b, ks, ns, hab, hd, hk1, hn, ek, en⟩, _⟩ := h
    have hl : ns.length = d.now.length := by rw [← en, List.length_map]
    unfold zAP
    rw [hi, Option.bind_some]
    show Option.bind (H.dk[i]?) _ = _
    rw [hd, Option.bind_some]
    show (bif d.off then _ else bif decide (z < 0) then _ else bif decide (z ≥ (ns.length : Int)) then _ else some 0) = _
    rw [ho, zD (by rfl)]
    by_cases h0 : z < 0
    · rw [zE (qK h0)]
    · rw [zD (zZ h0), zE (qK (by omega))]
   unfold yI
   rw [hm, Option.bind_some, zE (by rfl)]
  ·
   rw [if_neg h3]
   obtain ⟨p, rfl⟩ := Int.eq_ofNat_of_zero_le (show 0 ≤ z by omega)
   have hp : p < d.now.length := by omega
   rw [zKc h ho (List.getElem?_eq_getElem hp), Int.toNat_natCast, List.getD_eq_getElem?_getD, List.getElem?_eq_getElem hp]
   rfl
end
def Dsk.wrl : Dsk → List (Nat × List UInt8) → Int × Dsk
 | d, [] => (0, d)
 | d, x :: r => if d.fuse = 0 then (30, d.wr x.1 x.2) else Dsk.wrl (d.wr x.1 x.2) r
def Fit (n : Nat) (l : List (Nat × List UInt8)) : Prop := ∀ x ∈ l, x.1 < n ∧ x.2.length = 64
theorem zHg : ∀ (l : List (Nat × List UInt8)) (d : Dsk), Dok d → Fit d.now.length l → Dok (d.wrl l).2 ∧ (d.wrl l).2.now.length = d.now.length ∧ (d.wrl l).2.lives = d.lives ∧ (d.wrl l).2.wait.length ≤ d.wait.length + l.length ∧ ((d.wrl l).1 = 30 ∨ (d.wrl l).1 = 0 ∧ (d.off = false → (d.wrl l).2.off = false))
 | [], d, g, _ => ⟨g, rfl, rfl, Nat.le_refl _, .inr ⟨rfl, id⟩⟩
 | x :: r, d, g, hf => by
  obtain ⟨h1, h2⟩ := hf x List.mem_cons_self
  obtain ⟨w1, w2, w3⟩ := zDP d x.1 x.2
  unfold Dsk.wrl
  by_cases h0 : d.fuse = 0
  ·
   rw [if_pos h0]
   exact ⟨g.wr h1 h2, w1, w2, by rw [w3, List.length_cons]; omega, .inl rfl⟩
  ·
   rw [if_neg h0]
   obtain ⟨k1, k2, k3, k4, k5⟩ := zHg r (d.wr x.1 x.2) (g.wr h1 h2) fun y hy => by rw [w1]; exact hf y (List.mem_cons_of_mem _ hy)
   refine ⟨k1, k2.trans w1, k3.trans w2, by rw [List.length_cons]; omega, k5.imp id fun ⟨a, b⟩ => ⟨a, fun ho => b ?_⟩⟩
   rw [zGm ho]
   exact zZ h0
structure Lgs where
 s : Nat
 base : Nat
 slot : Nat
 used : Nat
 life : Int
 com : Int
def Lgs.P (l : Lgs) (i : Nat) : zM := ⟨some i, l.s, l.base, l.slot, l.used, l.life, l.com⟩
def Lgs.R (l : Lgs) (k : Nat) : zT := ⟨some k, l.s, l.base, l.slot, l.used, l.life, l.com⟩
structure Lok (d : Dsk) (l : Lgs) : Prop where
 s3 : 3 ≤ l.s
 sl : l.s + 3 ≤ d.now.length
 bs : l.base ≤ 2305843009213693952
 s1 : l.slot ≤ 1
 us : l.used ≤ l.s
theorem Lok.len {d d' : Dsk} {l : Lgs} (h : Lok d l) (e : d'.now.length = d.now.length) : Lok d' l := ⟨h.s3, by rw [e]; exact h.sl, h.bs, h.s1, h.us⟩
def Lgs.al (l : Lgs) (d : Dsk) : Int := if d.off ∨ d.lives ≠ l.life then 30 else 0
theorem al_0 {l : Lgs} {d : Dsk} (h : l.al d = 0) : d.off = false ∧ l.life = d.lives := by
 unfold Lgs.al at h
 split at h
 · cases h
 ·
  rename_i hn
  refine ⟨by cases ho : d.off with | false => rfl | true => exact absurd (.inl ho) hn, ?_⟩
  exact Decidable.byContradiction fun e => hn (.inr fun e' => e e'.symm)
def hmE (s : Nat) (w : zC) : Nat × List UInt8 := (2 + s + w.Home.toNat, w.Data)
def enW (o b : Nat) : List zV → Nat → List (Nat × List UInt8)
 | [], _ => []
 | e :: r, p => (o + p, rowE e (b + p)) :: enW o b r (p + 1)
theorem zIb (o b : Nat) : ∀ (es : List zV) (p : Nat), (enW o b es p).length = es.length
 | [], _ => rfl
 | e :: r, p => by simp [enW, zIb o b r]
theorem zIV {o b n : Nat} : ∀ (es : List zV) (p : Nat), (∀ e ∈ es, OkE e) → o + p + es.length ≤ n → Fit n (enW o b es p)
 | [], _, _, _ => fun x hx => absurd hx List.not_mem_nil
 | e :: r, p, h, hn => fun x hx => by
  simp only [List.length_cons] at hn
  rcases List.mem_cons.1 hx with rfl | hx
  · exact ⟨by show o + p < n; omega, zHB (h e List.mem_cons_self)⟩
  · exact zIV r (p + 1) (fun e he => h e (List.mem_cons_of_mem _ he)) (by omega) x hx
theorem hm_fit {s n : Nat} {ws : List zC} (hg : Good s n ws) (hn : 2 + s < n) : Fit n (ws.map (hmE s)) := fun x hx => by
 obtain ⟨w, hw, rfl⟩ := List.mem_map.1 hx
 obtain ⟨h1, h2, h3⟩ := hg w hw
 exact ⟨by show 2 + s + w.Home.toNat < n; omega, h3⟩
def Lgs.chk (l : Lgs) (d : Dsk) : Int × Dsk × Lgs :=
 if l.base > 2305843009213693952 - l.s then (3, d, l) else if d.fuse = 0 then (30, d.fl, l) else
 if d.fl.fuse = 0 then (30, d.fl.wr (1 - l.slot) (zA1 (l.base + l.s) l.s), l) else
 if (d.fl.wr (1 - l.slot) (zA1 (l.base + l.s) l.s)).fuse = 0 then (30, (d.fl.wr (1 - l.slot) (zA1 (l.base + l.s) l.s)).fl, l) else
 (0, (d.fl.wr (1 - l.slot) (zA1 (l.base + l.s) l.s)).fl, ⟨l.s, l.base + l.s, 1 - l.slot, 0, l.life, l.com⟩)
def Lgs.cmt (l : Lgs) (d : Dsk) (ws : List zC) : Int × Dsk × Lgs :=
 if (d.wrl (enW (2 + l.used) (l.base + l.used) (zCT ws) 0)).1 ≠ 0 then (30, (d.wrl (enW (2 + l.used) (l.base + l.used) (zCT ws) 0)).2, l) else
 if (d.wrl (enW (2 + l.used) (l.base + l.used) (zCT ws) 0)).2.fuse = 0 then (30, (d.wrl (enW (2 + l.used) (l.base + l.used) (zCT ws) 0)).2.fl, l) else
 (((d.wrl (enW (2 + l.used) (l.base + l.used) (zCT ws) 0)).2.fl.wrl (ws.map (hmE l.s))).1, ((d.wrl (enW (2 + l.used) (l.base + l.used) (zCT ws) 0)).2.fl.wrl (ws.map (hmE l.s))).2, ⟨l.s, l.base, l.slot, l.used + (2 * ws.length + 1), l.life, wi (l.com + 1)⟩)
structure LP (H : Hp) (i j : Nat) (d : Dsk) (l : Lgs) : Prop where
 dsk : DIn H i d
 lg : H.lg[j]? = some (l.P i)
structure LR (H : Hp) (k q : Nat) (d : Dsk) (l : Lgs) : Prop where
 dsk : RIn H k d
 lg : H.rl[q]? = some (l.R k)
theorem LP.fr {H H' : Hp} {i j : Nat} {d : Dsk} {l : Lgs} (h : LP H i j d l) (f : FrR H H') : LP H' i j d l := ⟨h.dsk.fr f, by rw [f.lg]; exact h.lg⟩
theorem LR.fr {H H' : Hp} {k q : Nat} {d : Dsk} {l : Lgs} (h : LR H k q d l) (f : FrQ H H') : LR H' k q d l := ⟨h.dsk.fr f, by rw [f.rl]; exact h.lg⟩
section
variable {H : Hp} {i j : Nat} {d : Dsk} {l : Lgs}
theorem LP.in (h : LP H i j d l) (g : Dok d) (o : Lok d l) (ha : l.al d = 0) : LIn H i j d l.s l.base l.slot l.used l.com := by
 obtain ⟨h1, h2⟩ := al_0 ha
 have := o.sl
 have := g.n1
 exact ⟨h.dsk, h1, by rw [h.lg]; unfold Lgs.P; rw [h2], o.s3, by omega, by omega, o.bs⟩
theorem zFR (h : LP H i j d l) (g : Dok d) : yU (some j) H = some (l.al d) := by
 have hx := h.lg
 have h0 := g.n0
 unfold yU
 show Option.bind (H.lg[j]?) _ = _
 rw [hx, Option.bind_some]
 show zAO (some j) H false = _
 unfold zAO Lgs.al
 rw [zD rfl]
 show Option.bind (H.lg[j]?) _ = _
 rw [hx, Option.bind_some]
 show Option.bind (zBN (some i) H) _ = _
 rw [n_Off h.dsk h0, Option.bind_some]
 cases ho : d.off with
 | true => rw [zE (by rfl), if_pos (.inl rfl)]
 | false =>
  rw [zD (by rfl)]
  show Option.bind (zAH (some i) H) _ = _
  rw [zJb h.dsk h0, Option.bind_some]
  show (bif (d.lives != l.life) then some 30 else some 0) = _
  by_cases hl : d.lives = l.life
  · rw [zD (zBH hl), if_neg (by simp [hl])]
  · rw [zE (zDL hl), if_pos (.inr hl)]
theorem zJH {ws : List zC} (hwl : ws.length ≤ 100000) : ∀ (n z : Nat) (H : Hp) (d : Dsk), LP H i j d l → Dok d → Lok d l → l.al d = 0 → Good l.s d.now.length ws → d.wait.length + (ws.length - z) ≤ 900000 → z ≤ ws.length → ws.length - z < n →
  ∃ H', zAY ws (some j) n (z : Int) H = some ((d.wrl ((ws.drop z).map (hmE l.s))).1, H') ∧ DIn H' i (d.wrl ((ws.drop z).map (hmE l.s))).2 ∧ H'.lg = H.lg
 | 0, z, _, _, _, _, _, _, _, _, _, h => by omega
 | n + 1, z, H, d, h, g, o, ha, hg, hw, hz, hn => by
  have hL := h.in g o ha
  have := hL.sl
  have := hL.ln
  obtain ⟨ho, hlf⟩ := al_0 ha
  unfold zAY
  by_cases hlt : z < ws.length
  ·
   obtain ⟨w1, w2, w3⟩ := hg _ (List.getElem_mem hlt)
   have hH : ws[z].Home = (ws[z].Home.toNat : Int) := (Int.toNat_of_nonneg w1).symm
   have hb : 2 + l.s + ws[z].Home.toNat < d.now.length := by omega
   rw [zE (qK (by omega)), qY hlt, Option.bind_some]
   show ∃ H', Option.bind (H.lg[j]?) _ = _ ∧ _
   rw [h.lg, Option.bind_some]
   have e1 : zCI (some j) ws[z].Home H = some ((2 + l.s + ws[z].Home.toNat : Nat) : Int) := by
    have := n_home hL ws[z].Home.toNat (by omega)
    rwa [← hH] at this
   rw [e1, Option.bind_some]
   obtain ⟨H1, g1, g2, g3, g4⟩ := zHH h.dsk g ho hb w3 (by omega)
   show ∃ H', Option.bind (zX (some i) ((2 + l.s + ws[z].Home.toNat : Nat) : Int) ws[z].Data H) _ = _ ∧ _
   rw [g1, Option.bind_some, List.drop_eq_getElem_cons hlt, List.map_cons]
   unfold Dsk.wrl
   show ∃ H', (bif (d.e != 0) then some (d.e, H1) else zAY ws (some j) n (wi ((z : Int) + 1)) H1) = _ ∧ _
   by_cases h0 : d.fuse = 0
   ·
    rw [if_pos h0, e_eq h0, zE (by rfl)]
    exact ⟨H1, rfl, g2, g3⟩
   ·
    obtain ⟨v1, v2, v3⟩ := zDP d (2 + l.s + ws[z].Home.toNat) ws[z].Data
    rw [if_neg h0, e_ne h0, zD (by rfl), yK (by omega)]
    obtain ⟨H', k1, k2, k3⟩ := zJH hwl n (z + 1) H1 (d.wr (2 + l.s + ws[z].Home.toNat) ws[z].Data) ⟨g2, by rw [g3]; exact h.lg⟩ (g.wr hb w3) (o.len v1) (by
     unfold Lgs.al
     rw [if_neg]
     rw [zGm ho, v2, ← hlf, zZ h0]
     simp) (by rw [v1]; exact hg) (by omega) (by omega) (by omega)
    exact ⟨H', k1, k2, k3.trans g3⟩
  ·
   have e : z = ws.length := by omega
   subst e
   rw [zD (zZ (by omega)), List.drop_length]
   exact ⟨H, rfl, h.dsk, rfl⟩
theorem p_redo {ws : List zC} (h : LP H i j d l) (g : Dok d) (o : Lok d l) (ha : l.al d = 0) (hwl : ws.length ≤ 100000) (hg : Good l.s d.now.length ws) (hw : d.wait.length ≤ 700000) :
  ∃ H', zAr (some j) ws H = some ((d.wrl (ws.map (hmE l.s))).1, H') ∧ DIn H' i (d.wrl (ws.map (hmE l.s))).2 ∧ H'.lg = H.lg := by
 have := zJH hwl (ws.length + 1) 0 H d h g o ha hg (by omega) (by omega) (by omega)
 rwa [List.drop_zero] at this
theorem zFA (h : LP H i j d l) (g : Dok d) (o : Lok d l) (ha : l.al d = 0) (hw : d.wait.length ≤ 900000) :
  ∃ H', zU (some j) H = some ((l.chk d).1, H') ∧ LP H' i j (l.chk d).2.1 (l.chk d).2.2 := by
 obtain ⟨ho, hlf⟩ := al_0 ha
 have := o.sl
 have := g.n1
 have := o.bs
 have := o.s1
 unfold zU Lgs.chk
 rw [zFR h g, ha, Option.bind_some, zD (by rfl)]
 show ∃ H', Option.bind (H.lg[j]?) _ = _ ∧ _
 rw [h.lg, Option.bind_some]
 show ∃ H', (bif decide ((l.base : Int) > wi (2305843009213693952 - (l.s : Int))) then _ else _) = _ ∧ _
 rw [yB (z := 2305843009213693952 - (l.s : Int)) (by omega) (by omega)]
 by_cases hb : l.base > 2305843009213693952 - l.s
 ·
  rw [if_pos hb, zE (qK (by omega))]
  exact ⟨H, rfl, h⟩
 rw [if_neg hb, zD (zZ (by omega))]
 obtain ⟨H1, g1, g2, g3, g4⟩ := zHc h.dsk g ho (by omega)
 show ∃ H', Option.bind (qD (some i) H) _ = _ ∧ _
 rw [g1, Option.bind_some]
 by_cases h0 : d.fuse = 0
 ·
  rw [if_pos h0]
  show ∃ H', (bif (d.e != 0) then some (d.e, H1) else _) = _ ∧ _
  rw [e_eq h0, zE (by rfl)]
  exact ⟨H1, rfl, g2, by rw [g3]; exact h.lg⟩
 rw [if_neg h0]
 show ∃ H', (bif (d.e != 0) then some (d.e, H1) else Option.bind (zBz (some j) H1) _) = _ ∧ _
 rw [e_ne h0, zD (by rfl)]
 obtain ⟨v1, v2, v3, v4⟩ := zD4 d
 have gf := g.fl
 have hof : d.fl.off = false := by rw [zIC ho]; exact zZ h0
 unfold zBz
 show ∃ H', Option.bind (Option.bind (H1.lg[j]?) _) _ = _ ∧ _
 rw [g3, h.lg, Option.bind_some]
 show ∃ H', Option.bind (Option.bind (zB0 (wi ((l.base : Int) + (l.s : Int))) (l.s : Int)) _) _ = _ ∧ _
 rw [yB (z := (l.base : Int) + (l.s : Int)) (by omega) (by omega), show (l.base : Int) + (l.s : Int) = ((l.base + l.s : Nat) : Int) by omega, zHM (by omega) (by omega), Option.bind_some]
 have hsl : 1 - l.slot < d.fl.now.length := by omega
 obtain ⟨H2, k1, k2, k3, k4⟩ := zHH g2 gf hof hsl (zCW (l.base + l.s) l.s) (by omega)
 show ∃ H', Option.bind (Option.bind (zX (some i) (wi (1 - (l.slot : Int))) (zA1 (l.base + l.s) l.s) H1) _) _ = _ ∧ _
 have es : wi (1 - (l.slot : Int)) = ((1 - l.slot : Nat) : Int) := by rw [yB (by omega) (by omega)]; omega
 rw [es, k1, Option.bind_some]
 by_cases h1 : d.fl.fuse = 0
 ·
  rw [if_pos h1]
  show ∃ H', Option.bind (bif (d.fl.e != 0) then some (d.fl.e, H2) else _) _ = _ ∧ _
  rw [e_eq h1, zE (by rfl)]
  exact ⟨H2, rfl, k2, by rw [k3, g3]; exact h.lg⟩
 rw [if_neg h1]
 show ∃ H', Option.bind (bif (d.fl.e != 0) then some (d.fl.e, H2) else Option.bind (H2.lg[j]?) _) _ = _ ∧ _
 rw [e_ne h1, zD (by rfl), k3, g3, h.lg, Option.bind_some]
 have gw := gf.wr hsl (zCW (l.base + l.s) l.s)
 obtain ⟨u1, u2, u3⟩ := zDP d.fl (1 - l.slot) (zA1 (l.base + l.s) l.s)
 have how : (d.fl.wr (1 - l.slot) (zA1 (l.base + l.s) l.s)).off = false := by rw [zGm hof]; exact zZ h1
 obtain ⟨H3, m1, m2, m3, m4⟩ := zHc k2 gw how (by omega)
 show ∃ H', Option.bind (Option.bind (qD (some i) H2) _) _ = _ ∧ _
 rw [m1, Option.bind_some]
 by_cases h2 : (d.fl.wr (1 - l.slot) (zA1 (l.base + l.s) l.s)).fuse = 0
 ·
  rw [if_pos h2]
  show ∃ H', Option.bind (bif (Dsk.e _ != 0) then some (Dsk.e _, H3) else _) _ = _ ∧ _
  rw [e_eq h2, zE (by rfl)]
  exact ⟨H3, rfl, m2, by rw [m3, k3, g3]; exact h.lg⟩
 rw [if_neg h2]
 show ∃ H', Option.bind (bif (Dsk.e _ != 0) then some (Dsk.e _, H3) else Option.bind (H3.lg[j]?) _) _ = _ ∧ _
 rw [e_ne h2, zD (by rfl), m3, k3, g3, h.lg, Option.bind_some]
 have hj : j < H3.lg.length := by rw [m3, k3, g3]; exact (List.getElem?_eq_some_iff.1 h.lg).1
 refine ⟨_, rfl, DIn.lg m2 rfl rfl, ?_⟩
 show (((H3.lg.set j _).set j _).set j _)[j]? = _
 rw [List.getElem?_set_self (by simp; omega)]
 show some (zM.mk (some i) (l.s : Int) (wi ((l.base : Int) + (l.s : Int))) (wi (1 - (l.slot : Int))) 0 l.life l.com) = some (zM.mk (some i) (l.s : Int) ((l.base + l.s : Nat) : Int) ((1 - l.slot : Nat) : Int) ((0 : Nat) : Int) l.life l.com)
 rw [yB (z := (l.base : Int) + (l.s : Int)) (by omega) (by omega), es]
 rfl
end
end Go.Proofs.YtjomnccladjpgaaGreat

/-
 Plain: the program's commits and reads, told exactly.
-/
namespace Go.Proofs.YtjomnccladjpgaaGreat
open Go Go.RowKit
set_option linter.unusedVariables false
set_option linter.unusedSimpArgs false
instance (s n : Nat) (ws : List zC) : Decidable (Good s n ws) := inferInstanceAs (Decidable (∀ w ∈ ws, _))
def Lgs.com_ (l : Lgs) (d : Dsk) (ws : List zC) : Int × Dsk × Lgs :=
 if l.al d ≠ 0 then (30, d, l) else if ¬ Good l.s d.now.length ws then (2, d, l) else if 2 * ws.length + 1 > l.s then (3, d, l) else if ws.length = 0 then (0, d, l) else
 if 2 * ws.length + 1 > l.s - l.used then (if (l.chk d).1 ≠ 0 then l.chk d else (l.chk d).2.2.cmt (l.chk d).2.1 ws) else l.cmt d ws
theorem al_cs (l : Lgs) (d : Dsk) : l.al d = 0 ∨ l.al d = 30 := by
 unfold Lgs.al
 split
 · exact .inr rfl
 · exact .inl rfl
theorem zIe {l : Lgs} {d : Dsk} (h1 : d.off = false) (h2 : l.life = d.lives) : l.al d = 0 := by
 unfold Lgs.al
 rw [if_neg]
 rw [h1, h2]
 simp
theorem zI6 {l : Lgs} {d : Dsk} (g : Dok d) (o : Lok d l) (ha : l.al d = 0) : Dok (l.chk d).2.1 ∧ Lok (l.chk d).2.1 (l.chk d).2.2 ∧ (l.chk d).2.1.now.length = d.now.length ∧ (l.chk d).2.1.lives = d.lives ∧ (l.chk d).2.1.wait.length ≤ d.wait.length + 1 ∧ ((l.chk d).1 = 30 ∨ (l.chk d).1 = 3 ∨ (l.chk d).1 = 0 ∧ (l.chk d).2.2.al (l.chk d).2.1 = 0 ∧ (l.chk d).2.2.used = 0) ∧ (l.chk d).2.2.s = l.s := by
 obtain ⟨ho, hlf⟩ := al_0 ha
 have := o.sl
 have := o.s1
 have := o.bs
 have := g.n1
 obtain ⟨v1, v2, v3, v4⟩ := zD4 d
 have gf := g.fl
 have hsl : 1 - l.slot < d.fl.now.length := by omega
 have gw := gf.wr hsl (zCW (l.base + l.s) l.s)
 obtain ⟨u1, u2, u3⟩ := zDP d.fl (1 - l.slot) (zA1 (l.base + l.s) l.s)
 obtain ⟨t1, t2, t3, t4⟩ := zD4 (d.fl.wr (1 - l.slot) (zA1 (l.base + l.s) l.s))
 unfold Lgs.chk
 by_cases hb : l.base > 2305843009213693952 - l.s
 · rw [if_pos hb]; exact ⟨g, o, rfl, rfl, Nat.le_succ _, .inr (.inl rfl), rfl⟩
 rw [if_neg hb]
 by_cases h0 : d.fuse = 0
 · rw [if_pos h0]; exact ⟨gf, o.len v1, v1, v3, by show d.fl.wait.length ≤ _; omega, .inl rfl, rfl⟩
 rw [if_neg h0]
 by_cases h1 : d.fl.fuse = 0
 · rw [if_pos h1]; exact ⟨gw, o.len (u1.trans v1), u1.trans v1, u2.trans v3, by show (d.fl.wr _ _).wait.length ≤ _; omega, .inl rfl, rfl⟩
 rw [if_neg h1]
 by_cases h2 : (d.fl.wr (1 - l.slot) (zA1 (l.base + l.s) l.s)).fuse = 0
 · rw [if_pos h2]; exact ⟨gw.fl, o.len (t1.trans (u1.trans v1)), t1.trans (u1.trans v1), t3.trans (u2.trans v3), by show (Dsk.fl _).wait.length ≤ _; omega, .inl rfl, rfl⟩
 rw [if_neg h2]
 have hof : d.fl.off = false := by rw [zIC ho]; exact zZ h0
 have how : (d.fl.wr (1 - l.slot) (zA1 (l.base + l.s) l.s)).off = false := by rw [zGm hof]; exact zZ h1
 exact ⟨gw.fl, ⟨o.s3, by show l.s + 3 ≤ (Dsk.fl _).now.length; omega, by show l.base + l.s ≤ _; omega, by show 1 - l.slot ≤ 1; omega, Nat.zero_le _⟩, t1.trans (u1.trans v1), t3.trans (u2.trans v3), by show (Dsk.fl _).wait.length ≤ _; omega, .inr (.inr ⟨rfl, zIe (by show (Dsk.fl _).off = false; rw [zIC how]; exact zZ h2) (by show l.life = (Dsk.fl _).lives; rw [t3, u2, v3]; exact hlf), rfl⟩), rfl⟩
theorem cmt_ok {l : Lgs} {d : Dsk} (g : Dok d) (o : Lok d l) {ws : List zC} (hg : Good l.s d.now.length ws) (hu : l.used + (2 * ws.length + 1) ≤ l.s) : Dok (l.cmt d ws).2.1 ∧ Lok (l.cmt d ws).2.1 (l.cmt d ws).2.2 ∧ (l.cmt d ws).2.1.now.length = d.now.length ∧ (l.cmt d ws).2.1.lives = d.lives ∧ (l.cmt d ws).2.1.wait.length ≤ d.wait.length + 3 * ws.length + 1 ∧ (l.cmt d ws).2.2.life = l.life := by
 have := o.sl
 have := g.n1
 have hl : ws.length ≤ 10000 := by omega
 have hE := zIV (o := 2 + l.used) (b := l.base + l.used) (n := d.now.length) (zCT ws) 0 (zHA ws hg (by omega) hl) (by rw [zDN]; omega)
 obtain ⟨a1, a2, a3, a4, a5⟩ := zHg _ d g hE
 rw [zIb, zDN] at a4
 unfold Lgs.cmt
 generalize d.wrl (enW (2 + l.used) (l.base + l.used) (zCT ws) 0) = w at a1 a2 a3 a4 a5
 obtain ⟨v1, v2, v3, v4⟩ := zD4 w.2
 by_cases h0 : w.1 ≠ 0
 · rw [if_pos h0]; exact ⟨a1, o.len a2, a2, a3, by show w.2.wait.length ≤ _; omega, rfl⟩
 rw [if_neg h0]
 by_cases h1 : w.2.fuse = 0
 · rw [if_pos h1]; exact ⟨a1.fl, o.len (v1.trans a2), v1.trans a2, v3.trans a3, by show w.2.fl.wait.length ≤ _; omega, rfl⟩
 rw [if_neg h1]
 obtain ⟨b1, b2, b3, b4, b5⟩ := zHg (ws.map (hmE l.s)) w.2.fl a1.fl (by rw [v1, a2]; exact hm_fit hg (by omega))
 rw [List.length_map] at b4
 exact ⟨b1, ⟨o.s3, by show l.s + 3 ≤ (Dsk.wrl _ _).2.now.length; omega, o.bs, o.s1, hu⟩, b2.trans (v1.trans a2), b3.trans (v3.trans a3), by show (Dsk.wrl _ _).2.wait.length ≤ _; omega, rfl⟩
section
variable {H : Hp} {i j : Nat} {d : Dsk} {l : Lgs}
theorem zHT {es : List zV} {ws : List zC} (hok : ∀ e ∈ es, OkE e) (hes : l.used + es.length ≤ l.s) : ∀ (n z : Nat) (H : Hp) (d : Dsk), LP H i j d l → Dok d → Lok d l → l.al d = 0 → d.wait.length + (es.length - z) ≤ 900000 → z ≤ es.length → es.length - z < n →
  ∃ H', zAC es (some j) ws n (z : Int) H = (if (d.wrl (enW (2 + l.used) (l.base + l.used) (es.drop z) z)).1 ≠ 0 then some (30, H') else zAn (some j) ws H') ∧ DIn H' i (d.wrl (enW (2 + l.used) (l.base + l.used) (es.drop z) z)).2 ∧ H'.lg = H.lg
 | 0, z, _, _, _, _, _, _, _, _, h => by omega
 | n + 1, z, H, d, h, g, o, ha, hw, hz, hn => by
  have := o.sl
  have := g.n1
  have := o.bs
  obtain ⟨ho, hlf⟩ := al_0 ha
  unfold zAC
  by_cases hlt : z < es.length
  ·
   have hoe := hok _ (List.getElem_mem hlt)
   rw [zE (qK (by omega)), qY hlt, Option.bind_some]
   show ∃ H', Option.bind (H.lg[j]?) _ = _ ∧ _
   rw [h.lg, Option.bind_some]
   show ∃ H', Option.bind (zAW es[z] (wi ((l.base : Int) + wi ((l.used : Int) + (z : Int))))) _ = _ ∧ _
   rw [yB (z := (l.used : Int) + (z : Int)) (by omega) (by omega), yB (z := (l.base : Int) + ((l.used : Int) + (z : Int))) (by omega) (by omega), show (l.base : Int) + ((l.used : Int) + (z : Int)) = ((l.base + l.used + z : Nat) : Int) by omega, n_rowE hoe (by omega), Option.bind_some]
   show ∃ H', Option.bind (zX (some i) (wi (2 + wi ((l.used : Int) + (z : Int)))) (rowE es[z] (l.base + l.used + z)) H) _ = _ ∧ _
   rw [yB (z := (l.used : Int) + (z : Int)) (by omega) (by omega), yB (z := 2 + ((l.used : Int) + (z : Int))) (by omega) (by omega), show 2 + ((l.used : Int) + (z : Int)) = ((2 + l.used + z : Nat) : Int) by omega]
   have hp : 2 + l.used + z < d.now.length := by omega
   obtain ⟨H1, g1, g2, g3, g4⟩ := zHH h.dsk g ho hp (zHB (st := l.base + l.used + z) hoe) (by omega)
   show ∃ H', Option.bind (zX (some i) ((2 + l.used + z : Nat) : Int) (rowE es[z] (l.base + l.used + z)) H) _ = _ ∧ _
   rw [g1, Option.bind_some, List.drop_eq_getElem_cons hlt]
   unfold enW Dsk.wrl
   show ∃ H', (bif (d.e != 0) then some (d.e, H1) else zAC es (some j) ws n (wi ((z : Int) + 1)) H1) = _ ∧ _
   by_cases h0 : d.fuse = 0
   ·
    rw [if_pos h0, e_eq h0, zE (by rfl)]
    exact ⟨H1, (if_pos (show (30 : Int) ≠ 0 by decide)).symm, g2, g3⟩
   ·
    obtain ⟨v1, v2, v3⟩ := zDP d (2 + l.used + z) (rowE es[z] (l.base + l.used + z))
    rw [if_neg h0, e_ne h0, zD (by rfl), yK (by omega)]
    obtain ⟨H', k1, k2, k3⟩ := zHT (ws := ws) hok hes n (z + 1) H1 (d.wr (2 + l.used + z) (rowE es[z] (l.base + l.used + z))) ⟨g2, by rw [g3]; exact h.lg⟩ (g.wr hp (zHB hoe)) (o.len v1) (zIe (by rw [zGm ho]; exact zZ h0) (by rw [v2]; exact hlf)) (by omega) (by omega) (by omega)
    exact ⟨H', k1, k2, k3.trans g3⟩
  ·
   have e : z = es.length := by omega
   subst e
   rw [zD (zZ (by omega)), List.drop_length]
   exact ⟨H, by unfold enW Dsk.wrl; rw [if_neg (by simp)], h.dsk, rfl⟩
theorem p_cmt {ws : List zC} (h : LP H i j d l) (g : Dok d) (o : Lok d l) (ha : l.al d = 0) (hg : Good l.s d.now.length ws) (hu : l.used + (2 * ws.length + 1) ≤ l.s) (hw : d.wait.length ≤ 500000) :
  ∃ H', zAD ws (some j) H = some ((l.cmt d ws).1, H') ∧ LP H' i j (l.cmt d ws).2.1 (l.cmt d ws).2.2 := by
 have := o.sl
 have := g.n1
 have hl : ws.length ≤ 10000 := by omega
 obtain ⟨ho, hlf⟩ := al_0 ha
 have hok := zHA ws hg (by omega) hl
 have hE := zIV (o := 2 + l.used) (b := l.base + l.used) (n := d.now.length) (zCT ws) 0 hok (by rw [zDN]; omega)
 obtain ⟨a1, a2, a3, a4, a5⟩ := zHg _ d g hE
 rw [zIb, zDN] at a4
 unfold zAD
 rw [n_entries ws hl (fun w hw => (hg w hw).2.2), Option.bind_some]
 obtain ⟨H1, k1, k2, k3⟩ := zHT (ws := ws) hok (by rw [zDN]; exact hu) ((zCT ws).length + 1) 0 H d h g o ha (by rw [zDN]; omega) (by omega) (by omega)
 rw [List.drop_zero] at k1 k2
 rw [show ((0 : Nat) : Int) = 0 from rfl] at k1
 rw [k1]
 unfold Lgs.cmt
 generalize d.wrl (enW (2 + l.used) (l.base + l.used) (zCT ws) 0) = w at a1 a2 a3 a4 a5 k2
 by_cases h0 : w.1 ≠ 0
 ·
  rw [if_pos h0, if_pos h0]
  exact ⟨H1, rfl, k2, by rw [k3]; exact h.lg⟩
 rw [if_neg h0, if_neg h0]
 have how : w.2.off = false := (a5.resolve_left fun e => h0 (by rw [e]; decide)).2 ho
 unfold zAn
 show ∃ H', Option.bind (H1.lg[j]?) _ = _ ∧ _
 rw [k3, h.lg, Option.bind_some]
 obtain ⟨H2, m1, m2, m3, m4⟩ := zHc k2 a1 how (by omega)
 show ∃ H', Option.bind (qD (some i) H1) _ = _ ∧ _
 rw [m1, Option.bind_some]
 show ∃ H', (bif (w.2.e != 0) then some (w.2.e, H2) else Option.bind (H2.lg[j]?) _) = _ ∧ _
 by_cases h1 : w.2.fuse = 0
 ·
  rw [if_pos h1, e_eq h1, zE (by rfl)]
  exact ⟨H2, rfl, m2, by rw [m3, k3]; exact h.lg⟩
 rw [if_neg h1, e_ne h1, zD (by rfl), m3, k3, h.lg, Option.bind_some]
 have ew : wi (wi (2 * (ws.length : Int)) + 1) = ((2 * ws.length + 1 : Nat) : Int) := by
  rw [yB (z := 2 * (ws.length : Int)) (by omega) (by omega), yB (by omega) (by omega)]
  omega
 rw [ew]
 have hj : j < H2.lg.length := by rw [m3, k3]; exact (List.getElem?_eq_some_iff.1 h.lg).1
 obtain ⟨v1, v2, v3, v4⟩ := zD4 w.2
 let X : zM := ⟨some i, (l.s : Int), (l.base : Int), (l.slot : Int), wi ((l.used : Int) + ((2 * ws.length + 1 : Nat) : Int)), l.life, l.com⟩
 let Y : zM := ⟨some i, (l.s : Int), (l.base : Int), (l.slot : Int), wi ((l.used : Int) + ((2 * ws.length + 1 : Nat) : Int)), l.life, wi (l.com + 1)⟩
 have hY : LP ((H2.st_lg j X).st_lg j Y) i j w.2.fl ⟨l.s, l.base, l.slot, l.used + (2 * ws.length + 1), l.life, wi (l.com + 1)⟩ := by
  refine ⟨DIn.lg m2 rfl rfl, ?_⟩
  show ((H2.lg.set j _).set j _)[j]? = _
  rw [List.getElem?_set_self (by simp; omega)]
  show some (zM.mk _ _ _ _ (wi ((l.used : Int) + ((2 * ws.length + 1 : Nat) : Int))) _ _) = _
  rw [yB (z := (l.used : Int) + ((2 * ws.length + 1 : Nat) : Int)) (by omega) (by omega)]
  rfl
 obtain ⟨H3, r1, r2, r3⟩ := p_redo (ws := ws) hY a1.fl ⟨o.s3, by show l.s + 3 ≤ _; omega, o.bs, o.s1, hu⟩ (zIe (by rw [zIC how]; exact zZ h1) (by show l.life = _; rw [v3, a3]; exact hlf)) (by omega) (by rw [v1, a2]; exact hg) (by omega)
 refine ⟨H3, ?_, r2, ?_⟩
 ·
  show Option.bind (zAr (some j) ws ((H2.st_lg j X).st_lg j Y)) _ = _
  rw [r1]
  rfl
 ·
  rw [r3]
  exact hY.lg
theorem p_Left (h : LP H i j d l) (o : Lok d l) (g : Dok d) : zBo (some j) H = some ((l.s - l.used : Nat) : Int) := by
 have := o.us
 have := o.sl
 have := g.n1
 unfold zBo
 show Option.bind (H.lg[j]?) _ = _
 rw [h.lg, Option.bind_some]
 show some (wi ((l.s : Int) - (l.used : Int))) = _
 rw [yB (by omega) (by omega)]
 congr 1
 omega
theorem zKT {ws : List zC} (h : LP H i j d l) (g : Dok d) (o : Lok d l) (hl : ws.length ≤ 10000) (hw : d.wait.length ≤ 400000) :
  ∃ H', qJ (some j) ws H = some ((l.com_ d ws).1, H') ∧ LP H' i j (l.com_ d ws).2.1 (l.com_ d ws).2.2 := by
 have := o.sl
 have := g.n1
 have := o.us
 unfold Lgs.com_
 rcases al_cs l d with ha | ha
 case inr =>
  rw [if_pos (by rw [ha]; decide)]
  refine ⟨H, ?_, h⟩
  unfold qJ
  rw [zFR h g, ha, Option.bind_some, zE (by rfl)]
 rw [if_neg (by rw [ha]; decide)]
 have hL := h.in g o ha
 by_cases hg : Good l.s d.now.length ws
 case neg =>
  rw [if_pos hg]
  exact ⟨H, (zGl hL ws hl).2 hg, h⟩
 rw [if_neg (fun e => e hg), (zGl hL ws hl).1 hg]
 unfold zAU
 show ∃ H', Option.bind (H.lg[j]?) _ = _ ∧ _
 rw [h.lg, Option.bind_some]
 have ew : wi (wi (2 * (ws.length : Int)) + 1) = ((2 * ws.length + 1 : Nat) : Int) := by
  rw [yB (z := 2 * (ws.length : Int)) (by omega) (by omega), yB (by omega) (by omega)]
  omega
 show ∃ H', (bif decide (wi (wi (2 * (ws.length : Int)) + 1) > (l.s : Int)) then _ else _) = _ ∧ _
 rw [ew]
 by_cases h1 : 2 * ws.length + 1 > l.s
 ·
  rw [if_pos h1, zE (qK (by omega))]
  exact ⟨H, rfl, h⟩
 rw [if_neg h1, zD (zZ (by omega))]
 by_cases h2 : ws.length = 0
 ·
  rw [if_pos h2, zE (zDB (by omega))]
  exact ⟨H, rfl, h⟩
 rw [if_neg h2, zD (zBq (by omega)), p_Left h o g, Option.bind_some]
 by_cases h3 : 2 * ws.length + 1 > l.s - l.used
 ·
  rw [if_pos h3, zE (qK (by omega))]
  obtain ⟨H1, k1, k2⟩ := zFA h g o ha (by omega)
  obtain ⟨c1, c2, c3, c4, c5, c6, c7⟩ := zI6 g o ha
  rw [k1, Option.bind_some]
  show ∃ H', (bif ((l.chk d).1 != 0) then some ((l.chk d).1, H1) else zAD ws (some j) H1) = _ ∧ _
  by_cases h4 : (l.chk d).1 ≠ 0
  ·
   rw [if_pos h4, zE (zDL h4)]
   exact ⟨H1, rfl, k2⟩
  ·
   rw [if_neg h4, zD (zBH (Decidable.not_not.1 h4))]
   obtain ⟨c8, c9⟩ : (l.chk d).2.2.al (l.chk d).2.1 = 0 ∧ (l.chk d).2.2.used = 0 := by
    rcases c6 with e | e | ⟨_, e1, e2⟩
    · exact absurd (by rw [e]; decide) h4
    · exact absurd (by rw [e]; decide) h4
    · exact ⟨e1, e2⟩
   exact p_cmt k2 c1 c2 c8 (by rw [c7, c3]; exact hg) (by rw [c7, c9]; omega) (by omega)
 ·
  rw [if_neg h3, zD (zZ (by omega))]
  exact p_cmt h g o ha hg (by omega) (by omega)
def Lgs.rdA (l : Lgs) (d : Dsk) (z : Int) : List UInt8 × Int := if l.al d ≠ 0 then ([], 30) else if z < 0 ∨ ((d.now.length - 2 - l.s : Nat) : Int) ≤ z then ([], 31) else (d.now.getD (2 + l.s + z.toNat) [], 0)
theorem p_LRead (h : LP H i j d l) (g : Dok d) (o : Lok d l) (z : Int) : yW (some j) z H = some (l.rdA d z) := by
 have := o.sl
 unfold Lgs.rdA
 rcases al_cs l d with ha | ha
 case inr =>
  rw [if_pos (by rw [ha]; decide)]
  unfold yW
  rw [zFR h g, ha, Option.bind_some, zE (by rfl)]
 rw [if_neg (by rw [ha]; decide)]
 have hL := h.in g o ha
 by_cases h3 : z < 0 ∨ ((d.now.length - 2 - l.s : Nat) : Int) ≤ z
 ·
  rw [if_pos h3]
  unfold yW
  rw [zFR h g, ha, Option.bind_some, zD (by rfl)]
  by_cases h0 : z < 0
  · rw [zE (qK h0)]
  · rw [zD (zZ h0), zIS hL, Option.bind_some, zE (qK (by omega))]
 ·
  rw [if_neg h3]
  obtain ⟨p, rfl⟩ := Int.eq_ofNat_of_zero_le (show 0 ≤ z by omega)
  have hp : 2 + l.s + p < d.now.length := by omega
  rw [n_LRead hL (List.getElem?_eq_getElem hp), Int.toNat_natCast, List.getD_eq_getElem?_getD, List.getElem?_eq_getElem hp]
  rfl
theorem zKH (h : LP H i j d l) (g : Dok d) (o : Lok d l) : qP (some j) H = some ((d.now.length - 2 - l.s : Nat) : Int) := by
 have := o.sl
 have := g.n1
 unfold qP
 show Option.bind (H.lg[j]?) _ = _
 rw [h.lg, Option.bind_some]
 show Option.bind (zAR (some i) H) _ = _
 rw [zHU h.dsk g.n0, Option.bind_some]
 show some (wi (wi ((d.now.length : Int) - 2) - (l.s : Int))) = _
 rw [yB (z := (d.now.length : Int) - 2) (by omega) (by omega), yB (by omega) (by omega)]
 congr 1
 omega
end
end Go.Proofs.YtjomnccladjpgaaGreat

/-
 Plain: the document's log, told exactly.
-/
namespace Go.Proofs.YtjomnccladjpgaaGreat
open Go Go.RowKit
set_option linter.unusedVariables false
set_option linter.unusedSimpArgs false
section
variable {H : Hp} {k q : Nat} {d : Dsk} {l : Lgs}
theorem LR.dk (h : LR H k q d l) : ∃ x, H.rd[k]? = some x ∧ x.Off = d.off ∧ x.Lives = d.lives ∧ x.Kept.2 = d.kept.length ∧ x.Wait.length = d.wait.length := by
 obtain ⟨a, h1, h2⟩ := h.dsk.at_
 exact ⟨_, h1, rfl, rfl, rfl, List.length_map ..⟩
theorem zFv (h : LR H k q d l) : zAd (some q) H = some (l.al d) := by
 obtain ⟨x, x1, x2, x3, x4, x5⟩ := h.dk
 unfold zAd Lgs.al
 show Option.bind (H.rl[q]?) _ = _
 rw [h.lg, Option.bind_some]
 show Option.bind (H.rd[k]?) _ = _
 rw [x1, Option.bind_some, x2]
 cases ho : d.off with
 | true => rw [zE (by rfl), if_pos (.inl rfl)]
 | false =>
  rw [zD (by rfl), x3]
  show (bif (d.lives != l.life) then some 30 else some 0) = _
  by_cases hl : d.lives = l.life
  · rw [zD (zBH hl), if_neg (by simp [hl])]
  · rw [zE (zDL hl), if_pos (.inr hl)]
theorem zFd (h : LR H k q d l) (g : Dok d) (o : Lok d l) : yT (some q) H = some ((d.now.length - 2 - l.s : Nat) : Int) := by
 obtain ⟨x, x1, x2, x3, x4, x5⟩ := h.dk
 have := o.sl
 have := g.n1
 have := g.len
 unfold yT
 show Option.bind (H.rl[q]?) _ = _
 rw [h.lg, Option.bind_some]
 show Option.bind (H.rd[k]?) _ = _
 rw [x1, Option.bind_some, x4]
 show some (wi (wi ((d.kept.length : Int) - 2) - (l.s : Int))) = _
 rw [yB (z := (d.kept.length : Int) - 2) (by omega) (by omega), yB (by omega) (by omega)]
 congr 1
 omega
theorem r_LRead (h : LR H k q d l) (g : Dok d) (o : Lok d l) (hw : d.wait.length < 1000000) (z : Int) : zCs (some q) z H = some (l.rdA d z) := by
 have := o.sl
 have := g.n1
 unfold zCs Lgs.rdA
 rw [zFv h, Option.bind_some]
 rcases al_cs l d with ha | ha
 case inr =>
  rw [if_pos (by rw [ha]; decide), ha, zE (by rfl)]
 rw [if_neg (by rw [ha]; decide), ha, zD (by rfl)]
 obtain ⟨ho, hlf⟩ := al_0 ha
 by_cases h0 : z < 0
 · rw [zE (qK h0), if_pos (.inl h0)]
 ·
  rw [zD (zZ h0), zFd h g o, Option.bind_some]
  by_cases h3 : ((d.now.length - 2 - l.s : Nat) : Int) ≤ z
  · rw [zE (qK h3), if_pos (.inr h3)]
  ·
   obtain ⟨p, rfl⟩ := Int.eq_ofNat_of_zero_le (show 0 ≤ z by omega)
   have hp : 2 + l.s + p < d.now.length := by omega
   rw [zD (zZ h3), if_neg (by omega)]
   show Option.bind (H.rl[q]?) _ = _
   rw [h.lg, Option.bind_some]
   show Option.bind (zBP (some k) (wi (wi (2 + (l.s : Int)) + (p : Int))) H) _ = _
   rw [yB (z := 2 + (l.s : Int)) (by omega) (by omega), yB (z := 2 + (l.s : Int) + (p : Int)) (by omega) (by omega), show 2 + (l.s : Int) + (p : Int) = ((2 + l.s + p : Nat) : Int) by omega, zKh h.dsk g hw, Option.bind_some]
   unfold Dsk.rdA
   rw [if_neg (by simp [ho]), if_neg (by omega), Int.toNat_natCast, Int.toNat_natCast]
theorem zJC {ws : List zC} (hwl : ws.length ≤ 100000) : ∀ (n z : Nat) (H : Hp) (d : Dsk), LR H k q d l → Dok d → Lok d l → l.al d = 0 → Good l.s d.now.length ws → d.wait.length + (ws.length - z) ≤ 900000 → z ≤ ws.length → ws.length - z < n →
  ∃ H', zBC ws (some q) n (z : Int) H = some ((d.wrl ((ws.drop z).map (hmE l.s))).1, H') ∧ RIn H' k (d.wrl ((ws.drop z).map (hmE l.s))).2 ∧ H'.rl = H.rl ∧ FrR H H'
 | 0, z, _, _, _, _, _, _, _, _, _, h => by omega
 | n + 1, z, H, d, h, g, o, ha, hg, hw, hz, hn => by
  have := o.sl
  have := g.n1
  obtain ⟨ho, hlf⟩ := al_0 ha
  unfold zBC
  by_cases hlt : z < ws.length
  ·
   obtain ⟨w1, w2, w3⟩ := hg _ (List.getElem_mem hlt)
   have hH : ws[z].Home = (ws[z].Home.toNat : Int) := (Int.toNat_of_nonneg w1).symm
   have hb : 2 + l.s + ws[z].Home.toNat < d.now.length := by omega
   rw [zE (qK (by omega))]
   show ∃ H', Option.bind (H.rl[q]?) _ = _ ∧ _
   rw [h.lg, Option.bind_some, qY hlt, Option.bind_some, Option.bind_some]
   have e1 : wi (wi (2 + (l.s : Int)) + ws[z].Home) = ((2 + l.s + ws[z].Home.toNat : Nat) : Int) := by
    rw [yB (z := 2 + (l.s : Int)) (by omega) (by omega), yB (by omega) (by omega)]
    omega
   obtain ⟨H1, g1, g2, g3, g4⟩ := zHe h.dsk g ho hb w3 (by omega)
   show ∃ H', Option.bind (yH (some k) (wi (wi (2 + (l.s : Int)) + ws[z].Home)) ws[z].Data H) _ = _ ∧ _
   rw [e1, g1, Option.bind_some, List.drop_eq_getElem_cons hlt, List.map_cons]
   unfold Dsk.wrl
   show ∃ H', (bif (d.e != 0) then some (d.e, H1) else zBC ws (some q) n (wi ((z : Int) + 1)) H1) = _ ∧ _
   by_cases h0 : d.fuse = 0
   ·
    rw [if_pos h0, e_eq h0, zE (by rfl)]
    exact ⟨H1, rfl, g2, g3, g4⟩
   ·
    obtain ⟨v1, v2, v3⟩ := zDP d (2 + l.s + ws[z].Home.toNat) ws[z].Data
    rw [if_neg h0, e_ne h0, zD (by rfl), yK (by omega)]
    obtain ⟨H', k1, k2, k3, k4⟩ := zJC hwl n (z + 1) H1 (d.wr (2 + l.s + ws[z].Home.toNat) ws[z].Data) ⟨g2, by rw [g3]; exact h.lg⟩ (g.wr hb w3) (o.len v1) (zIe (by rw [zGm ho]; exact zZ h0) (by rw [v2]; exact hlf)) (by rw [v1]; exact hg) (by omega) (by omega) (by omega)
    exact ⟨H', k1, k2, k3.trans g3, g4.trans k4⟩
  ·
   have e : z = ws.length := by omega
   subst e
   rw [zD (zZ (by omega)), List.drop_length]
   exact ⟨H, rfl, h.dsk, rfl, .refl _⟩
theorem r_redo {ws : List zC} (h : LR H k q d l) (g : Dok d) (o : Lok d l) (ha : l.al d = 0) (hwl : ws.length ≤ 100000) (hg : Good l.s d.now.length ws) (hw : d.wait.length ≤ 700000) :
  ∃ H', zBm (some q) ws H = some ((d.wrl (ws.map (hmE l.s))).1, H') ∧ RIn H' k (d.wrl (ws.map (hmE l.s))).2 ∧ H'.rl = H.rl ∧ FrR H H' := by
 have := zJC hwl (ws.length + 1) 0 H d h g o ha hg (by omega) (by omega) (by omega)
 rwa [List.drop_zero] at this
theorem zFX (h : LR H k q d l) (g : Dok d) (o : Lok d l) (ha : l.al d = 0) (hw : d.wait.length ≤ 900000) :
  ∃ H', qG (some q) H = some ((l.chk d).1, H') ∧ LR H' k q (l.chk d).2.1 (l.chk d).2.2 ∧ FrR H H' := by
 obtain ⟨ho, hlf⟩ := al_0 ha
 have := o.sl
 have := g.n1
 have := o.bs
 have := o.s1
 unfold qG Lgs.chk
 rw [zFv h, ha, Option.bind_some, zD (by rfl)]
 show ∃ H', Option.bind (H.rl[q]?) _ = _ ∧ _
 rw [h.lg, Option.bind_some]
 show ∃ H', (bif decide ((l.base : Int) > wi (2305843009213693952 - (l.s : Int))) then _ else _) = _ ∧ _
 rw [yB (z := 2305843009213693952 - (l.s : Int)) (by omega) (by omega)]
 by_cases hb : l.base > 2305843009213693952 - l.s
 ·
  rw [if_pos hb, zE (qK (by omega))]
  exact ⟨H, rfl, h, .refl _⟩
 rw [if_neg hb, zD (zZ (by omega))]
 obtain ⟨H1, g1, g2, g3, g4⟩ := zHZ h.dsk g ho (by omega)
 show ∃ H', Option.bind (yJ (some k) H) _ = _ ∧ _
 rw [g1, Option.bind_some]
 by_cases h0 : d.fuse = 0
 ·
  rw [if_pos h0]
  show ∃ H', (bif (d.e != 0) then some (d.e, H1) else _) = _ ∧ _
  rw [e_eq h0, zE (by rfl)]
  exact ⟨H1, rfl, ⟨g2, by rw [g3]; exact h.lg⟩, g4⟩
 rw [if_neg h0]
 show ∃ H', (bif (d.e != 0) then some (d.e, H1) else Option.bind (H1.rl[q]?) _) = _ ∧ _
 rw [e_ne h0, zD (by rfl), g3, h.lg, Option.bind_some]
 obtain ⟨v1, v2, v3, v4⟩ := zD4 d
 have gf := g.fl
 have hof : d.fl.off = false := by rw [zIC ho]; exact zZ h0
 show ∃ H', Option.bind (zDV (wi ((l.base : Int) + (l.s : Int))) (l.s : Int)) _ = _ ∧ _
 rw [yB (z := (l.base : Int) + (l.s : Int)) (by omega) (by omega), show (l.base : Int) + (l.s : Int) = ((l.base + l.s : Nat) : Int) by omega, zJf (by omega) (by omega), Option.bind_some]
 have hsl : 1 - l.slot < d.fl.now.length := by omega
 obtain ⟨H2, k1, k2, k3, k4⟩ := zHe g2 gf hof hsl (zCW (l.base + l.s) l.s) (by omega)
 show ∃ H', Option.bind (yH (some k) (wi (1 - (l.slot : Int))) (zA1 (l.base + l.s) l.s) H1) _ = _ ∧ _
 have es : wi (1 - (l.slot : Int)) = ((1 - l.slot : Nat) : Int) := by rw [yB (by omega) (by omega)]; omega
 rw [es, k1, Option.bind_some]
 by_cases h1 : d.fl.fuse = 0
 ·
  rw [if_pos h1]
  show ∃ H', (bif (d.fl.e != 0) then some (d.fl.e, H2) else _) = _ ∧ _
  rw [e_eq h1, zE (by rfl)]
  exact ⟨H2, rfl, ⟨k2, by rw [k3, g3]; exact h.lg⟩, g4.trans k4⟩
 rw [if_neg h1]
 show ∃ H', (bif (d.fl.e != 0) then some (d.fl.e, H2) else Option.bind (H2.rl[q]?) _) = _ ∧ _
 rw [e_ne h1, zD (by rfl), k3, g3, h.lg, Option.bind_some]
 have gw := gf.wr hsl (zCW (l.base + l.s) l.s)
 obtain ⟨u1, u2, u3⟩ := zDP d.fl (1 - l.slot) (zA1 (l.base + l.s) l.s)
 have how : (d.fl.wr (1 - l.slot) (zA1 (l.base + l.s) l.s)).off = false := by rw [zGm hof]; exact zZ h1
 obtain ⟨H3, m1, m2, m3, m4⟩ := zHZ k2 gw how (by omega)
 show ∃ H', Option.bind (yJ (some k) H2) _ = _ ∧ _
 rw [m1, Option.bind_some]
 by_cases h2 : (d.fl.wr (1 - l.slot) (zA1 (l.base + l.s) l.s)).fuse = 0
 ·
  rw [if_pos h2]
  show ∃ H', (bif (Dsk.e _ != 0) then some (Dsk.e _, H3) else _) = _ ∧ _
  rw [e_eq h2, zE (by rfl)]
  exact ⟨H3, rfl, ⟨m2, by rw [m3, k3, g3]; exact h.lg⟩, (g4.trans k4).trans m4⟩
 rw [if_neg h2]
 show ∃ H', (bif (Dsk.e _ != 0) then some (Dsk.e _, H3) else Option.bind (H3.rl[q]?) _) = _ ∧ _
 rw [e_ne h2, zD (by rfl), m3, k3, g3, h.lg, Option.bind_some]
 have hj : q < H3.rl.length := by rw [m3, k3, g3]; exact (List.getElem?_eq_some_iff.1 h.lg).1
 have f := (g4.trans k4).trans m4
 refine ⟨_, rfl, ⟨⟨m2.at_⟩, ?_⟩, ⟨f.dk, f.sec, f.lg, f.tx, f.mp, f.lo⟩⟩
 show (((H3.rl.set q _).set q _).set q _)[q]? = _
 rw [List.getElem?_set_self (by simp; omega)]
 show some (zT.mk (some k) (l.s : Int) (wi ((l.base : Int) + (l.s : Int))) (wi (1 - (l.slot : Int))) 0 l.life l.com) = some (zT.mk (some k) (l.s : Int) ((l.base + l.s : Nat) : Int) ((1 - l.slot : Nat) : Int) ((0 : Nat) : Int) l.life l.com)
 rw [yB (z := (l.base : Int) + (l.s : Int)) (by omega) (by omega), es]
 rfl
end
end Go.Proofs.YtjomnccladjpgaaGreat

/-
 Plain: the document's commits, told exactly.
-/
namespace Go.Proofs.YtjomnccladjpgaaGreat
open Go Go.RowKit
set_option linter.unusedVariables false
set_option linter.unusedSimpArgs false
section
variable {H : Hp} {k q : Nat} {d : Dsk} {l : Lgs}
theorem zFK {kd n st : Nat} {zk zn zs : Int} {dd : List UInt8} (hk : kd < 256) (hn : n < 4294967296) (hd : dd.length = 32) (hs : st ≤ 4611686018427387904) (e1 : zk = (kd : Int)) (e2 : zn = (n : Int)) (e3 : zs = (st : Int)) : zAK zk zn dd zs = some (zAz kd n dd st) := by
 rw [e1, e2, e3]
 exact n_REntry hk hn hd hs
theorem zHL {ws : List zC} (hg0 : ∀ n, Good l.s n ws → True) (hwl : ws.length ≤ 10000) (hu : l.used + (2 * ws.length + 1) ≤ l.s) : ∀ (n z : Nat) (H : Hp) (d : Dsk), LR H k q d l → Dok d → Lok d l → l.al d = 0 → Good l.s d.now.length ws → d.wait.length + (2 * ws.length + 1 - z) ≤ 900000 → z ≤ 2 * ws.length + 1 → 2 * ws.length + 1 - z < n →
  ∃ H', yQ ws q (l.R k) n (z : Int) H = (if (d.wrl (enW (2 + l.used) (l.base + l.used) ((zCT ws).drop z) z)).1 ≠ 0 then some (30, H') else zBI q ws H') ∧ RIn H' k (d.wrl (enW (2 + l.used) (l.base + l.used) ((zCT ws).drop z) z)).2 ∧ H'.rl = H.rl ∧ FrR H H'
 | 0, z, _, _, _, _, _, _, _, _, _, h => by omega
 | n + 1, z, H, d, h, g, o, ha, hg, hw, hz, hn => by
  have := o.sl
  have := g.n1
  have := o.bs
  obtain ⟨ho, hlf⟩ := al_0 ha
  have hEl := zDN ws
  have ew : wi (wi (2 * (ws.length : Int)) + 1) = ((2 * ws.length + 1 : Nat) : Int) := by
   rw [yB (z := 2 * (ws.length : Int)) (by omega) (by omega), yB (by omega) (by omega)]
   omega
  unfold yQ
  rw [ew]
  by_cases hlt : z < 2 * ws.length + 1
  ·
   have hzE : z < (zCT ws).length := by omega
   have hok := zHA ws hg (by omega) hwl
   have hoe := hok _ (List.getElem_mem hzE)
   rw [zE (qK (by omega)), show mkI 1 32 = some 32 from mk_1 32 (by omega), Option.bind_some]
   show ∃ H', Option.bind (H.rl[q]?) _ = _ ∧ _
   rw [h.lg, Option.bind_some]
   have est : wi (wi ((l.base : Int) + (l.used : Int)) + (z : Int)) = ((l.base + l.used + z : Nat) : Int) := by
    rw [yB (z := (l.base : Int) + (l.used : Int)) (by omega) (by omega), yB (by omega) (by omega)]
    omega
   have eE := zFK (zk := 3) (kd := 3) (n := ws.length) (st := l.base + l.used + z) (dd := List.replicate 32 0) (by omega) (by omega) (by simp) (by omega) rfl rfl est
   show ∃ H', Option.bind (zAK 3 (ws.length : Int) (List.replicate 32 0) (wi (wi ((l.base : Int) + (l.used : Int)) + (z : Int)))) _ = _ ∧ _
   rw [eE, Option.bind_some]
   have hp : 2 + l.used + z < d.now.length := by omega
   have epl : wi (wi (2 + (l.used : Int)) + (z : Int)) = ((2 + l.used + z : Nat) : Int) := by
    rw [yB (z := 2 + (l.used : Int)) (by omega) (by omega), yB (by omega) (by omega)]
    omega
   have hrl := zHB (st := l.base + l.used + z) hoe
   have key : ∃ H', zBE (yQ ws q (l.R k) n) (l.R k) (l.R k) (z : Int) H (rowE (zCT ws)[z] (l.base + l.used + z)) = (if (d.wrl (enW (2 + l.used) (l.base + l.used) ((zCT ws).drop z) z)).1 ≠ 0 then some (30, H') else zBI q ws H') ∧ RIn H' k (d.wrl (enW (2 + l.used) (l.base + l.used) ((zCT ws).drop z) z)).2 ∧ H'.rl = H.rl ∧ FrR H H' := by
    unfold zBE
    obtain ⟨H1, g1, g2, g3, g4⟩ := zHe h.dsk g ho hp hrl (by omega)
    show ∃ H', Option.bind (yH (some k) (wi (wi (2 + (l.used : Int)) + (z : Int))) _ H) _ = _ ∧ _
    rw [epl, g1, Option.bind_some, List.drop_eq_getElem_cons hzE]
    unfold enW Dsk.wrl
    show ∃ H', (bif (d.e != 0) then some (d.e, H1) else yQ ws q (l.R k) n (wi ((z : Int) + 1)) H1) = _ ∧ _
    by_cases h0 : d.fuse = 0
    ·
     rw [if_pos h0, e_eq h0, zE (by rfl)]
     exact ⟨H1, (if_pos (show (30 : Int) ≠ 0 by decide)).symm, g2, g3, g4⟩
    ·
     obtain ⟨v1, v2, v3⟩ := zDP d (2 + l.used + z) (rowE (zCT ws)[z] (l.base + l.used + z))
     rw [if_neg h0, e_ne h0, zD (by rfl), yK (by omega)]
     obtain ⟨H', k1, k2, k3, k4⟩ := zHL hg0 hwl hu n (z + 1) H1 (d.wr (2 + l.used + z) (rowE (zCT ws)[z] (l.base + l.used + z))) ⟨g2, by rw [g3]; exact h.lg⟩ (g.wr hp hrl) (o.len v1) (zIe (by rw [zGm ho]; exact zZ h0) (by rw [v2]; exact hlf)) (by rw [v1]; exact hg) (by omega) (by omega) (by omega)
     exact ⟨H', k1, k2, k3.trans g3, g4.trans k4⟩
   have e1 : wi (((2 * ws.length + 1 : Nat) : Int) - 1) = ((2 * ws.length : Nat) : Int) := by rw [yB (by omega) (by omega)]; omega
   rw [e1]
   by_cases hlast : z < 2 * ws.length
   ·
    have hk2 : z / 2 < ws.length := by omega
    have et : wi (Int.tdiv (z : Int) 2) = ((z / 2 : Nat) : Int) := by
     rw [show Int.tdiv (z : Int) 2 = ((z / 2 : Nat) : Int) from rfl, yB (by omega) (by omega)]
    have em : Int.tmod (z : Int) 2 = ((z % 2 : Nat) : Int) := rfl
    obtain ⟨w1, w2, w3⟩ := hg _ (List.getElem_mem hk2)
    rw [zE (qK (by omega)), et, qY hk2, Option.bind_some, Option.bind_some, em, yB (z := 32 * ((z % 2 : Nat) : Int)) (by omega) (by omega), yB (z := 32 * ((z % 2 : Nat) : Int) + 32) (by omega) (by omega)]
    have ec : cutI ws[z / 2].Data (32 * ((z % 2 : Nat) : Int)) (32 * ((z % 2 : Nat) : Int) + 32) = some ((ws[z / 2].Data.drop (32 * (z % 2))).take 32) := by
     have := zCv (l := ws[z / 2].Data) (lo := 32 * (z % 2)) (n := 32) (by omega) (32 * ((z % 2 : Nat) : Int) + 32) (by omega)
     rwa [show ((32 * (z % 2) : Nat) : Int) = 32 * ((z % 2 : Nat) : Int) by omega] at this
    rw [ec, Option.bind_some]
    obtain ⟨q1, q2⟩ := ents_at ws (z / 2) hk2
    have hgen : ∀ kd dd, (zCT ws)[z] = ⟨(kd : Nat), ws[z / 2].Home, dd, false⟩ → kd < 256 → dd.length = 32 → wi (1 + ((z % 2 : Nat) : Int)) = (kd : Int) → (ws[z / 2].Data.drop (32 * (z % 2))).take 32 = dd → zAK (wi (1 + ((z % 2 : Nat) : Int))) ws[z / 2].Home ((ws[z / 2].Data.drop (32 * (z % 2))).take 32) (wi (wi ((l.R k).Base + (l.R k).Used) + (z : Int))) = some (rowE (zCT ws)[z] (l.base + l.used + z)) := by
     intro kd dd he hk hd hkd hdd
     rw [hdd, he]
     exact zFK (kd := kd) (n := ws[z / 2].Home.toNat) (st := l.base + l.used + z) hk (by omega) hd (by omega) hkd (Int.toNat_of_nonneg w1).symm est
    have hEz : (zCT ws)[z]? = (ents ws)[z]? := by
     unfold zCT
     rw [List.getElem?_append_left (by rw [zEm]; exact hlast)]
    have hEz2 : (zCT ws)[z]? = some (zCT ws)[z] := List.getElem?_eq_getElem hzE
    have hrow : zAK (wi (1 + ((z % 2 : Nat) : Int))) ws[z / 2].Home ((ws[z / 2].Data.drop (32 * (z % 2))).take 32) (wi (wi ((l.R k).Base + (l.R k).Used) + (z : Int))) = some (rowE (zCT ws)[z] (l.base + l.used + z)) := by
     rcases Nat.mod_two_eq_zero_or_one z with hm | hm
     ·
      have e2 : 2 * (z / 2) = z := by omega
      rw [e2, ← hEz, hEz2] at q1
      injection q1 with q1
      exact hgen 1 _ q1 (by omega) (by simp; omega) (by rw [hm]; exact yB (by omega) (by omega)) (by rw [hm]; rfl)
     ·
      have e2 : 2 * (z / 2) + 1 = z := by omega
      rw [e2, ← hEz, hEz2] at q2
      injection q2 with q2
      exact hgen 2 _ q2 (by omega) (by simp; omega) (by rw [hm]; exact yB (by omega) (by omega)) (by rw [hm]; exact List.take_of_length_le (by simp; omega))
    show ∃ H', Option.bind (zAK (wi (1 + ((z % 2 : Nat) : Int))) ws[z / 2].Home ((ws[z / 2].Data.drop (32 * (z % 2))).take 32) (wi (wi ((l.R k).Base + (l.R k).Used) + (z : Int)))) _ = _ ∧ _
    rw [hrow, Option.bind_some]
    exact key
   ·
    have ez : z = 2 * ws.length := by omega
    rw [zD (zZ (by omega))]
    have hEz : (zCT ws)[z]? = some ⟨3, ws.length, [], false⟩ := by
     unfold zCT
     rw [List.getElem?_append_right (by rw [zEm]; omega), zEm, show z - 2 * ws.length = 0 by omega]
     rfl
    rw [List.getElem?_eq_getElem hzE] at hEz
    injection hEz with hEz
    have hr : rowE (zCT ws)[z] (l.base + l.used + z) = zAz 3 ws.length (List.replicate 32 0) (l.base + l.used + z) := by
     rw [hEz]
     exact zLF 3 ws.length _
    rw [← hr]
    exact key
  ·
   have e : z = 2 * ws.length + 1 := by omega
   subst e
   rw [zD (zZ (by omega)), ← hEl, List.drop_length]
   exact ⟨H, by unfold enW Dsk.wrl; rw [if_neg (by simp)], h.dsk, rfl, .refl _⟩
theorem r_cmt {ws : List zC} (h : LR H k q d l) (g : Dok d) (o : Lok d l) (ha : l.al d = 0) (hg : Good l.s d.now.length ws) (hu : l.used + (2 * ws.length + 1) ≤ l.s) (hw : d.wait.length ≤ 500000) :
  ∃ H', zAm q ws H = some ((l.cmt d ws).1, H') ∧ LR H' k q (l.cmt d ws).2.1 (l.cmt d ws).2.2 ∧ FrR H H' := by
 have := o.sl
 have := g.n1
 have hl : ws.length ≤ 10000 := by omega
 obtain ⟨ho, hlf⟩ := al_0 ha
 have hok := zHA ws hg (by omega) hl
 have hE := zIV (o := 2 + l.used) (b := l.base + l.used) (n := d.now.length) (zCT ws) 0 hok (by rw [zDN]; omega)
 obtain ⟨a1, a2, a3, a4, a5⟩ := zHg _ d g hE
 rw [zIb, zDN] at a4
 have ew : wi (wi (2 * (ws.length : Int)) + 1) = ((2 * ws.length + 1 : Nat) : Int) := by
  rw [yB (z := 2 * (ws.length : Int)) (by omega) (by omega), yB (by omega) (by omega)]
  omega
 unfold zAm
 show ∃ H', Option.bind (H.rl[q]?) _ = _ ∧ _
 rw [h.lg, Option.bind_some, ew, Int.toNat_natCast]
 obtain ⟨H1, k1, k2, k3, k4⟩ := zHL (ws := ws) (fun _ _ => trivial) hl hu (2 * ws.length + 1 + 1) 0 H d h g o ha hg (by omega) (by omega) (by omega)
 rw [List.drop_zero] at k1 k2
 rw [show ((0 : Nat) : Int) = 0 from rfl] at k1
 rw [k1]
 unfold Lgs.cmt
 generalize d.wrl (enW (2 + l.used) (l.base + l.used) (zCT ws) 0) = w at a1 a2 a3 a4 a5 k2
 by_cases h0 : w.1 ≠ 0
 ·
  rw [if_pos h0, if_pos h0]
  exact ⟨H1, rfl, ⟨k2, by rw [k3]; exact h.lg⟩, k4⟩
 rw [if_neg h0, if_neg h0]
 have how : w.2.off = false := (a5.resolve_left fun e => h0 (by rw [e]; decide)).2 ho
 unfold zBI
 show ∃ H', Option.bind (H1.rl[q]?) _ = _ ∧ _
 rw [k3, h.lg, Option.bind_some]
 obtain ⟨H2, m1, m2, m3, m4⟩ := zHZ k2 a1 how (by omega)
 show ∃ H', Option.bind (yJ (some k) H1) _ = _ ∧ _
 rw [m1, Option.bind_some]
 show ∃ H', (bif (w.2.e != 0) then some (w.2.e, H2) else Option.bind (H2.rl[q]?) _) = _ ∧ _
 by_cases h1 : w.2.fuse = 0
 ·
  rw [if_pos h1, e_eq h1, zE (by rfl)]
  exact ⟨H2, rfl, ⟨m2, by rw [m3, k3]; exact h.lg⟩, k4.trans m4⟩
 rw [if_neg h1, e_ne h1, zD (by rfl), m3, k3, h.lg, Option.bind_some, ew]
 have hj : q < H2.rl.length := by rw [m3, k3]; exact (List.getElem?_eq_some_iff.1 h.lg).1
 obtain ⟨v1, v2, v3, v4⟩ := zD4 w.2
 let X : zT := ⟨some k, (l.s : Int), (l.base : Int), (l.slot : Int), wi ((l.used : Int) + ((2 * ws.length + 1 : Nat) : Int)), l.life, l.com⟩
 let Y : zT := ⟨some k, (l.s : Int), (l.base : Int), (l.slot : Int), wi ((l.used : Int) + ((2 * ws.length + 1 : Nat) : Int)), l.life, wi (l.com + 1)⟩
 have hY : LR ((H2.st_rl q X).st_rl q Y) k q w.2.fl ⟨l.s, l.base, l.slot, l.used + (2 * ws.length + 1), l.life, wi (l.com + 1)⟩ := by
  refine ⟨⟨m2.at_⟩, ?_⟩
  show ((H2.rl.set q _).set q _)[q]? = _
  rw [List.getElem?_set_self (by simp; omega)]
  show some (zT.mk _ _ _ _ (wi ((l.used : Int) + ((2 * ws.length + 1 : Nat) : Int))) _ _) = _
  rw [yB (z := (l.used : Int) + ((2 * ws.length + 1 : Nat) : Int)) (by omega) (by omega)]
  rfl
 obtain ⟨H3, r1, r2, r3, r4⟩ := r_redo (ws := ws) hY a1.fl ⟨o.s3, by show l.s + 3 ≤ _; omega, o.bs, o.s1, hu⟩ (zIe (by rw [zIC how]; exact zZ h1) (by show l.life = _; rw [v3, a3]; exact hlf)) (by omega) (by rw [v1, a2]; exact hg) (by omega)
 refine ⟨H3, ?_, ⟨r2, ?_⟩, (k4.trans m4).trans ⟨r4.dk, r4.sec, r4.lg, r4.tx, r4.mp, r4.lo⟩⟩
 ·
  show Option.bind (zBm (some q) ws ((H2.st_rl q X).st_rl q Y)) _ = _
  rw [r1]
  rfl
 ·
  rw [r3]
  exact hY.lg
theorem zGu (h : LR H k q d l) (g : Dok d) (o : Lok d l) (ha : l.al d = 0) (ws : List zC) (hl : ws.length ≤ 10000) : (Good l.s d.now.length ws → yV (some q) ws H = zBQ (some q) H ws) ∧ (¬ Good l.s d.now.length ws → yV (some q) ws H = some (2, H)) := by
 have key := zHR (len := ws.length) (qU ws H (some q)) (fun k => ∀ hk : k < ws.length, 0 ≤ ws[k].Home ∧ ws[k].Home < ((d.now.length - 2 - l.s : Nat) : Int) ∧ ws[k].Data.length = 64) (zBQ (some q) H ws) (some (2, H)) (fun n k hk => by
  have hu : qU ws H (some q) (n + 1) (k : Int) = (bif decide (ws[k].Home < 0) then some (2, H) else bif decide (ws[k].Home ≥ ((d.now.length - 2 - l.s : Nat) : Int)) then some (2, H) else bif ((ws[k].Data.length : Int) != 64) then some (2, H) else qU ws H (some q) n ((k + 1 : Nat) : Int)) := by
   rw [qU, zE (qK (by omega)), qY hk, Option.bind_some, Option.bind_some, ptM_s, zFd h g o, Option.bind_some, Option.bind_some]
   unfold zB8
   rw [yK (by omega)]
  rw [hu]
  refine ⟨fun hp => ?_, fun hp => ?_⟩
  ·
   obtain ⟨h1, h2, h3⟩ := hp hk
   rw [zD (zZ (by omega)), zD (zZ (by omega)), zD (zBH (by omega))]
  ·
   by_cases h1 : ws[k].Home < 0
   · rw [zE (qK h1)]
   ·
    rw [zD (zZ h1)]
    by_cases h2 : ws[k].Home < ((d.now.length - 2 - l.s : Nat) : Int)
    · rw [zD (zZ (by omega)), zE (zDL fun e => hp fun _ => ⟨by omega, h2, by omega⟩)]
    · rw [zE (qK (by omega))]) (fun n => by rw [qU, zD (zZ (by omega))]) (ws.length + 1) 0 (by omega) (by omega)
 have e : yV (some q) ws H = qU ws H (some q) (ws.length + 1) ((0 : Nat) : Int) := by
  unfold yV
  rw [zFv h, ha, Option.bind_some, zD (by rfl)]
  rfl
 rw [e]
 refine ⟨fun hg => key.1 fun k _ hk _ => hg _ (List.getElem_mem hk), fun hg => key.2 fun hc => hg fun w hw => ?_⟩
 obtain ⟨k, hk, rfl⟩ := List.getElem_of_mem hw
 exact hc k (by omega) hk hk
theorem zJ6 {ws : List zC} (h : LR H k q d l) (g : Dok d) (o : Lok d l) (hl : ws.length ≤ 10000) (hw : d.wait.length ≤ 400000) :
  ∃ H', yV (some q) ws H = some ((l.com_ d ws).1, H') ∧ LR H' k q (l.com_ d ws).2.1 (l.com_ d ws).2.2 ∧ FrR H H' := by
 have := o.sl
 have := g.n1
 have := o.us
 unfold Lgs.com_
 rcases al_cs l d with ha | ha
 case inr =>
  rw [if_pos (by rw [ha]; decide)]
  refine ⟨H, ?_, h, .refl _⟩
  unfold yV
  rw [zFv h, ha, Option.bind_some, zE (by rfl)]
 rw [if_neg (by rw [ha]; decide)]
 by_cases hg : Good l.s d.now.length ws
 case neg =>
  rw [if_pos hg]
  exact ⟨H, (zGu h g o ha ws hl).2 hg, h, .refl _⟩
 rw [if_neg (fun e => e hg), (zGu h g o ha ws hl).1 hg]
 unfold zBQ
 show ∃ H', Option.bind (H.rl[q]?) _ = _ ∧ _
 rw [h.lg, Option.bind_some]
 have ew : wi (wi (2 * (ws.length : Int)) + 1) = ((2 * ws.length + 1 : Nat) : Int) := by
  rw [yB (z := 2 * (ws.length : Int)) (by omega) (by omega), yB (by omega) (by omega)]
  omega
 have eL : wi ((l.s : Int) - (l.used : Int)) = ((l.s - l.used : Nat) : Int) := by rw [yB (by omega) (by omega)]; omega
 show ∃ H', (bif decide (wi (wi (2 * (ws.length : Int)) + 1) > (l.s : Int)) then _ else bif ((ws.length : Int) == 0) then _ else bif decide (wi (wi (2 * (ws.length : Int)) + 1) > wi ((l.s : Int) - (l.used : Int))) then _ else _) = _ ∧ _
 rw [ew, eL]
 by_cases h1 : 2 * ws.length + 1 > l.s
 ·
  rw [if_pos h1, zE (qK (by omega))]
  exact ⟨H, rfl, h, .refl _⟩
 rw [if_neg h1, zD (zZ (by omega))]
 by_cases h2 : ws.length = 0
 ·
  rw [if_pos h2, zE (zDB (by omega))]
  exact ⟨H, rfl, h, .refl _⟩
 rw [if_neg h2, zD (zBq (by omega))]
 by_cases h3 : 2 * ws.length + 1 > l.s - l.used
 ·
  rw [if_pos h3, zE (qK (by omega))]
  obtain ⟨H1, k1, k2, k3⟩ := zFX h g o ha (by omega)
  obtain ⟨c1, c2, c3, c4, c5, c6, c7⟩ := zI6 g o ha
  rw [k1, Option.bind_some]
  show ∃ H', (bif ((l.chk d).1 != 0) then some ((l.chk d).1, H1) else zAm q ws H1) = _ ∧ _
  by_cases h4 : (l.chk d).1 ≠ 0
  ·
   rw [if_pos h4, zE (zDL h4)]
   exact ⟨H1, rfl, k2, k3⟩
  ·
   rw [if_neg h4, zD (zBH (Decidable.not_not.1 h4))]
   obtain ⟨c8, c9⟩ : (l.chk d).2.2.al (l.chk d).2.1 = 0 ∧ (l.chk d).2.2.used = 0 := by
    rcases c6 with e | e | ⟨_, e1, e2⟩
    · exact absurd (by rw [e]; decide) h4
    · exact absurd (by rw [e]; decide) h4
    · exact ⟨e1, e2⟩
   obtain ⟨H2, m1, m2, m3⟩ := r_cmt k2 c1 c2 c8 (by rw [c7, c3]; exact hg) (by rw [c7, c9]; omega) (by omega)
   exact ⟨H2, m1, m2, k3.trans m3⟩
 ·
  rw [if_neg h3, zD (zZ (by omega))]
  exact r_cmt h g o ha hg (by omega) (by omega)
end
end Go.Proofs.YtjomnccladjpgaaGreat
