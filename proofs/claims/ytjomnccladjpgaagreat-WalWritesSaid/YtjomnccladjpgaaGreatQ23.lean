/-
  Texts joined: see the remark at the head of each part.
-/
import Derived.Test.YtjomnccladjpgaaGreatQ22
set_option linter.unusedVariables false
set_option linter.unusedSimpArgs false
/-
 Plain: what an image says, read by the program and by the document.
-/
namespace Go.Proofs.YtjomnccladjpgaaGreat
open Go Go.RowKit
set_option linter.unusedVariables false
set_option linter.unusedSimpArgs false
theorem zGp (b : List UInt8) (hb : b.length < 1000000) : ∀ (n i : Nat), i ≤ b.length → b.length - i < n → ∃ z, zAI b zCu n (i : Int) = some z ∧ (z ≥ 0 ↔ ¬ ∀ x ∈ b.drop i, x = 0)
 | 0, i, _, h => by omega
 | n + 1, i, hi, h => by
  unfold zAI
  by_cases hlt : i < b.length
  ·
   rw [zE (qK (by omega)), qY hlt, Option.bind_some, List.drop_eq_getElem_cons hlt]
   unfold zCu
   rw [Option.bind_some]
   by_cases h0 : b[i] = 0
   ·
    rw [h0, show (((0 : UInt8).toNat : Int) != 0) = false from rfl, zD (by rfl), yK (by omega)]
    obtain ⟨z, h1, h2⟩ := zGp b hb n (i + 1) (by omega) (by omega)
    refine ⟨z, h1, h2.trans ⟨fun h h' => h fun x hx => h' x (List.mem_cons_of_mem _ hx), fun h h' => h fun x hx => ?_⟩⟩
    rcases List.mem_cons.1 hx with e | e
    · exact e
    · exact h' x e
   ·
    have hn : b[i].toNat ≠ 0 := fun e => h0 (UInt8.toNat_inj.1 e)
    rw [zE (zDL (by omega))]
    exact ⟨_, rfl, ⟨fun _ h' => h0 (h' _ List.mem_cons_self), fun _ => by omega⟩⟩
  ·
   rw [zD (zZ (by omega)), List.drop_eq_nil_of_le (by omega)]
   exact ⟨-1, rfl, ⟨fun h => by omega, fun h => absurd (fun x hx => absurd hx List.not_mem_nil) h⟩⟩
theorem zF4 (b : List UInt8) (hb : b.length < 1000000) : zA6 b = some (decide (∀ x ∈ b, x = 0)) := by
 unfold zA6 zBW zB6
 obtain ⟨z, h1, h2⟩ := zGp b hb (b.length + 1) 0 (by omega) (by omega)
 rw [show ((0 : Nat) : Int) = 0 from rfl] at h1
 rw [List.drop_zero] at h2
 rw [h1, Option.bind_some, Option.bind_some]
 congr 1
 by_cases h : ∀ x ∈ b, x = 0
 · rw [qK h, zZ (fun e => h2.1 e h)]; rfl
 · rw [zZ h, qK (h2.2 h)]; rfl
theorem zJ8 {b : List UInt8} (h : ∀ x ∈ b, x = 0) : b = List.replicate b.length 0 := List.eq_replicate_iff.2 ⟨rfl, h⟩
def slS (n : Nat) (r : List UInt8) : Nat × Nat :=
 if 1 ≤ ofBE (r.take 8) ∧ ofBE (r.take 8) ≤ 2305843009213693952 ∧ 3 ≤ ofBE ((r.drop 8).take 4) ∧ ofBE ((r.drop 8).take 4) + 3 ≤ n ∧ r = zA1 (ofBE (r.take 8)) (ofBE ((r.drop 8).take 4)) then (ofBE (r.take 8), ofBE ((r.drop 8).take 4)) else (0, 0)
theorem slS_cs (n : Nat) (r : List UInt8) : slS n r = (0, 0) ∨ (1 ≤ (slS n r).1 ∧ (slS n r).1 ≤ 2305843009213693952 ∧ 3 ≤ (slS n r).2 ∧ (slS n r).2 + 3 ≤ n ∧ r = zA1 (slS n r).1 (slS n r).2) := by
 unfold slS
 split
 · rename_i h; exact .inr h
 · exact .inl rfl
theorem zK9 {r : List UInt8} (hr : r.length = 64) : r = r.take 8 ++ ((r.drop 8).take 4 ++ ((r.drop 12).take 44 ++ r.drop 56)) := by
 have e1 : r.drop 12 = (r.drop 12).take 44 ++ r.drop 56 := by
  conv => lhs; rw [← List.take_append_drop 44 (r.drop 12)]
  rw [List.drop_drop]
 have e2 : r.drop 8 = (r.drop 8).take 4 ++ r.drop 12 := by
  conv => lhs; rw [← List.take_append_drop 4 (r.drop 8)]
  rw [List.drop_drop]
 rw [← e1, ← e2, List.take_append_drop]
section
variable {H : Hp} {i k : Nat} {d : Dsk}
theorem p_room (h : DIn H i d) (g : Dok d) (z : Int) (hz : -1000 ≤ z) (hz2 : z ≤ 4611686018427387904) : zDZ (some i) z H = some (decide (3 ≤ z ∧ z + 3 ≤ (d.now.length : Int))) := by
 have := g.n1
 have := g.n0
 unfold zDZ
 by_cases h3 : 3 ≤ z
 ·
  rw [zE (qK (by omega)), zHU h g.n0, Option.bind_some, yB (z := (d.now.length : Int) - 2) (by omega) (by omega), yB (by omega) (by omega)]
  congr 1
  rw [decide_eq_decide]
  omega
 · rw [zD (zZ (by omega)), decide_eq_false (by omega)]
theorem zKm (h : DIn H i d) (g : Dok d) (ho : d.off = false) {p : Nat} {r : List UInt8} (hr : d.now[p]? = some r) : zAc (some i) (p : Int) H = some (((slS d.now.length r).1 : Int), ((slS d.now.length r).2 : Int), decide ((slS d.now.length r).1 ≠ 0)) := by
 have hl := g.nrow r (List.mem_of_getElem? hr)
 have hp := (List.getElem?_eq_some_iff.1 hr).1
 have := g.n1
 unfold zAc
 rw [zKc h ho hr, Option.bind_some, zD (by rfl)]
 have e1 : cutI r 0 8 = some (r.take 8) := by
  have := zCv (l := r) (lo := 0) (n := 8) (by omega) 8 rfl
  rwa [show ((0 : Nat) : Int) = 0 from rfl, List.drop_zero] at this
 have e2 : cutI r 56 (r.length : Int) = some (r.drop 56) := by
  have := zCv (l := r) (lo := 56) (n := 8) (by omega) (r.length : Int) (by omega)
  rwa [List.take_of_length_le (by simp; omega)] at this
 have e3 : cutI r 8 12 = some ((r.drop 8).take 4) := zCv (l := r) (lo := 8) (n := 4) (by omega) 12 rfl
 have e4 : cutI r 12 56 = some ((r.drop 12).take 44) := zCv (l := r) (lo := 12) (n := 44) (by omega) 56 rfl
 show Option.bind (cutI r 0 8) _ = _
 rw [e1, Option.bind_some, n_Get, Option.bind_some]
 show Option.bind (cutI r 56 (r.length : Int)) _ = _
 rw [e2, Option.bind_some, n_Get, Option.bind_some]
 show Option.bind (cutI r 8 12) _ = _
 rw [e3, Option.bind_some, n_Get, Option.bind_some]
 have l1 : (r.take 8).length = 8 := by simp; omega
 have l2 : (r.drop 56).length = 8 := by simp; omega
 have l3 : ((r.drop 8).take 4).length = 4 := by simp; omega
 have g4 := zKL l3
 have hb4 := zFV 4 _ l3
 have hpar := zK9 hl
 have key : ∀ b : List UInt8, b.length = 8 → (getE b = 0 → getN b = ofBE b ∧ ofBE b ≤ 4611686018427387904) ∧ (getE b ≠ 0 → 4611686018427387904 < ofBE b) := by
  intro b hb
  unfold getN getE
  rw [if_neg (by omega), if_neg (by omega)]
  by_cases hx : 4611686018427387904 < ofBE b
  ·
   rw [if_pos hx]
   exact ⟨fun e => by omega, fun _ => hx⟩
  ·
   rw [if_neg hx, if_neg (by omega)]
   exact ⟨fun _ => ⟨rfl, by omega⟩, fun e => absurd rfl e⟩
 obtain ⟨a1, a2⟩ := key _ l1
 obtain ⟨b1, b2⟩ := key _ l2
 have none_ : slS d.now.length r = (0, 0) → some ((0 : Int), (0 : Int), false) = some (((slS d.now.length r).1 : Int), ((slS d.now.length r).2 : Int), decide ((slS d.now.length r).1 ≠ 0)) := fun e => by rw [e]; rfl
 have bad : (¬ (1 ≤ ofBE (r.take 8) ∧ ofBE (r.take 8) ≤ 2305843009213693952 ∧ 3 ≤ ofBE ((r.drop 8).take 4) ∧ ofBE ((r.drop 8).take 4) + 3 ≤ d.now.length ∧ r = zA1 (ofBE (r.take 8)) (ofBE ((r.drop 8).take 4)))) → slS d.now.length r = (0, 0) := fun hn => if_neg hn
 have hend : r = zA1 (ofBE (r.take 8)) (ofBE ((r.drop 8).take 4)) → r.drop 56 = r.take 8 := fun e => by
  have h1 : be 8 (ofBE (r.take 8)) = r.take 8 := zGL 8 _ l1
  have h2 : (zA1 (ofBE (r.take 8)) (ofBE ((r.drop 8).take 4))).drop 56 = be 8 (ofBE (r.take 8)) := by
   unfold zA1
   rw [← List.append_assoc, ← List.append_assoc, List.drop_left' (by simp [qB])]
  rw [← h1, ← h2, ← e]
 have hmid : r = zA1 (ofBE (r.take 8)) (ofBE ((r.drop 8).take 4)) → (r.drop 12).take 44 = List.replicate 44 0 := fun e => by
  have h2 : ((zA1 (ofBE (r.take 8)) (ofBE ((r.drop 8).take 4))).drop 12).take 44 = List.replicate 44 0 := by
   unfold zA1
   rw [← List.append_assoc, List.drop_left' (by simp [qB]), List.take_left' (by simp)]
  rw [← h2, ← e]
 show (bif getE (r.take 8) != 0 then _ else bif getE (r.drop 56) != 0 then _ else bif getE ((r.drop 8).take 4) != 0 then _ else bif getN (r.take 8) != getN (r.drop 56) then _ else _) = _
 by_cases c1 : getE (r.take 8) = 0
 case neg =>
  rw [zE (zDL c1)]
  exact none_ (bad fun hh => by have := a2 c1; omega)
 obtain ⟨a3, a4⟩ := a1 c1
 rw [zD (zBH c1)]
 by_cases c2 : getE (r.drop 56) = 0
 case neg =>
  rw [zE (zDL c2)]
  exact none_ (bad fun hh => by
   have h5 := hend hh.2.2.2.2
   have := b2 c2
   rw [h5] at this
   omega)
 obtain ⟨b3, b4⟩ := b1 c2
 rw [zD (zBH c2), g4.2, zD (by rfl), a3, b3, g4.1]
 by_cases c3 : ofBE (r.take 8) = ofBE (r.drop 56)
 case neg =>
  rw [zE (zDL (by omega))]
  exact none_ (bad fun hh => c3 (by rw [hend hh.2.2.2.2]))
 have hte : r.drop 56 = r.take 8 := by
  have h1 : be 8 (ofBE (r.take 8)) = r.take 8 := zGL 8 _ l1
  have h2 : be 8 (ofBE (r.drop 56)) = r.drop 56 := zGL 8 _ l2
  rw [← h1, ← h2, c3]
 rw [zD (zBH (by omega))]
 by_cases c4 : ofBE (r.take 8) < 1
 ·
  rw [zE (qK (by omega))]
  exact none_ (bad fun hh => by omega)
 rw [zD (zZ (by omega))]
 by_cases c5 : ofBE (r.take 8) > 2305843009213693952
 ·
  rw [zE (qK (by omega))]
  exact none_ (bad fun hh => by omega)
 rw [zD (zZ (by omega)), p_room h g _ (by omega) (by omega), Option.bind_some]
 by_cases c6 : 3 ≤ ofBE ((r.drop 8).take 4) ∧ ofBE ((r.drop 8).take 4) + 3 ≤ d.now.length
 case neg =>
  rw [decide_eq_false (by omega), zE (by rfl)]
  exact none_ (bad fun hh => c6 ⟨hh.2.2.1, hh.2.2.2.1⟩)
 rw [decide_eq_true (by omega), zD (by rfl)]
 show Option.bind (cutI r 12 56) _ = _
 rw [e4, Option.bind_some, zF4 _ (by simp; omega), Option.bind_some]
 by_cases c7 : ∀ x ∈ (r.drop 12).take 44, x = 0
 case neg =>
  rw [decide_eq_false c7, zE (by rfl)]
  exact none_ (bad fun hh => c7 fun x hx => by rw [hmid hh.2.2.2.2] at hx; exact List.eq_of_mem_replicate hx)
 rw [decide_eq_true c7, zD (by rfl)]
 have hz := zJ8 c7
 rw [show ((r.drop 12).take 44).length = 44 by simp; omega] at hz
 have hs : slS d.now.length r = (ofBE (r.take 8), ofBE ((r.drop 8).take 4)) := by
  unfold slS
  rw [if_pos]
  refine ⟨by omega, by omega, c6.1, c6.2, ?_⟩
  unfold zA1
  rw [zGL 8 _ l1, zGL 4 _ l3]
  conv => lhs; rw [hpar, hz, hte]
 rw [hs, decide_eq_true (by show ofBE (r.take 8) ≠ 0; omega)]
theorem r_based (h : RIn H k d) (g : Dok d) (ho : d.off = false) (hw : d.wait.length < 1000000) {p : Nat} {r : List UInt8} (hr : d.now[p]? = some r) : zC5 (some k) (p : Int) H = some (((slS d.now.length r).1 : Int), ((slS d.now.length r).2 : Int)) := by
 have hl := g.nrow r (List.mem_of_getElem? hr)
 have hp := (List.getElem?_eq_some_iff.1 hr).1
 have := g.n1
 have hlen := g.len
 unfold zC5
 rw [zKh h g hw, Option.bind_some]
 have hrd : d.rdA (p : Int) = (r, 0) := by
  unfold Dsk.rdA
  rw [if_neg (by simp [ho]), if_neg (by omega), Int.toNat_natCast, List.getD_eq_getElem?_getD, hr]
  rfl
 rw [hrd, zD (by rfl)]
 have e1 : cutI r 0 8 = some (r.take 8) := by
  have := zCv (l := r) (lo := 0) (n := 8) (by omega) 8 rfl
  rwa [show ((0 : Nat) : Int) = 0 from rfl, List.drop_zero] at this
 have e3 : cutI r 8 12 = some ((r.drop 8).take 4) := zCv (l := r) (lo := 8) (n := 4) (by omega) 12 rfl
 show Option.bind (cutI r 0 8) _ = _
 rw [e1, Option.bind_some, zHm, Option.bind_some]
 show Option.bind (cutI r 8 12) _ = _
 rw [e3, Option.bind_some, zHm, Option.bind_some]
 have l1 : (r.take 8).length = 8 := by simp; omega
 have l3 : ((r.drop 8).take 4).length = 4 := by simp; omega
 have g4 := zKL l3
 have hb4 := zFV 4 _ l3
 have none_ : slS d.now.length r = (0, 0) → some ((0 : Int), (0 : Int)) = some (((slS d.now.length r).1 : Int), ((slS d.now.length r).2 : Int)) := fun e => by rw [e]; rfl
 have bad : (¬ (1 ≤ ofBE (r.take 8) ∧ ofBE (r.take 8) ≤ 2305843009213693952 ∧ 3 ≤ ofBE ((r.drop 8).take 4) ∧ ofBE ((r.drop 8).take 4) + 3 ≤ d.now.length ∧ r = zA1 (ofBE (r.take 8)) (ofBE ((r.drop 8).take 4)))) → slS d.now.length r = (0, 0) := fun hn => if_neg hn
 show (bif getE (r.take 8) != 0 then _ else bif decide (getN (r.take 8) < 1) then _ else bif decide (getN (r.take 8) > 2305843009213693952) then _ else bif decide (getN ((r.drop 8).take 4) < 3) then _ else _) = _
 by_cases hx : 4611686018427387904 < ofBE (r.take 8)
 ·
  have c1 : getE (r.take 8) = 11 := by
   unfold getE
   rw [if_neg (by omega), if_neg (by omega), if_pos hx]
  rw [c1, zE (by rfl)]
  exact none_ (bad fun hh => by omega)
 have c1 : getE (r.take 8) = 0 ∧ getN (r.take 8) = ofBE (r.take 8) := by
  unfold getE getN
  rw [if_neg (by omega), if_neg (by omega), if_neg hx, if_neg (by omega)]
  exact ⟨rfl, rfl⟩
 rw [c1.1, zD (by rfl), c1.2, g4.1]
 by_cases c4 : ofBE (r.take 8) < 1
 ·
  rw [zE (qK (by omega))]
  exact none_ (bad fun hh => by omega)
 rw [zD (zZ (by omega))]
 by_cases c5 : ofBE (r.take 8) > 2305843009213693952
 ·
  rw [zE (qK (by omega))]
  exact none_ (bad fun hh => by omega)
 rw [zD (zZ (by omega))]
 by_cases c6 : ofBE ((r.drop 8).take 4) < 3
 ·
  rw [zE (qK (by omega))]
  exact none_ (bad fun hh => by omega)
 rw [zD (zZ (by omega))]
 obtain ⟨a, h1, h2⟩ := h.at_
 show Option.bind (H.rd[k]?) _ = _
 rw [h1, Option.bind_some]
 show (bif decide ((ofBE ((r.drop 8).take 4) : Int) > wi ((d.kept.length : Int) - 3)) then _ else _) = _
 rw [hlen]
 have := g.n0
 rw [yB (z := (d.now.length : Int) - 3) (by omega) (by omega)]
 by_cases c7 : ofBE ((r.drop 8).take 4) + 3 ≤ d.now.length
 case neg =>
  rw [zE (qK (by omega))]
  exact none_ (bad fun hh => by omega)
 rw [zD (zZ (by omega)), zJf (by omega) (by omega), Option.bind_some]
 show Option.bind (zAe r (zA1 (ofBE (r.take 8)) (ofBE ((r.drop 8).take 4)))) _ = _
 rw [zDe r _ (by omega), Option.bind_some]
 by_cases c8 : r = zA1 (ofBE (r.take 8)) (ofBE ((r.drop 8).take 4))
 ·
  have hs : slS d.now.length r = (ofBE (r.take 8), ofBE ((r.drop 8).take 4)) := by
   unfold slS
   rw [if_pos ⟨by omega, by omega, by omega, c7, c8⟩]
  rw [show (r == zA1 (ofBE (r.take 8)) (ofBE ((r.drop 8).take 4))) = true from beq_iff_eq.2 c8, zD (by rfl), hs]
 ·
  rw [show (r == zA1 (ofBE (r.take 8)) (ofBE ((r.drop 8).take 4))) = false from beq_eq_false_iff_ne.2 c8, zE (by rfl)]
  exact none_ (bad fun hh => c8 hh.2.2.2.2)
end
end Go.Proofs.YtjomnccladjpgaaGreat

/-
 Plain: what the log says, to the program and to the document.
-/
namespace Go.Proofs.YtjomnccladjpgaaGreat
open Go Go.RowKit
set_option linter.unusedVariables false
set_option linter.unusedSimpArgs false
theorem zIN (st : Nat) (r : List UInt8) : (atE st r).kind_ = ((r.headD 0).toNat : Int) ∧ (atE st r).number_ = (ofBE ((r.drop 1).take 4) : Int) ∧ (atE st r).data_ = (r.drop 5).take 32 ∧ (atE st r).ok_ = decide (r = zAz (r.headD 0).toNat (ofBE ((r.drop 1).take 4)) ((r.drop 5).take 32) st) := ⟨rfl, rfl, rfl, rfl⟩
abbrev Z32 : List UInt8 := List.replicate 32 0
section
variable {H H' : Hp} {i j k q : Nat} {d : Dsk} {l : Lgs}
theorem one_eq (hp : LIn H i j d l.s l.base l.slot l.used l.com) (hr : LR H' k q d l) (g : Dok d) (o : Lok d l) (hw : d.wait.length < 1000000) (p : Nat) : ∀ (f f' : Nat) (out : List zC) (z : Nat), l.s - z < f → l.s - z < f' → p ≤ z → z ≤ l.s + 1 → 2 * out.length = z - p → Good l.s d.now.length out →
  ∃ ws m, qA (some j) H (p : Int) f out (z : Int) = some (ws, m) ∧ zAE (some q) H' (p : Int) f' out (z : Int) = some (ws, m) ∧ Good l.s d.now.length ws ∧ (m = 0 ∨ ∃ t : Nat, m = (t : Int) ∧ 1 ≤ t ∧ p + t ≤ l.s ∧ ws.length ≤ t)
 | 0, f', out, z, h, _, _, _, _, _ => by omega
 | f + 1, 0, out, z, _, h, _, _, _, _ => by omega
 | f + 1, f' + 1, out, z, hf, hf', hpz, hzs, hout, hgo => by
  have := o.sl
  have := g.n1
  have := o.bs
  have := g.len
  unfold qA zAE
  show ∃ ws m, _ ∧ (Option.bind (H'.rl[q]?) _ = _) ∧ _
  rw [hr.lg, Option.bind_some]
  show ∃ ws m, _ ∧ ((bif decide ((z : Int) < (l.s : Int)) then _ else _) = _) ∧ _
  by_cases hz : z < l.s
  case neg =>
   rw [zKJ hp (by omega), Option.bind_some, zE (by rfl), zD (zZ (by omega))]
   exact ⟨[], 0, rfl, rfl, fun w hw => absurd hw List.not_mem_nil, .inl rfl⟩
  have hzn : 2 + z < d.now.length := by omega
  generalize hrr : d.now[2 + z] = r
  have hr1 : d.now[2 + z]? = some r := by rw [List.getElem?_eq_getElem hzn, hrr]
  have hrl := g.nrow r (List.mem_of_getElem? hr1)
  obtain ⟨x1, x2, x3, x4⟩ := zIN (l.base + z) r
  have e1 : cutI r 5 37 = some ((r.drop 5).take 32) := zCv (l := r) (lo := 5) (n := 32) (by omega) 37 rfl
  have e2 : cutI r 1 5 = some ((r.drop 1).take 4) := zCv (l := r) (lo := 1) (n := 4) (by omega) 5 rfl
  have l4 : ((r.drop 1).take 4).length = 4 := by simp; omega
  have ld : ((r.drop 5).take 32).length = 32 := by simp; omega
  have g4 := zKL l4
  have hb := zFV 4 _ l4
  have hk := (r.headD 0).toNat_lt
  rw [n_at hp hz hr1, Option.bind_some, zE (c := decide ((z : Int) < (l.s : Int))) (qK (by omega))]
  have ea : wi (2 + (z : Int)) = ((2 + z : Nat) : Int) := by rw [yB (by omega) (by omega)]; omega
  show ∃ ws m, _ ∧ (Option.bind (zBi (some k) (wi (2 + (z : Int))) H') _ = _) ∧ _
  rw [ea, r_At hr.dsk g hw hr1, Option.bind_some]
  show ∃ ws m, _ ∧ (Option.bind (cutI r 1 5) _ = _) ∧ _
  rw [e2, Option.bind_some, zHm, Option.bind_some, g4.1, g4.2]
  generalize hX : atE (l.base + z) r = X at x1 x2 x3 x4
  generalize hnn : ofBE ((r.drop 1).take 4) = nn at x2 x4 hb
  generalize hdd : (r.drop 5).take 32 = dd at x3 x4 ld e1
  generalize hkd : (r.headD 0).toNat = kd at x1 x4 hk
  have est : wi ((l.base : Int) + (z : Int)) = ((l.base + z : Nat) : Int) := by rw [yB (by omega) (by omega)]; omega
  have none2 : ∀ c : Prop, c → ∃ ws m, some (([] : List zC), (0 : Int)) = some (ws, m) ∧ some (([] : List zC), (0 : Int)) = some (ws, m) ∧ Good l.s d.now.length ws ∧ (m = 0 ∨ ∃ t : Nat, m = (t : Int) ∧ 1 ≤ t ∧ p + t ≤ l.s ∧ ws.length ≤ t) := fun _ _ => ⟨[], 0, rfl, rfl, fun w hw => absurd hw List.not_mem_nil, .inl rfl⟩
  have eE3 := zFK (zk := 3) (zn := (nn : Int)) (zs := wi ((l.base : Int) + (z : Int))) (kd := 3) (n := nn) (st := l.base + z) (dd := Z32) (by omega) (by omega) (by simp) (by omega) rfl rfl est
  have eE1 := zFK (zk := 1) (zn := (nn : Int)) (zs := wi ((l.base : Int) + (z : Int))) (kd := 1) (n := nn) (st := l.base + z) (dd := dd) (by omega) (by omega) ld (by omega) rfl rfl est
  have hJ2 : ∀ F, zAS F (z : Int) (l.R k) H' ((nn : Int), 0) r out = (bif decide (wi ((z : Int) + 1) ≥ (l.s : Int)) then some ([], 0) else bif decide ((nn : Int) ≥ ((d.now.length - 2 - l.s : Nat) : Int)) then some ([], 0) else bif (!(r == zAz 1 nn dd (l.base + z))) then some ([], 0) else
    Option.bind (zBi (some k) (wi (3 + (z : Int))) H') fun x27 => Option.bind (cutI x27 5 37) fun x29 => Option.bind (zAK 2 (nn : Int) x29 (wi (wi ((l.base : Int) + (z : Int)) + 1))) fun x31 => Option.bind (zAe x27 x31) fun x33 => bif (!x33) then some ([], 0) else Option.bind (cutI x27 5 37) fun x38 => Option.bind (zAM dd x38) fun x40 => Option.bind (appI 32 out [⟨(nn : Int), x40⟩]) fun x42 => F x42 (wi ((z : Int) + 2))) := by
   intro F
   obtain ⟨a, h1, h2⟩ := hr.dsk.at_
   unfold zAS
   show (bif decide (wi ((z : Int) + 1) ≥ (l.s : Int)) then some ([], 0) else Option.bind (H'.rd[k]?) _) = _
   rw [h1, Option.bind_some]
   show (bif decide (wi ((z : Int) + 1) ≥ (l.s : Int)) then some ([], 0) else bif decide ((nn : Int) ≥ wi (wi ((d.kept.length : Int) - 2) - (l.s : Int))) then some ([], 0) else Option.bind (cutI r 5 37) fun x20 => Option.bind (zAK 1 (nn : Int) x20 (wi ((l.base : Int) + (z : Int)))) _) = _
   rw [e1, Option.bind_some, eE1, Option.bind_some, zDe r _ (by omega), Option.bind_some, g.len, yB (z := (d.now.length : Int) - 2) (by omega) (by omega), yB (z := (d.now.length : Int) - 2 - (l.s : Int)) (by omega) (by omega), show (d.now.length : Int) - 2 - (l.s : Int) = ((d.now.length - 2 - l.s : Nat) : Int) by omega]
   rfl
  have ez1 : wi ((z : Int) + 1) = ((z + 1 : Nat) : Int) := yK (by omega)
  have ez2 : wi ((z : Int) + 2) = ((z + 2 : Nat) : Int) := by rw [yB (by omega) (by omega)]; omega
  have hP2 : ∀ F, X.kind_ = 1 → qE F out (z : Int) (p : Int) X (some j) H false = (bif decide (X.number_ ≥ ((d.now.length - 2 - l.s : Nat) : Int)) then some ([], 0) else Option.bind (zAg (some j) ((z + 1 : Nat) : Int) H) fun x8 => bif (!x8.ok_) then some ([], 0) else bif (x8.kind_ != 2) then some ([], 0) else bif (x8.number_ != X.number_) then some ([], 0) else Option.bind (zAf [X.data_, x8.data_]) fun x13 => Option.bind (appI 32 out [⟨X.number_, x13⟩]) fun x15 => F x15 ((z + 2 : Nat) : Int)) := by
   intro F hk1
   unfold qE
   rw [zD (by rfl), hk1, zD (by rfl)]
   show Option.bind (qP (some j) H) _ = _
   rw [zIS hp, Option.bind_some]
   unfold zCt
   rw [ez1, ez2]
  have hPn : ∀ F, X.kind_ ≠ 1 → qE F out (z : Int) (p : Int) X (some j) H false = some ([], 0) := by
   intro F hk1
   unfold qE
   rw [zD (by rfl), zE (zDL hk1)]
  have goOn : r = zAz 1 nn dd (l.base + z) → ∃ ws m, qE (qA (some j) H (p : Int) f) out (z : Int) (p : Int) X (some j) H false = some (ws, m) ∧ zAS (zAE (some q) H' (p : Int) f') (z : Int) (l.R k) H' ((nn : Int), 0) r out = some (ws, m) ∧ Good l.s d.now.length ws ∧ (m = 0 ∨ ∃ t : Nat, m = (t : Int) ∧ 1 ≤ t ∧ p + t ≤ l.s ∧ ws.length ≤ t) := by
   intro hE
   have hXe : X = ⟨1, nn, dd, true⟩ := by rw [← hX, hE]; exact zF8 (by omega) (by omega) ld
   rw [hP2 _ (by rw [hXe]), hJ2, hXe, show (r == zAz 1 nn dd (l.base + z)) = true from beq_iff_eq.2 hE]
   simp only [Bool.not_true]
   by_cases hn : (nn : Int) ≥ ((d.now.length - 2 - l.s : Nat) : Int)
   ·
    rw [zE (qK hn), zE (c := decide ((nn : Int) ≥ _)) (qK hn)]
    cases decide (wi ((z : Int) + 1) ≥ (l.s : Int)) <;> exact none2 True trivial
   rw [zD (zZ hn), zD (c := decide ((nn : Int) ≥ _)) (zZ hn), ez1]
   by_cases hz1 : z + 1 < l.s
   case neg =>
    rw [zE (qK (by omega)), zKJ hp (by omega), Option.bind_some, zE (by rfl)]
    exact none2 True trivial
   have hzn1 : 2 + (z + 1) < d.now.length := by omega
   generalize hcc : d.now[2 + (z + 1)] = c
   have hc1 : d.now[2 + (z + 1)]? = some c := by rw [List.getElem?_eq_getElem hzn1, hcc]
   have hcl := g.nrow c (List.mem_of_getElem? hc1)
   have ec : cutI c 5 37 = some ((c.drop 5).take 32) := zCv (l := c) (lo := 5) (n := 32) (by omega) 37 rfl
   have lc : ((c.drop 5).take 32).length = 32 := by simp; omega
   have lc4 : ((c.drop 1).take 4).length = 4 := by simp; omega
   have hbc := zFV 4 _ lc4
   have hkc := (c.headD 0).toNat_lt
   obtain ⟨y1, y2, y3, y4⟩ := zIN (l.base + (z + 1)) c
   rw [zD (zZ (by omega)), zD (by rfl), n_at hp hz1 hc1, Option.bind_some]
   have ea3 : wi (3 + (z : Int)) = ((2 + (z + 1) : Nat) : Int) := by rw [yB (by omega) (by omega)]; omega
   rw [ea3, r_At hr.dsk g hw hc1, Option.bind_some, ec, Option.bind_some, est, yB (z := ((l.base + z : Nat) : Int) + 1) (by omega) (by omega)]
   have eE2 := zFK (zk := 2) (zn := (nn : Int)) (zs := ((l.base + z : Nat) : Int) + 1) (kd := 2) (n := nn) (st := l.base + (z + 1)) (dd := (c.drop 5).take 32) (by omega) (by omega) lc (by omega) rfl rfl (by omega)
   rw [eE2, Option.bind_some, zDe c _ (by omega), Option.bind_some, Option.bind_some, zDh (by omega) (by omega), Option.bind_some]
   generalize hY : atE (l.base + (z + 1)) c = Y at y1 y2 y3 y4
   by_cases hE2 : c = zAz 2 nn ((c.drop 5).take 32) (l.base + (z + 1))
   case neg =>
    rw [show (c == zAz 2 nn ((c.drop 5).take 32) (l.base + (z + 1))) = false from beq_eq_false_iff_ne.2 hE2, zE (c := !false) (by rfl)]
    have : (bif (!Y.ok_) then some (([] : List zC), (0 : Int)) else bif (Y.kind_ != 2) then some ([], 0) else bif (Y.number_ != (nn : Int)) then some ([], 0) else Option.bind (zAf [dd, Y.data_]) fun x13 => Option.bind (appI 32 out [⟨(nn : Int), x13⟩]) fun x15 => qA (some j) H (p : Int) f x15 ((z + 2 : Nat) : Int)) = some ([], 0) := by
     cases hok : Y.ok_ with
     | false => exact zE (by rfl)
     | true =>
      rw [zD (by rfl)]
      by_cases hk2 : Y.kind_ = 2
      ·
       rw [zD (zBH hk2)]
       by_cases hn2 : Y.number_ = (nn : Int)
       ·
        rw [y4] at hok
        have h5 := of_decide_eq_true hok
        have h6 : (c.headD 0).toNat = 2 := by rw [y1] at hk2; omega
        have h7 : ofBE ((c.drop 1).take 4) = nn := by rw [y2] at hn2; omega
        rw [h6, h7] at h5
        exact absurd h5 hE2
       · rw [zE (zDL hn2)]
      · rw [zE (zDL hk2)]
    rw [this]
    exact none2 True trivial
   have hYe : Y = ⟨2, nn, (c.drop 5).take 32, true⟩ := by
    rw [← hY]
    conv => lhs; rw [hE2]
    exact zF8 (by omega) (by omega) lc
   rw [show (c == zAz 2 nn ((c.drop 5).take 32) (l.base + (z + 1))) = true from beq_iff_eq.2 hE2, zD (c := !true) (by rfl), hYe, zD (by rfl), zD (by rfl), zD (zBH rfl), n_Concat ld lc, Option.bind_some, zBV (by simp; omega), Option.bind_some, Option.bind_some, ez2]
   exact one_eq hp hr g o hw p f f' _ (z + 2) (by omega) (by omega) (by omega) (by omega) (by simp; omega) fun w hw' => by
    rcases List.mem_append.1 hw' with h | h
    · exact hgo w h
    ·
     rw [List.mem_singleton.1 h]
     exact ⟨by show (0 : Int) ≤ (nn : Int); omega, by show (nn : Int) < _; omega, by show (dd ++ _).length = 64; simp; omega⟩
  have noGo : r ≠ zAz 1 nn dd (l.base + z) → X.ok_ = true → X.kind_ ≠ 1 := by
   intro hne hok hk1
   rw [x4] at hok
   have h5 := of_decide_eq_true hok
   have h6 : kd = 1 := by rw [x1] at hk1; omega
   rw [h6] at h5
   exact hne h5
  have noJ2 : r ≠ zAz 1 nn dd (l.base + z) → ∀ F, zAS F (z : Int) (l.R k) H' ((nn : Int), 0) r out = some ([], 0) := by
   intro hne F
   rw [hJ2, show (r == zAz 1 nn dd (l.base + z)) = false from beq_eq_false_iff_ne.2 hne]
   cases decide (wi ((z : Int) + 1) ≥ (l.s : Int)) <;> cases decide ((nn : Int) ≥ ((d.now.length - 2 - l.s : Nat) : Int)) <;> rfl
  have rest : (∀ b, X.ok_ = true → X.kind_ = 3 → out.length > 0 → (nn : Int) = (out.length : Int) → zA6 X.data_ = some b → b = false) → ∃ ws m, (bif (!X.ok_) then some (([] : List zC), (0 : Int)) else bif (X.kind_ == 3) then (bif decide ((out.length : Int) > 0) then (bif (X.number_ == (out.length : Int)) then Option.bind (zA6 X.data_) fun x32 => qE (qA (some j) H (p : Int) f) out (z : Int) (p : Int) X (some j) H x32 else qE (qA (some j) H (p : Int) f) out (z : Int) (p : Int) X (some j) H false) else qE (qA (some j) H (p : Int) f) out (z : Int) (p : Int) X (some j) H false) else qE (qA (some j) H (p : Int) f) out (z : Int) (p : Int) X (some j) H false) = some (ws, m) ∧ zAS (zAE (some q) H' (p : Int) f') (z : Int) (l.R k) H' ((nn : Int), 0) r out = some (ws, m) ∧ Good l.s d.now.length ws ∧ (m = 0 ∨ ∃ t : Nat, m = (t : Int) ∧ 1 ≤ t ∧ p + t ≤ l.s ∧ ws.length ≤ t) := by
   intro hno
   by_cases hE : r = zAz 1 nn dd (l.base + z)
   ·
    have hXe : X = ⟨1, nn, dd, true⟩ := by rw [← hX, hE]; exact zF8 (by omega) (by omega) ld
    have := goOn hE
    rw [hXe] at this ⊢
    rw [zD (by rfl), zD (by rfl)]
    exact this
   ·
    rw [noJ2 hE]
    have : (bif (!X.ok_) then some (([] : List zC), (0 : Int)) else bif (X.kind_ == 3) then (bif decide ((out.length : Int) > 0) then (bif (X.number_ == (out.length : Int)) then Option.bind (zA6 X.data_) fun x32 => qE (qA (some j) H (p : Int) f) out (z : Int) (p : Int) X (some j) H x32 else qE (qA (some j) H (p : Int) f) out (z : Int) (p : Int) X (some j) H false) else qE (qA (some j) H (p : Int) f) out (z : Int) (p : Int) X (some j) H false) else qE (qA (some j) H (p : Int) f) out (z : Int) (p : Int) X (some j) H false) = some ([], 0) := by
     cases hok : X.ok_ with
     | false => exact zE (by rfl)
     | true =>
      have hk1 := noGo hE hok
      rw [zD (by rfl), hPn _ hk1]
      by_cases h3 : X.kind_ = 3
      ·
       rw [zE (zDB h3)]
       by_cases hl0 : out.length > 0
       ·
        rw [zE (qK (by omega))]
        by_cases hn0 : X.number_ = (out.length : Int)
        ·
         rw [zE (zDB hn0), x3, zF4 dd (by omega), Option.bind_some]
         have := hno _ hok h3 hl0 (by rw [← x2]; exact hn0) (by rw [x3]; exact zF4 dd (by omega))
         rw [this, hPn _ hk1]
        · rw [zD (zBq hn0)]
       · rw [zD (zZ (by omega))]
      · rw [zD (zBq h3)]
    rw [this]
    exact none2 True trivial
  show ∃ ws m, _ ∧ ((bif decide ((out.length : Int) > 0) then (bif ((nn : Int) == (out.length : Int)) then Option.bind (mkI 1 32) fun x46 => Option.bind (zAK 3 (nn : Int) (List.replicate x46 (0 : UInt8)) (wi ((l.base : Int) + (z : Int)))) fun x48 => Option.bind (zAe r x48) fun x50 => bif x50 then some (out, wi (wi ((z : Int) + 1) - (p : Int))) else _ else _) else _) = _) ∧ _
  by_cases hl0 : out.length > 0
  case neg =>
   rw [zD (c := decide ((out.length : Int) > 0)) (zZ (by omega)), zD (c := decide ((out.length : Int) > 0)) (zZ (by omega))]
   have := rest fun b _ _ h3 _ _ => absurd h3 hl0
   rw [zD (c := decide ((out.length : Int) > 0)) (zZ (by omega))] at this
   exact this
  rw [zE (c := decide ((out.length : Int) > 0)) (qK (by omega)), zE (c := decide ((out.length : Int) > 0)) (qK (by omega))]
  by_cases hn0 : (nn : Int) = (out.length : Int)
  case neg =>
   rw [zD (c := (nn : Int) == (out.length : Int)) (zBq hn0)]
   have := rest fun b _ _ _ h4 _ => absurd h4 hn0
   rw [zE (c := decide ((out.length : Int) > 0)) (qK (by omega))] at this
   exact this
  rw [zE (c := (nn : Int) == (out.length : Int)) (zDB hn0), show mkI 1 32 = some 32 from mk_1 32 (by omega), Option.bind_some, eE3, Option.bind_some, zDe r _ (by omega), Option.bind_some]
  by_cases hE3 : r = zAz 3 nn Z32 (l.base + z)
  ·
   have hXe : X = ⟨3, nn, Z32, true⟩ := by rw [← hX, hE3]; exact zF8 (by omega) (by omega) (by simp)
   rw [show (r == zAz 3 nn Z32 (l.base + z)) = true from beq_iff_eq.2 hE3, zE (c := true) rfl, hXe, zD (by rfl), zE (by rfl), zE (zDB hn0)]
   rw [show zA6 Z32 = some true by decide +kernel, Option.bind_some]
   have et : wi (wi ((z : Int) + 1) - (p : Int)) = ((z + 1 - p : Nat) : Int) := by
    rw [ez1, yB (by omega) (by omega)]
    omega
   unfold qE
   rw [zE (by rfl), et]
   exact ⟨out, _, rfl, rfl, hgo, .inr ⟨_, rfl, by omega, by omega, by omega⟩⟩
  ·
   rw [show (r == zAz 3 nn Z32 (l.base + z)) = false from beq_eq_false_iff_ne.2 hE3, zD (c := false) rfl]
   have := rest fun b hok h3 _ _ hb' => by
    rw [x3, zF4 dd (by omega)] at hb'
    injection hb' with hb'
    rw [← hb']
    refine decide_eq_false fun hz0 => hE3 ?_
    rw [x4] at hok
    have h5 := of_decide_eq_true hok
    have h6 : kd = 3 := by rw [x1] at h3; omega
    have h7 := zJ8 hz0
    rw [ld] at h7
    rw [h6, h7] at h5
    exact h5
   rw [zE (c := decide ((out.length : Int) > 0)) (qK (by omega))] at this
   exact this
end
end Go.Proofs.YtjomnccladjpgaaGreat

/-
 Plain: Open, by the program and by the document.
-/
namespace Go.Proofs.YtjomnccladjpgaaGreat
open Go Go.RowKit
set_option linter.unusedVariables false
set_option linter.unusedSimpArgs false
section
variable {H H' : Hp} {i j k q : Nat} {d : Dsk} {l : Lgs}
theorem says_l1 (hp : LIn H i j d l.s l.base l.slot l.used l.com) (hr : LR H' k q d l) (g : Dok d) (o : Lok d l) (hw : d.wait.length < 1000000) : ∀ (f : Nat) (out : List zC) (p : Nat), l.s - p < f → p ≤ l.s → out.length ≤ p → Good l.s d.now.length out →
  ∃ ws, zBB (some j) H f out (p : Int) = some ws ∧ zBA (some q) H' f out (p : Int) = some ws ∧ Good l.s d.now.length ws ∧ ws.length ≤ l.s
 | 0, out, p, h, _, _, _ => by omega
 | f + 1, out, p, hf, hps, hout, hgo => by
  have := o.sl
  have := g.n1
  unfold zBB zBA zEd zEi
  obtain ⟨ws, m, e1, e2, e3, e4⟩ := one_eq hp hr g o hw p 16400 16400 [] p (by omega) (by omega) (Nat.le_refl _) (by omega) (by simp) (fun w hw => absurd hw List.not_mem_nil)
  rw [e1, Option.bind_some, e2, Option.bind_some]
  rcases e4 with rfl | ⟨t, rfl, t1, t2, t3⟩
  ·
   rw [zE (by rfl), zE (by rfl)]
   exact ⟨out, rfl, rfl, hgo, by omega⟩
  ·
   rw [zD (zBq (by show ¬ (t : Int) = 0; omega)), zD (zBq (by show ¬ (t : Int) = 0; omega))]
   have ea : appI 32 out ws = some (out ++ ws) := zBV (by omega)
   have ew : wi ((p : Int) + (t : Int)) = ((p + t : Nat) : Int) := by rw [yB (by omega) (by omega)]; omega
   show ∃ ws', Option.bind (appI 32 out ws) (fun x6 => zBB (some j) H f x6 (wi ((p : Int) + (t : Int)))) = _ ∧ Option.bind (appI 32 out ws) (fun x6 => zBA (some q) H' f x6 (wi ((p : Int) + (t : Int)))) = _ ∧ _
   rw [ea, Option.bind_some, Option.bind_some, ew]
   exact says_l1 hp hr g o hw f _ (p + t) (by omega) (by omega) (by simp; omega) fun w hw' => (List.mem_append.1 hw').elim (hgo w) (e3 w)
theorem says_eq (hp : LIn H i j d l.s l.base l.slot l.used l.com) (hr : LR H' k q d l) (g : Dok d) (o : Lok d l) (hw : d.wait.length < 1000000) : ∃ ws, zCE (some j) H = some ws ∧ zCo (some q) H' = some ws ∧ Good l.s d.now.length ws ∧ ws.length ≤ l.s := by
 have := o.sl
 have := g.n1
 exact says_l1 hp hr g o hw 16400 [] 0 (by omega) (Nat.zero_le _) (Nat.zero_le _) fun w hw => absurd hw List.not_mem_nil
def Lgs.tk (l : Lgs) (x : Nat × Nat) (z : Nat) : Lgs := if l.base < x.1 then ⟨x.2, x.1, z, l.used, l.life, l.com⟩ else l
def Dsk.ol (d : Dsk) : Lgs := ((⟨0, 0, 0, 0, d.lives, 0⟩ : Lgs).tk (slS d.now.length (d.now.getD 0 [])) 0).tk (slS d.now.length (d.now.getD 1 [])) 1
theorem tk_ok {d : Dsk} {l : Lgs} (h : l.used = 0 ∧ l.life = d.lives ∧ l.com = 0 ∧ (l.base = 0 ∨ 1 ≤ l.base ∧ Lok d l)) (r : List UInt8) {z : Nat} (hz : z ≤ 1) : (l.tk (slS d.now.length r) z).used = 0 ∧ (l.tk (slS d.now.length r) z).life = d.lives ∧ (l.tk (slS d.now.length r) z).com = 0 ∧ ((l.tk (slS d.now.length r) z).base = 0 ∨ 1 ≤ (l.tk (slS d.now.length r) z).base ∧ Lok d (l.tk (slS d.now.length r) z)) := by
 unfold Lgs.tk
 split
 ·
  rename_i hb
  rcases slS_cs d.now.length r with e | ⟨h1, h2, h3, h4, _⟩
  · rw [e] at hb; exact absurd hb (Nat.not_lt_zero _)
  · exact ⟨h.1, h.2.1, h.2.2.1, .inr ⟨h1, ⟨h3, h4, h2, hz, by show l.used ≤ _; rw [h.1]; exact Nat.zero_le _⟩⟩⟩
 · exact h
theorem ol_ok (d : Dsk) : d.ol.used = 0 ∧ d.ol.life = d.lives ∧ d.ol.com = 0 ∧ (d.ol.base = 0 ∨ 1 ≤ d.ol.base ∧ Lok d d.ol) :=
 tk_ok (tk_ok ⟨rfl, rfl, rfl, .inl rfl⟩ _ (Nat.zero_le _)) _ (Nat.le_refl _)
theorem zHn {H0 K : Hp} {x : Nat × Nat} {n z : Nat} (hK : DIn K i d) (hx : K.lg[H0.lg.length]? = some (l.P i)) (hz : z < 2) (hr : zAc (some i) (z : Int) K = some ((x.1 : Int), (x.2 : Int), decide (x.1 ≠ 0))) :
  ∃ K', qW i H0 (n + 1) (z : Int) K = qW i H0 n ((z + 1 : Nat) : Int) K' ∧ K'.lg[H0.lg.length]? = some ((l.tk x z).P i) ∧ DIn K' i d := by
 have hl : H0.lg.length < K.lg.length := (List.getElem?_eq_some_iff.1 hx).1
 unfold Lgs.tk
 by_cases hb : l.base < x.1
 ·
  rw [if_pos hb]
  have h0 : decide (x.1 ≠ 0) = true := qK (by omega)
  rw [h0] at hr
  exact zJl (b := x.1) (s := x.2) hK hx hz hr (by show (l.base : Int) < (x.1 : Int); omega)
 ·
  rw [if_neg hb]
  refine ⟨K, ?_, hx, hK⟩
  rw [qW, zE (qK (by omega)), hr, Option.bind_some]
  show (bif decide (x.1 ≠ 0) then Option.bind (K.lg[H0.lg.length]?) _ else _) = _
  have hf : zBk (qW i H0 n) K H0 (z : Int) ((x.1 : Int), (x.2 : Int), decide (x.1 ≠ 0)) false = qW i H0 n ((z + 1 : Nat) : Int) K := by
   unfold zBk
   rw [zD (by rfl), yK (by omega)]
  cases hd : decide (x.1 ≠ 0) with
  | false => rw [hd] at hf; rw [zD (by rfl)]; exact hf
  | true =>
   rw [hd] at hf
   rw [zE (by rfl), hx, Option.bind_some, zZ (show ¬ (x.1 : Int) > (l.P i).base_ by show ¬ (x.1 : Int) > (l.base : Int); omega)]
   exact hf
theorem zHb {H0 K : Hp} {x : Nat × Nat} {n z : Nat} (hK : LR K k H0.rl.length d l) (hz : z < 2) (hr : zC5 (some k) (z : Int) K = some ((x.1 : Int), (x.2 : Int))) :
  ∃ K', zAq k H0 (n + 1) (z : Int) K = zAq k H0 n ((z + 1 : Nat) : Int) K' ∧ LR K' k H0.rl.length d (l.tk x z) ∧ FrR K K' := by
 have hx := hK.lg
 have hl : H0.rl.length < K.rl.length := (List.getElem?_eq_some_iff.1 hx).1
 rw [zAq, zE (qK (by omega)), hr, Option.bind_some]
 show ∃ K', Option.bind (K.rl[H0.rl.length]?) _ = _ ∧ _
 rw [hx, Option.bind_some]
 unfold Lgs.tk
 show ∃ K', (bif decide ((x.1 : Int) > (l.base : Int)) then _ else _) = _ ∧ _
 by_cases hb : l.base < x.1
 ·
  rw [if_pos hb, zE (qK (by omega))]
  unfold zDO
  rw [yK (by omega)]
  refine ⟨_, rfl, ⟨⟨hK.dsk.at_⟩, ?_⟩, ⟨rfl, rfl, rfl, rfl, rfl, rfl⟩⟩
  show (((K.rl.set _ _).set _ _).set _ _)[H0.rl.length]? = _
  rw [List.getElem?_set_self (by simp; omega)]
  rfl
 ·
  rw [if_neg hb, zD (zZ (by omega))]
  unfold zDO
  rw [yK (by omega)]
  exact ⟨K, rfl, hK, .refl _⟩
def Dsk.opS (d : Dsk) (ws : List zC) : Int × Dsk × Option Lgs :=
 if d.off then (30, d, none) else if d.ol.base = 0 then (11, d, none) else if d.ol.base > 2305843009213693952 - d.ol.s then (3, d, none) else
 if (d.wrl (ws.map (hmE d.ol.s))).1 ≠ 0 then (30, (d.wrl (ws.map (hmE d.ol.s))).2, none) else
 if (d.ol.chk (d.wrl (ws.map (hmE d.ol.s))).2).1 ≠ 0 then ((d.ol.chk (d.wrl (ws.map (hmE d.ol.s))).2).1, (d.ol.chk (d.wrl (ws.map (hmE d.ol.s))).2).2.1, none) else
 (0, (d.ol.chk (d.wrl (ws.map (hmE d.ol.s))).2).2.1, some (d.ol.chk (d.wrl (ws.map (hmE d.ol.s))).2).2.2)
theorem opS_ok (g : Dok d) {ws : List zC} (hg : d.ol.base = 0 ∨ Good d.ol.s d.now.length ws) : Dok (d.opS ws).2.1 ∧ (d.opS ws).2.1.now.length = d.now.length ∧ (d.opS ws).2.1.wait.length ≤ d.wait.length + ws.length + 1 ∧ (∀ l', (d.opS ws).2.2 = some l' → Lok (d.opS ws).2.1 l' ∧ (d.opS ws).1 = 0) := by
 obtain ⟨o1, o2, o3, o4⟩ := ol_ok d
 unfold Dsk.opS
 cases ho : d.off with
 | true => rw [if_pos rfl]; exact ⟨g, rfl, by show d.wait.length ≤ _; omega, fun l' h => by cases h⟩
 | false =>
  rw [if_neg (by simp)]
  by_cases h0 : d.ol.base = 0
  · rw [if_pos h0]; exact ⟨g, rfl, by show d.wait.length ≤ _; omega, fun l' h => by cases h⟩
  rw [if_neg h0]
  obtain ⟨_, o⟩ := o4.resolve_left h0
  have hg' := hg.resolve_left h0
  by_cases h1 : d.ol.base > 2305843009213693952 - d.ol.s
  · rw [if_pos h1]; exact ⟨g, rfl, by show d.wait.length ≤ _; omega, fun l' h => by cases h⟩
  rw [if_neg h1]
  have := o.sl
  obtain ⟨b1, b2, b3, b4, b5⟩ := zHg (ws.map (hmE d.ol.s)) d g (hm_fit hg' (by omega))
  rw [List.length_map] at b4
  by_cases h2 : (d.wrl (ws.map (hmE d.ol.s))).1 ≠ 0
  · rw [if_pos h2]; exact ⟨b1, b2, by show (Dsk.wrl _ _).2.wait.length ≤ _; omega, fun l' h => by cases h⟩
  rw [if_neg h2]
  have how := (b5.resolve_left fun e => h2 (by rw [e]; decide)).2 ho
  obtain ⟨c1, c2, c3, c4, c5, c6, c7⟩ := zI6 b1 (o.len b2) (zIe how (o2.trans b3.symm))
  by_cases h3 : (d.ol.chk (d.wrl (ws.map (hmE d.ol.s))).2).1 ≠ 0
  · rw [if_pos h3]; exact ⟨c1, c3.trans b2, by show (Lgs.chk _ _).2.1.wait.length ≤ _; omega, fun l' h => by cases h⟩
  rw [if_neg h3]
  exact ⟨c1, c3.trans b2, by show (Lgs.chk _ _).2.1.wait.length ≤ _; omega, fun l' h => by injection h with h; rw [← h]; exact ⟨c2, rfl⟩⟩
set_option maxHeartbeats 1600000 in
theorem zIx (hp : DIn H i d) (hr : RIn H' k d) (g : Dok d) (hw : d.wait.length ≤ 300000) : ∃ ws, (d.ol.base = 0 ∨ Good d.ol.s d.now.length ws) ∧ ws.length ≤ 100 ∧
  (∃ H1, zBs (some i) H = some ((d.opS ws).2.2.map fun _ => H.lg.length, (d.opS ws).1, H1) ∧ DIn H1 i (d.opS ws).2.1 ∧ ∀ l', (d.opS ws).2.2 = some l' → H1.lg[H.lg.length]? = some (l'.P i)) ∧
  ∃ H2, zC9 (some k) H' = some ((d.opS ws).2.2.map fun _ => H'.rl.length, (d.opS ws).1, H2) ∧ RIn H2 k (d.opS ws).2.1 ∧ (∀ l', (d.opS ws).2.2 = some l' → H2.rl[H'.rl.length]? = some (l'.R k)) ∧ FrR H' H2 := by
 obtain ⟨a, h1, h2⟩ := hr.at_
 have hn0 := g.n0
 have hn1 := g.n1
 cases ho : d.off with
 | true =>
  have eS : ∀ ws, d.opS ws = (30, d, none) := fun ws => by unfold Dsk.opS; rw [if_pos ho]
  refine ⟨[], .inr fun w hw => absurd hw List.not_mem_nil, by simp, ⟨H, ?_, by rw [eS]; exact hp, fun l' h => by rw [eS] at h; cases h⟩, ⟨H', ?_, by rw [eS]; exact hr, fun l' h => (by rw [eS] at h; cases h), .refl _⟩⟩
  ·
   rw [eS]
   unfold zBs
   rw [zHU hp hn0, Option.bind_some, zD (zBq (by omega)), n_Off hp hn0, Option.bind_some, ho, zE (by rfl)]
   rfl
  ·
   rw [eS]
   unfold zC9
   show Option.bind (H'.rd[k]?) _ = _
   rw [h1, Option.bind_some]
   show (bif d.off then _ else _) = _
   rw [ho, zE (by rfl)]
   rfl
 | false =>
  have hlen : 2 < d.now.length ∨ d.now.length ≤ 2 := by omega
  have hrow : ∀ z, z < d.now.length → d.now[z]? = some (d.now.getD z []) := fun z hz => by rw [List.getD_eq_getElem?_getD, List.getElem?_eq_getElem hz]; rfl
  have eP : zBs (some i) H = qW i H 3 ((0 : Nat) : Int) (H.nw_lg ⟨some i, 0, 0, 0, 0, d.lives, 0⟩) := by
   unfold zBs
   rw [zHU hp hn0, Option.bind_some, zD (zBq (by omega)), n_Off hp hn0, Option.bind_some, ho, zD (by rfl)]
   show Option.bind (zAH (some i) H) _ = _
   rw [zJb hp hn0, Option.bind_some]
   rfl
  have eR : zC9 (some k) H' = zAq k H' 3 ((0 : Nat) : Int) (H'.nw_rl ⟨some k, 0, 0, 0, 0, d.lives, 0⟩) := by
   unfold zC9
   show Option.bind (H'.rd[k]?) _ = _
   rw [h1, Option.bind_some]
   show (bif d.off then _ else _) = _
   rw [ho, zD (by rfl)]
   rfl
  have slot : ∀ (z : Nat) K, z < 2 → DIn K i d → zAc (some i) (z : Int) K = some (((slS d.now.length (d.now.getD z [])).1 : Int), ((slS d.now.length (d.now.getD z [])).2 : Int), decide ((slS d.now.length (d.now.getD z [])).1 ≠ 0)) := by
   intro z K hz hK
   by_cases hzn : z < d.now.length
   · exact zKm hK g ho (hrow z hzn)
   ·
    have e1 : slS d.now.length (d.now.getD z []) = (0, 0) := by
     rw [List.getD_eq_getElem?_getD, List.getElem?_eq_none (by omega)]
     rcases slS_cs d.now.length [] with h | ⟨h1, h2, h3, h4, _⟩
     · exact h
     · omega
    show zAc (some i) (z : Int) K = _
    rw [e1]
    unfold zAc
    rw [p_Read hK g]
    unfold Dsk.rdA
    rw [if_neg (by simp [ho]), if_pos (.inr (by omega)), Option.bind_some, zE (by rfl)]
    rfl
  have slotR : ∀ (z : Nat) K, z < 2 → RIn K k d → zC5 (some k) (z : Int) K = some (((slS d.now.length (d.now.getD z [])).1 : Int), ((slS d.now.length (d.now.getD z [])).2 : Int)) := by
   intro z K hz hK
   by_cases hzn : z < d.now.length
   · exact r_based hK g ho (by omega) (hrow z hzn)
   ·
    have e1 : slS d.now.length (d.now.getD z []) = (0, 0) := by
     rw [List.getD_eq_getElem?_getD, List.getElem?_eq_none (by omega)]
     rcases slS_cs d.now.length [] with h | ⟨h1, h2, h3, h4, _⟩
     · exact h
     · omega
    rw [e1]
    unfold zC5
    rw [zKh hK g (by omega)]
    unfold Dsk.rdA
    rw [if_neg (by simp [ho]), if_pos (.inr (by omega)), Option.bind_some, zE (by rfl)]
    rfl
  have hK0 : DIn (H.nw_lg ⟨some i, 0, 0, 0, 0, d.lives, 0⟩) i d := hp.lg rfl rfl
  obtain ⟨K1, p1, p2, p3⟩ := zHn (H0 := H) (n := 2) (z := 0) (l := ⟨0, 0, 0, 0, d.lives, 0⟩) hK0 (by show (H.lg ++ [_])[H.lg.length]? = _; simp; rfl) (by omega) (slot 0 _ (by omega) hK0)
  obtain ⟨K2, p4, p5, p6⟩ := zHn (H0 := H) (n := 1) (z := 0 + 1) p3 p2 (by omega) (slot 1 _ (by omega) p3)
  have hR0 : LR (H'.nw_rl ⟨some k, 0, 0, 0, 0, d.lives, 0⟩) k H'.rl.length d ⟨0, 0, 0, 0, d.lives, 0⟩ := ⟨⟨hr.at_⟩, by show (H'.rl ++ [_])[H'.rl.length]? = _; simp; rfl⟩
  obtain ⟨L1, q1, q2, q3⟩ := zHb (H0 := H') (n := 2) (z := 0) hR0 (by omega) (slotR 0 _ (by omega) hR0.dsk)
  obtain ⟨L2, q4, q5, q6⟩ := zHb (H0 := H') (n := 1) (z := 0 + 1) q2 (by omega) (slotR 1 _ (by omega) q2.dsk)
  have eP2 : zBs (some i) H = zCj H K2 := by
   rw [eP, p1, p4, qW, zD (by decide)]
  have eR2 : zC9 (some k) H' = zDz H' L2 := by
   rw [eR, q1, q4, zAq, zD (by decide)]
  have f0 : FrR H' L2 := FrR.trans ⟨q3.dk, q3.sec, q3.lg, q3.tx, q3.mp, q3.lo⟩ q6
  change K2.lg[H.lg.length]? = some (d.ol.P i) at p5
  change LR L2 k H'.rl.length d d.ol at q5
  obtain ⟨o1, o2, o3, o4⟩ := ol_ok d
  rw [eP2, eR2]
  unfold zCj zDz
  by_cases h0 : d.ol.base = 0
  ·
   have eS : ∀ ws, d.opS ws = (11, d, none) := fun ws => by unfold Dsk.opS; rw [if_neg (by simp [ho]), if_pos h0]
   refine ⟨[], .inl h0, by simp, ⟨K2, ?_, by rw [eS]; exact p6, fun l' h => by rw [eS] at h; cases h⟩, ⟨L2, ?_, by rw [eS]; exact q5.dsk, fun l' h => (by rw [eS] at h; cases h), f0⟩⟩
   ·
    rw [eS]
    show Option.bind (K2.lg[H.lg.length]?) _ = _
    rw [p5, Option.bind_some, zE (zDB (by show (d.ol.base : Int) = 0; omega))]
    rfl
   ·
    rw [eS]
    show Option.bind (L2.rl[H'.rl.length]?) _ = _
    rw [q5.lg, Option.bind_some, zE (zDB (by show (d.ol.base : Int) = 0; omega))]
    rfl
  obtain ⟨hb1, o⟩ := o4.resolve_left h0
  have := o.sl
  have := o.bs
  have ew : wi (2305843009213693952 - (d.ol.s : Int)) = 2305843009213693952 - (d.ol.s : Int) := yB (by omega) (by omega)
  have hb0 : ¬ ((d.ol.base : Int) = 0) := by omega
  by_cases h3 : d.ol.base > 2305843009213693952 - d.ol.s
  ·
   have eS : ∀ ws, d.opS ws = (3, d, none) := fun ws => by unfold Dsk.opS; rw [if_neg (by simp [ho]), if_neg h0, if_pos h3]
   refine ⟨[], .inr fun w hw => absurd hw List.not_mem_nil, by simp, ⟨K2, ?_, by rw [eS]; exact p6, fun l' h => by rw [eS] at h; cases h⟩, ⟨L2, ?_, by rw [eS]; exact q5.dsk, fun l' h => (by rw [eS] at h; cases h), f0⟩⟩
   ·
    rw [eS]
    show Option.bind (K2.lg[H.lg.length]?) _ = _
    rw [p5, Option.bind_some]
    show (bif ((d.ol.base : Int) == 0) then _ else bif decide ((d.ol.base : Int) > wi (2305843009213693952 - (d.ol.s : Int))) then _ else _) = _
    rw [zD (zBq hb0), ew, zE (qK (by omega))]
    rfl
   ·
    rw [eS]
    show Option.bind (L2.rl[H'.rl.length]?) _ = _
    rw [q5.lg, Option.bind_some]
    show (bif ((d.ol.base : Int) == 0) then _ else bif decide ((d.ol.base : Int) > wi (2305843009213693952 - (d.ol.s : Int))) then _ else _) = _
    rw [zD (zBq hb0), ew, zE (qK (by omega))]
    rfl
  have ha : d.ol.al d = 0 := zIe ho o2
  have hLP : LP K2 i H.lg.length d d.ol := ⟨p6, p5⟩
  obtain ⟨ws, s1, s2, s3, s4⟩ := says_eq (hLP.in g o ha) q5 g o (by omega)
  have hwl : ws.length ≤ 100 := by omega
  obtain ⟨b1, b2, b3, b4, b5⟩ := zHg (ws.map (hmE d.ol.s)) d g (hm_fit s3 (by omega))
  rw [List.length_map] at b4
  obtain ⟨K3, k1, k2, k3⟩ := p_redo hLP g o ha (by omega) s3 (by omega)
  obtain ⟨L3, m1, m2, m3, m4⟩ := r_redo q5 g o ha (by omega) s3 (by omega)
  refine ⟨ws, .inr s3, hwl, ?_⟩
  have eS : d.opS ws = if (d.wrl (ws.map (hmE d.ol.s))).1 ≠ 0 then (30, (d.wrl (ws.map (hmE d.ol.s))).2, none) else if (d.ol.chk (d.wrl (ws.map (hmE d.ol.s))).2).1 ≠ 0 then ((d.ol.chk (d.wrl (ws.map (hmE d.ol.s))).2).1, (d.ol.chk (d.wrl (ws.map (hmE d.ol.s))).2).2.1, none) else (0, (d.ol.chk (d.wrl (ws.map (hmE d.ol.s))).2).2.1, some (d.ol.chk (d.wrl (ws.map (hmE d.ol.s))).2).2.2) := by
   unfold Dsk.opS
   rw [if_neg (by simp [ho]), if_neg h0, if_neg h3]
  have goP : ∀ (X : Option ((Option Nat) × Int × Hp)), (Option.bind (zAr (some H.lg.length) ws K2) fun x43 => bif (x43.1 != 0) then some (none, x43.1, x43.2) else Option.bind (zU (some H.lg.length) x43.2) fun x48 => bif (x48.1 != 0) then some (none, x48.1, x48.2) else some (some H.lg.length, 0, x48.2)) = X → (Option.bind (K2.ge_lg H.ln_lg) fun x39 => bif (x39.base_ == 0) then some (none, 11, K2) else bif (decide (x39.base_ > wi (2305843009213693952 - x39.size_))) then some (none, 3, K2) else Option.bind (zCE (some H.ln_lg) K2) fun x43 => Option.bind (zAr (some H.ln_lg) x43 K2) fun x45 => bif (x45.1 != 0) then some (none, x45.1, x45.2) else Option.bind (zU (some H.ln_lg) x45.2) fun x48 => bif (x48.1 != 0) then some (none, x48.1, x48.2) else some (some H.ln_lg, 0, x48.2)) = X := by
   intro X hX
   show Option.bind (K2.lg[H.lg.length]?) _ = _
   rw [p5, Option.bind_some]
   show (bif ((d.ol.base : Int) == 0) then _ else bif decide ((d.ol.base : Int) > wi (2305843009213693952 - (d.ol.s : Int))) then _ else Option.bind (zCE (some H.lg.length) K2) _) = _
   rw [zD (zBq hb0), ew, zD (zZ (by omega)), s1, Option.bind_some]
   exact hX
  have goR : ∀ (X : Option ((Option Nat) × Int × Hp)), (Option.bind (zBm (some H'.rl.length) ws L2) fun x13 => bif (x13.1 != 0) then some (none, x13.1, x13.2) else Option.bind (qG (some H'.rl.length) x13.2) fun x16 => bif (x16.1 != 0) then some (none, x16.1, x16.2) else some (some H'.rl.length, 0, x16.2)) = X → (Option.bind (L2.ge_rl H'.ln_rl) fun x7 => bif (x7.Base == 0) then some (none, 11, L2) else bif (decide (x7.Base > wi (2305843009213693952 - x7.Size))) then some (none, 3, L2) else Option.bind (zCo (some H'.ln_rl) L2) fun x11 => Option.bind (zBm (some H'.ln_rl) x11 L2) fun x13 => bif (x13.1 != 0) then some (none, x13.1, x13.2) else Option.bind (qG (some H'.ln_rl) x13.2) fun x16 => bif (x16.1 != 0) then some (none, x16.1, x16.2) else some (some H'.ln_rl, 0, x16.2)) = X := by
   intro X hX
   show Option.bind (L2.rl[H'.rl.length]?) _ = _
   rw [q5.lg, Option.bind_some]
   show (bif ((d.ol.base : Int) == 0) then _ else bif decide ((d.ol.base : Int) > wi (2305843009213693952 - (d.ol.s : Int))) then _ else Option.bind (zCo (some H'.rl.length) L2) _) = _
   rw [zD (zBq hb0), ew, zD (zZ (by omega)), s2, Option.bind_some]
   exact hX
  rw [eS]
  by_cases h4 : (d.wrl (ws.map (hmE d.ol.s))).1 ≠ 0
  ·
   have h30 : (d.wrl (ws.map (hmE d.ol.s))).1 = 30 := b5.resolve_right fun e => h4 e.1
   rw [if_pos h4]
   refine ⟨⟨K3, goP _ ?_, k2, fun l' h => by cases h⟩, ⟨L3, goR _ ?_, m2, fun l' h => (by cases h), f0.trans m4⟩⟩
   · rw [k1, Option.bind_some, h30]; rfl
   · rw [m1, Option.bind_some, h30]; rfl
  rw [if_neg h4]
  obtain ⟨h00, how'⟩ := b5.resolve_left fun e => h4 (by rw [e]; decide)
  have how := how' ho
  have ha2 : d.ol.al (d.wrl (ws.map (hmE d.ol.s))).2 = 0 := zIe how (o2.trans b3.symm)
  obtain ⟨K4, k4, k5⟩ := zFA (l := d.ol) ⟨k2, by rw [k3]; exact p5⟩ b1 (o.len b2) ha2 (by omega)
  obtain ⟨L4, m5, m6, m7⟩ := zFX (l := d.ol) ⟨m2, by rw [m3]; exact q5.lg⟩ b1 (o.len b2) ha2 (by omega)
  by_cases h5 : (d.ol.chk (d.wrl (ws.map (hmE d.ol.s))).2).1 ≠ 0
  ·
   rw [if_pos h5]
   refine ⟨⟨K4, goP _ ?_, k5.dsk, fun l' h => by cases h⟩, ⟨L4, goR _ ?_, m6.dsk, fun l' h => (by cases h), (f0.trans m4).trans m7⟩⟩
   ·
    rw [k1, Option.bind_some, h00]
    show Option.bind (zU (some H.lg.length) K3) _ = _
    rw [k4, Option.bind_some, zE (zDL h5)]
    rfl
   ·
    rw [m1, Option.bind_some, h00]
    show Option.bind (qG (some H'.rl.length) L3) _ = _
    rw [m5, Option.bind_some, zE (zDL h5)]
    rfl
  ·
   rw [if_neg h5]
   refine ⟨⟨K4, goP _ ?_, k5.dsk, fun l' h => by injection h with h; rw [← h]; exact k5.lg⟩, ⟨L4, goR _ ?_, m6.dsk, fun l' h => (by injection h with h; rw [← h]; exact m6.lg), (f0.trans m4).trans m7⟩⟩
   ·
    rw [k1, Option.bind_some, h00]
    show Option.bind (zU (some H.lg.length) K3) _ = _
    rw [k4, Option.bind_some, zD (zBH (Decidable.not_not.1 h5))]
    rfl
   ·
    rw [m1, Option.bind_some, h00]
    show Option.bind (qG (some H'.rl.length) L3) _ = _
    rw [m5, Option.bind_some, zD (zBH (Decidable.not_not.1 h5))]
    rfl
end
end Go.Proofs.YtjomnccladjpgaaGreat

/-
 Plain: new disks and Format, by the program and by the document.
-/
namespace Go.Proofs.YtjomnccladjpgaaGreat
open Go Go.RowKit
set_option linter.unusedVariables false
set_option linter.unusedSimpArgs false
theorem f_New (n : Int) (H : Hp) : Kp FrP H (·.2.2) (zCl n H) := by
 unfold zCl
 refine ki (ks (.refl _)) (ki (ks (.refl _)) ?_)
 repeat (first | exact ks ⟨rfl, rfl, rfl, rfl, rfl, rfl⟩ | refine kb fun _ _ => ?_)
def newD (n : Nat) : Dsk := ⟨List.replicate n Z64, List.replicate n Z64, [], -1, false, 0⟩
theorem newD_ok {n : Nat} (h1 : 1 ≤ n) (h2 : n ≤ 100) : Dok (newD n) := by
 refine ⟨rfl, fun w hw => absurd hw List.not_mem_nil, rfl, fun r hr => ?_, ?_, ?_, by show (-1 : Int) ≤ -1; omega, by show (-1 : Int) ≤ _; omega⟩
 · rw [List.eq_of_mem_replicate hr]; rfl
 · show 0 < (List.replicate n Z64).length; rw [List.length_replicate]; omega
 · show (List.replicate n Z64).length ≤ 100; rw [List.length_replicate]; omega
theorem p_New {H : Hp} {n : Nat} (h1 : 1 ≤ n) (h2 : n ≤ 100) : ∃ H', zCl (n : Int) H = some (some H.dk.length, 0, H') ∧ DIn H' H.dk.length (newD n) ∧ H'.lg = H.lg ∧ FrP H H' := by
 obtain ⟨H', e1, e2, e3⟩ := n_New (H := H) h1 (by omega : n ≤ 16384)
 exact ⟨H', e1, e2, e3, (f_New _ _).h _ e1⟩
theorem zKd (n : Nat) (hn : n ≤ 100) : ∀ (f z : Nat), z ≤ n → n - z < f → zCk (n : Int) f (z : Int) (List.replicate z Z64) = some (List.replicate n Z64)
 | 0, z, _, h => by omega
 | f + 1, z, hz, h => by
  unfold zCk
  by_cases hlt : z < n
  ·
   rw [zE (qK (by omega)), show mkI 1 64 = some 64 from mk_1 64 (by omega), Option.bind_some, zBV (by simp; omega), Option.bind_some, yK (by omega)]
   have : List.replicate z Z64 ++ [List.replicate 64 (0 : UInt8)] = List.replicate (z + 1) Z64 := (List.replicate_succ' (n := z) (a := Z64)).symm
   rw [this]
   exact zKd n hn f (z + 1) (by omega) (by omega)
  · rw [zD (zZ (by omega)), show z = n by omega]
theorem r_New {H : Hp} {n : Nat} (h1 : 1 ≤ n) (h2 : n ≤ 100) : ∃ H', zFF (n : Int) H = some (some H.rd.length, H') ∧ RIn H' H.rd.length (newD n) ∧ FrR H H' ∧ H'.rl = H.rl := by
 unfold zFF zGN
 have e := zKd n h2 ((n : Int).toNat + 1) 0 (Nat.zero_le _) (by omega)
 rw [show ((0 : Nat) : Int) = 0 from rfl] at e
 change zCk (n : Int) ((n : Int).toNat + 1) 0 [] = _ at e
 rw [e, Option.bind_some]
 have hz : ((List.replicate n Z64).isEmpty || (List.replicate n Z64).any fun r => r.isEmpty) = false := by
  rw [Bool.or_eq_false_iff]
  constructor
  ·
   cases n with
   | zero => omega
   | succ n => rfl
  ·
   rw [List.any_eq_false]
   intro r hr
   rw [List.eq_of_mem_replicate hr]
   decide
 rw [hz, zD rfl]
 refine ⟨_, rfl, ⟨⟨H.rs.length, ?_, ?_⟩⟩, ⟨rfl, rfl, rfl, rfl, rfl, rfl⟩, rfl⟩
 ·
  show (H.rd ++ [_])[H.rd.length]? = _
  simp
  exact ⟨(List.length_replicate (n := n) (a := Z64)).symm, rfl, rfl, rfl, rfl⟩
 ·
  show (H.rs ++ [_])[H.rs.length]? = _
  simp
  rfl
def Dsk.zs : Dsk → Nat → Nat → Dsk
 | d, _, 0 => d
 | d, z, c + 1 => Dsk.zs (d.wr z Z64) (z + 1) c
theorem zGY {d : Dsk} (hf : d.fuse < 0) (p : Nat) (x : List UInt8) : (d.wr p x).fuse = d.fuse ∧ (d.wr p x).off = d.off := by
 unfold Dsk.wr
 rw [Dsk.burn_neg (by exact hf)]
 exact ⟨rfl, rfl⟩
theorem zIW {d : Dsk} (hf : d.fuse < 0) : d.fl.fuse = d.fuse ∧ d.fl.off = d.off := by
 unfold Dsk.fl
 rw [if_neg (by omega), Dsk.burn_neg (by exact hf)]
 exact ⟨rfl, rfl⟩
theorem zs_ok : ∀ (c z : Nat) (d : Dsk), Dok d → d.fuse < 0 → d.off = false → z + c ≤ d.now.length → Dok (d.zs z c) ∧ (d.zs z c).fuse < 0 ∧ (d.zs z c).off = false ∧ (d.zs z c).now.length = d.now.length ∧ (d.zs z c).wait.length = d.wait.length + c
 | 0, z, d, g, hf, ho, _ => ⟨g, hf, ho, rfl, rfl⟩
 | c + 1, z, d, g, hf, ho, hc => by
  obtain ⟨v1, v2, v3⟩ := zDP d z Z64
  obtain ⟨u1, u2⟩ := zGY hf z Z64
  obtain ⟨a1, a2, a3, a4, a5⟩ := zs_ok c (z + 1) (d.wr z Z64) (g.wr (by omega) rfl) (by omega) (by rw [u2]; exact ho) (by omega)
  exact ⟨a1, a2, a3, a4.trans v1, by show (Dsk.zs (d.wr z Z64) (z + 1) c).wait.length = _; omega⟩
def Dsk.fm (d : Dsk) (s : Nat) : Dsk := (((d.zs 1 (s + 1)).fl).wr 0 (zA1 1 s)).fl
theorem fm_ok {d : Dsk} (g : Dok d) (hf : d.fuse < 0) (ho : d.off = false) {s : Nat} (hs : s + 3 ≤ d.now.length) : Dok (d.fm s) ∧ (d.fm s).now.length = d.now.length ∧ (d.fm s).off = false ∧ (d.fm s).wait.length ≤ d.wait.length + 200 := by
 have := g.n1
 obtain ⟨a1, a2, a3, a4, a5⟩ := zs_ok (s + 1) 1 d g hf ho (by omega)
 obtain ⟨b1, b2⟩ := zIW a2
 obtain ⟨c1, c2, c3, c4⟩ := zD4 (d.zs 1 (s + 1))
 obtain ⟨e1, e2⟩ := zGY (d := (d.zs 1 (s + 1)).fl) (by omega) 0 (zA1 1 s)
 obtain ⟨v1, v2, v3⟩ := zDP (d.zs 1 (s + 1)).fl 0 (zA1 1 s)
 obtain ⟨h1, h2, h3, h4⟩ := zD4 ((d.zs 1 (s + 1)).fl.wr 0 (zA1 1 s))
 obtain ⟨k1, k2⟩ := zIW (d := (d.zs 1 (s + 1)).fl.wr 0 (zA1 1 s)) (by omega)
 refine ⟨(a1.fl.wr (by omega) (zCW 1 s)).fl, h1.trans (v1.trans (c1.trans a4)), ?_, ?_⟩
 · show (Dsk.fl _).off = false; rw [k2, e2, b2]; exact a3
 · show (Dsk.fl _).wait.length ≤ _; omega
section
variable {H : Hp} {i k : Nat} {d : Dsk}
theorem zHj {s : Nat} (hs : s + 3 ≤ 100) : ∀ (m z : Nat) (H : Hp) (d : Dsk), DIn H i d → Dok d → d.fuse < 0 → d.off = false → s + 3 ≤ d.now.length → d.wait.length + (2 + s - z) ≤ 900000 → z ≤ 2 + s → 2 + s - z < m →
  ∃ H', zBR (s : Int) (some i) m (z : Int) H = zBv (some i) (s : Int) H' ∧ DIn H' i (d.zs z (2 + s - z)) ∧ H'.lg = H.lg
 | 0, z, _, _, _, _, _, _, _, _, _, h => by omega
 | m + 1, z, H, d, h, g, hf, ho, hn, hw, hz, hm => by
  unfold zBR
  have ew : wi (2 + (s : Int)) = ((2 + s : Nat) : Int) := by rw [yB (by omega) (by omega)]; omega
  rw [ew]
  by_cases hlt : z < 2 + s
  ·
   obtain ⟨H1, e1, e2, e3, e4⟩ := zHH h g ho (p := z) (by omega) (x := Z64) rfl (by omega)
   obtain ⟨u1, u2⟩ := zGY hf z Z64
   obtain ⟨v1, v2, v3⟩ := zDP d z Z64
   rw [zE (qK (by omega)), show mkI 1 64 = some 64 from mk_1 64 (by omega), Option.bind_some, e1, Option.bind_some]
   show ∃ H', (bif (d.e != 0) then some (d.e, H1) else _) = _ ∧ _
   rw [e_ne (by omega), zD (by rfl), yK (by omega)]
   obtain ⟨H2, k1, k2, k3⟩ := zHj hs m (z + 1) H1 (d.wr z Z64) e2 (g.wr (by omega) rfl) (by omega) (by rw [u2]; exact ho) (by omega) (by omega) (by omega) (by omega)
   refine ⟨H2, k1, ?_, k3.trans e3⟩
   rw [show 2 + s - z = (2 + s - (z + 1)) + 1 by omega]
   exact k2
  ·
   rw [zD (zZ (by omega)), show 2 + s - z = 0 by omega]
   exact ⟨H, rfl, h, rfl⟩
theorem p_Format (h : DIn H i d) (g : Dok d) (hf : d.fuse < 0) (ho : d.off = false) (hw : d.wait.length ≤ 1000) (z : Int) :
  ∃ H', zAh (some i) z H = some (if 3 ≤ z ∧ z + 3 ≤ (d.now.length : Int) then 0 else 2, H') ∧ DIn H' i (if 3 ≤ z ∧ z + 3 ≤ (d.now.length : Int) then d.fm z.toNat else d) := by
 have := g.n1
 have := g.n0
 have eroom : zDZ (some i) z H = some (decide (3 ≤ z ∧ z + 3 ≤ (d.now.length : Int))) := by
  unfold zDZ
  by_cases h3 : 3 ≤ z
  ·
   rw [zE (qK (by omega)), zHU h g.n0, Option.bind_some, yB (z := (d.now.length : Int) - 2) (by omega) (by omega), yB (by omega) (by omega)]
   congr 1
   rw [decide_eq_decide]
   omega
  · rw [zD (zZ (by omega)), decide_eq_false (by omega)]
 unfold zAh
 rw [zHU h g.n0, Option.bind_some, zD (zBq (by omega)), eroom, Option.bind_some]
 by_cases hc : 3 ≤ z ∧ z + 3 ≤ (d.now.length : Int)
 case neg =>
  rw [decide_eq_false hc, zE (by rfl), if_neg hc, if_neg hc]
  exact ⟨H, rfl, h⟩
 rw [decide_eq_true hc, zD (by rfl), if_pos hc, if_pos hc]
 obtain ⟨s, rfl⟩ := Int.eq_ofNat_of_zero_le (show 0 ≤ z by omega)
 rw [Int.toNat_natCast]
 have ew : wi (2 + (s : Int)) = ((2 + s : Nat) : Int) := by rw [yB (by omega) (by omega)]; omega
 obtain ⟨H1, k1, k2, k3⟩ := zHj (s := s) (by omega) (2 + s + 1) 1 H d h g hf ho (by omega) (by omega) (by omega) (by omega)
 rw [show ((1 : Nat) : Int) = 1 from rfl] at k1
 rw [ew, Int.toNat_natCast, k1]
 rw [show 2 + s - 1 = s + 1 by omega] at k2
 obtain ⟨a1, a2, a3, a4, a5⟩ := zs_ok (s + 1) 1 d g hf ho (by omega)
 unfold zBv
 obtain ⟨H2, m1, m2, m3, m4⟩ := zHc k2 a1 a3 (by omega)
 obtain ⟨b1, b2⟩ := zIW a2
 obtain ⟨c1, c2, c3, c4⟩ := zD4 (d.zs 1 (s + 1))
 rw [m1, Option.bind_some]
 show ∃ H', (bif (Dsk.e _ != 0) then some (Dsk.e _, H2) else _) = _ ∧ _
 rw [e_ne (d := d.zs 1 (s + 1)) (by omega), zD (by rfl)]
 have es := zHM (b := 1) (s := s) (by omega) (by omega)
 rw [show ((1 : Nat) : Int) = 1 from rfl] at es
 rw [es, Option.bind_some]
 obtain ⟨H3, q1, q2, q3, q4⟩ := zHH m2 a1.fl (by rw [b2]; exact a3) (p := 0) (by omega) (zCW 1 s) (by omega)
 rw [show ((0 : Nat) : Int) = 0 from rfl] at q1
 show ∃ H', Option.bind (zX (some i) 0 (zA1 1 s) H2) _ = _ ∧ _
 rw [q1, Option.bind_some]
 show ∃ H', (bif (Dsk.e _ != 0) then some (Dsk.e _, H3) else _) = _ ∧ _
 rw [e_ne (d := (d.zs 1 (s + 1)).fl) (by omega), zD (by rfl)]
 obtain ⟨e1, e2⟩ := zGY (d := (d.zs 1 (s + 1)).fl) (by omega) 0 (zA1 1 s)
 obtain ⟨v1, v2, v3⟩ := zDP (d.zs 1 (s + 1)).fl 0 (zA1 1 s)
 obtain ⟨H4, t1, t2, t3, t4⟩ := zHc q2 (a1.fl.wr (by omega) (zCW 1 s)) (by rw [e2, b2]; exact a3) (by omega)
 show ∃ H', Option.bind (qD (some i) H3) _ = _ ∧ _
 rw [t1, Option.bind_some]
 exact ⟨H4, by rw [e_ne (by omega)], t2⟩
theorem zHV {s : Nat} (hs : s + 3 ≤ 100) : ∀ (m z : Nat) (H : Hp) (d : Dsk), RIn H k d → Dok d → d.fuse < 0 → d.off = false → s + 3 ≤ d.now.length → d.wait.length + (2 + s - z) ≤ 900000 → z ≤ 2 + s → 2 + s - z < m →
  ∃ H', zCd (s : Int) k m (z : Int) H = zDG k (s : Int) H' ∧ RIn H' k (d.zs z (2 + s - z)) ∧ H'.rl = H.rl ∧ FrR H H'
 | 0, z, _, _, _, _, _, _, _, _, _, h => by omega
 | m + 1, z, H, d, h, g, hf, ho, hn, hw, hz, hm => by
  unfold zCd
  have ew : wi ((s : Int) + 2) = ((2 + s : Nat) : Int) := by rw [yB (by omega) (by omega)]; omega
  rw [ew]
  by_cases hlt : z < 2 + s
  ·
   obtain ⟨H1, e1, e2, e3, e4⟩ := zHe h g ho (p := z) (by omega) (x := Z64) rfl (by omega)
   obtain ⟨u1, u2⟩ := zGY hf z Z64
   obtain ⟨v1, v2, v3⟩ := zDP d z Z64
   rw [zE (qK (by omega)), show mkI 1 64 = some 64 from mk_1 64 (by omega), Option.bind_some, e1, Option.bind_some]
   show ∃ H', (bif (d.e != 0) then some (d.e, H1) else _) = _ ∧ _
   rw [e_ne (by omega), zD (by rfl), yK (by omega)]
   obtain ⟨H2, k1, k2, k3, k4⟩ := zHV hs m (z + 1) H1 (d.wr z Z64) e2 (g.wr (by omega) rfl) (by omega) (by rw [u2]; exact ho) (by omega) (by omega) (by omega) (by omega)
   refine ⟨H2, k1, ?_, k3.trans e3, e4.trans k4⟩
   rw [show 2 + s - z = (2 + s - (z + 1)) + 1 by omega]
   exact k2
  ·
   rw [zD (zZ (by omega)), show 2 + s - z = 0 by omega]
   exact ⟨H, rfl, h, rfl, .refl _⟩
theorem r_Format (h : RIn H k d) (g : Dok d) (hf : d.fuse < 0) (ho : d.off = false) (hw : d.wait.length ≤ 1000) (z : Int) :
  ∃ H', zDi (some k) z H = some (if 3 ≤ z ∧ z + 3 ≤ (d.now.length : Int) then 0 else 2, H') ∧ RIn H' k (if 3 ≤ z ∧ z + 3 ≤ (d.now.length : Int) then d.fm z.toNat else d) ∧ H'.rl = H.rl ∧ FrR H H' := by
 have := g.n1
 have := g.n0
 have hlen := g.len
 obtain ⟨a, h1, h2⟩ := h.at_
 unfold zDi
 by_cases h3 : z < 3
 ·
  rw [zE (qK h3), if_neg (by omega), if_neg (by omega)]
  exact ⟨H, rfl, h, rfl, .refl _⟩
 rw [zD (zZ h3)]
 show ∃ H', Option.bind (H.rd[k]?) _ = _ ∧ _
 rw [h1, Option.bind_some]
 show ∃ H', (bif decide (z > wi ((d.kept.length : Int) - 3)) then _ else _) = _ ∧ _
 rw [hlen, yB (z := (d.now.length : Int) - 3) (by omega) (by omega)]
 by_cases hc : z + 3 ≤ (d.now.length : Int)
 case neg =>
  rw [zE (qK (by omega)), if_neg (by omega), if_neg (by omega)]
  exact ⟨H, rfl, h, rfl, .refl _⟩
 rw [zD (zZ (by omega)), if_pos ⟨by omega, hc⟩, if_pos ⟨by omega, hc⟩]
 obtain ⟨s, rfl⟩ := Int.eq_ofNat_of_zero_le (show 0 ≤ z by omega)
 rw [Int.toNat_natCast]
 have ew : wi ((s : Int) + 2) = ((2 + s : Nat) : Int) := by rw [yB (by omega) (by omega)]; omega
 obtain ⟨H1, k1, k2, k3, k4⟩ := zHV (s := s) (by omega) (2 + s + 1) 1 H d h g hf ho (by omega) (by omega) (by omega) (by omega)
 rw [show ((1 : Nat) : Int) = 1 from rfl] at k1
 rw [ew, Int.toNat_natCast, k1]
 rw [show 2 + s - 1 = s + 1 by omega] at k2
 obtain ⟨a1, a2, a3, a4, a5⟩ := zs_ok (s + 1) 1 d g hf ho (by omega)
 unfold zDG
 obtain ⟨H2, m1, m2, m3, m4⟩ := zHZ k2 a1 a3 (by omega)
 obtain ⟨b1, b2⟩ := zIW a2
 obtain ⟨c1, c2, c3, c4⟩ := zD4 (d.zs 1 (s + 1))
 rw [m1, Option.bind_some]
 show ∃ H', (bif (Dsk.e _ != 0) then some (Dsk.e _, H2) else _) = _ ∧ _
 rw [e_ne (d := d.zs 1 (s + 1)) (by omega), zD (by rfl)]
 have es := zJf (b := 1) (s := s) (by omega) (by omega)
 rw [show ((1 : Nat) : Int) = 1 from rfl] at es
 rw [es, Option.bind_some]
 obtain ⟨H3, q1, q2, q3, q4⟩ := zHe m2 a1.fl (by rw [b2]; exact a3) (p := 0) (by omega) (zCW 1 s) (by omega)
 rw [show ((0 : Nat) : Int) = 0 from rfl] at q1
 show ∃ H', Option.bind (yH (some k) 0 (zA1 1 s) H2) _ = _ ∧ _
 rw [q1, Option.bind_some]
 show ∃ H', (bif (Dsk.e _ != 0) then some (Dsk.e _, H3) else _) = _ ∧ _
 rw [e_ne (d := (d.zs 1 (s + 1)).fl) (by omega), zD (by rfl)]
 obtain ⟨e1, e2⟩ := zGY (d := (d.zs 1 (s + 1)).fl) (by omega) 0 (zA1 1 s)
 obtain ⟨v1, v2, v3⟩ := zDP (d.zs 1 (s + 1)).fl 0 (zA1 1 s)
 obtain ⟨H4, t1, t2, t3, t4⟩ := zHZ q2 (a1.fl.wr (by omega) (zCW 1 s)) (by rw [e2, b2]; exact a3) (by omega)
 show ∃ H', Option.bind (yJ (some k) H3) _ = _ ∧ _
 rw [t1, Option.bind_some]
 exact ⟨H4, by rw [e_ne (by omega)], t2, ((t3.trans q3).trans m3).trans k3, ((k4.trans m4).trans q4).trans t4⟩
end
end Go.Proofs.YtjomnccladjpgaaGreat
