/-
  Texts joined: see the remark at the head of each part.
-/
import Derived.Test.YtjomnccladjpgaaGreatQ12
import Derived.Test.YtjomnccladjpgaaGreatQ04
import Derived.Test.YtjomnccladjpgaaGreatQ11
set_option linter.unusedVariables false
set_option linter.unusedSimpArgs false
/-
 Plain: what the program's functions leave as it is, and what the document's leave.
-/
namespace Go.Proofs.YtjomnccladjpgaaGreat
open Go Go.RowKit
set_option linter.unusedVariables false
structure FrP (H H' : Hp) : Prop where
 rd : H'.rd = H.rd
 rs : H'.rs = H.rs
 rl : H'.rl = H.rl
 lo : H'.lo = H.lo
 tx : H'.tx = H.tx
 mp : H'.mp = H.mp
structure FrR (H H' : Hp) : Prop where
 dk : H'.dk = H.dk
 sec : H'.sec = H.sec
 lg : H'.lg = H.lg
 tx : H'.tx = H.tx
 mp : H'.mp = H.mp
 lo : H'.lo = H.lo
theorem FrP.refl (H : Hp) : FrP H H := ⟨rfl, rfl, rfl, rfl, rfl, rfl⟩
theorem FrP.trans {a b c : Hp} (h : FrP a b) (k : FrP b c) : FrP a c := ⟨k.rd.trans h.rd, k.rs.trans h.rs, k.rl.trans h.rl, k.lo.trans h.lo, k.tx.trans h.tx, k.mp.trans h.mp⟩
theorem FrR.refl (H : Hp) : FrR H H := ⟨rfl, rfl, rfl, rfl, rfl, rfl⟩
theorem FrR.trans {a b c : Hp} (h : FrR a b) (k : FrR b c) : FrR a c := ⟨k.dk.trans h.dk, k.sec.trans h.sec, k.lg.trans h.lg, k.tx.trans h.tx, k.mp.trans h.mp, k.lo.trans h.lo⟩
section
variable {α β : Type} (R : Hp → Hp → Prop) (H : Hp) (π : β → Hp)
structure Kp (o : Option β) : Prop where
 h : ∀ r, o = some r → R H (π r)
variable {R H π}
theorem kn : Kp R H π none := ⟨fun r h => by cases h⟩
theorem ks {r : β} (h : R H (π r)) : Kp R H π (some r) := ⟨fun r' e => by injection e with e; rw [← e]; exact h⟩
theorem kb {o : Option α} {f : α → Option β} (h : ∀ x, o = some x → Kp R H π (f x)) : Kp R H π (Option.bind o f) := by
 cases o with
 | none => exact kn
 | some x => exact h x rfl
theorem ki {c : Bool} {a b : Option β} (h : Kp R H π a) (k : Kp R H π b) : Kp R H π (bif c then a else b) := by cases c with
 | false => exact k
 | true => exact h
theorem kp {p : Option Nat} {a : Option β} {f : Nat → Option β} (h : Kp R H π a) (k : ∀ i, Kp R H π (f i)) : Kp R H π (ptM p a f) := by cases p with
 | none => exact h
 | some i => exact k i
theorem kw {H1 : Hp} {ρ : α → Hp} {o : Option α} {f : α → Option β} (h : Kp R H1 ρ o) (ht : ∀ x, R H1 (ρ x) → R H (ρ x)) (k : ∀ x, R H (ρ x) → Kp R H π (f x)) : Kp R H π (Option.bind o f) := by
 cases o with
 | none => exact kn
 | some x => exact k x (ht x (h.h x rfl))
theorem kt {H1 : Hp} {o : Option β} (h : Kp R H1 π o) (ht : ∀ x, R H1 (π x) → R H (π x)) : Kp R H π o := ⟨fun r e => ht r (h.h r e)⟩
end
theorem f_burn (p : Option Nat) (H : Hp) : Kp FrP H (·.2) (yS p H) := by
 unfold yS
 exact kp kn fun i => kb fun x _ => ki (ks (.refl _)) (ks ⟨rfl, rfl, rfl, rfl, rfl, rfl⟩)
theorem zGR (p : Option Nat) (z : Int) (b : List UInt8) (H : Hp) : Kp FrP H (·.2) (zX p z b H) := by
 unfold zX
 exact kb fun x1 _ => ki (ks (.refl _)) (ki (ks (.refl _)) (kb fun x5 _ => kp kn fun i => kb fun x9 _ => kb fun x11 _ => kb fun x13 _ => kb fun x15 _ => kb fun x17 _ => kw (f_burn _ _) (fun x h => ⟨h.rd, h.rs, h.rl, h.lo, h.tx, h.mp⟩) fun x h => ki (ks h) (ks h)))
theorem zKu (p : Option Nat) (H : Hp) : Kp FrP H (·.2) (zA3 p H) := by
 unfold zA3
 exact kp kn fun i => kb fun x _ => ks ⟨rfl, rfl, rfl, rfl, rfl, rfl⟩
theorem zIB (X : zH) (i : Nat) (p : Option Nat) : ∀ (n : Nat) (z : Int) (H : Hp), Kp FrP H (·.2) (zAJ X i p n z H)
 | 0, _, _ => kn
 | n + 1, z, H => by
  unfold zAJ
  exact ki (kb fun _ _ => kb fun _ _ => kb fun _ _ => kb fun _ _ => kb fun _ _ => kt (zIB X i p n _ _) fun x h => ⟨h.rd, h.rs, h.rl, h.lo, h.tx, h.mp⟩) (zKu _ _)
theorem zGP (p : Option Nat) (H : Hp) : Kp FrP H (·.2) (qD p H) := by
 unfold qD
 exact kb fun x1 _ => ki (ks (.refl _)) (kw (f_burn _ _) (fun x h => h) fun x h => ki (ks h) (kp kn fun i => kb fun _ _ => kt (zIB ..) fun _ => h.trans))
theorem f_Fuse (p : Option Nat) (z : Int) (H : Hp) : Kp FrP H (fun x => x) (zAG p z H) := by
 unfold zAG
 exact kb fun _ _ => ki (kp kn fun _ => kb fun _ _ => ks ⟨rfl, rfl, rfl, rfl, rfl, rfl⟩) (ks (.refl _))
theorem zH7 (p : Option Nat) (H : Hp) : Kp FrP H (·.2) (yX p H) := by
 unfold yX
 exact kp kn fun i => kb fun _ _ => kb fun _ _ => kb fun _ _ => kb fun _ _ => ki kn (ks ⟨rfl, rfl, rfl, rfl, rfl, rfl⟩)
theorem zIJ (X : zH) (ch : List UInt8) (p : Option Nat) (i : Nat) : ∀ (n : Nat) (z : Int) (H : Hp), Kp FrP H (·.2) (zAL X ch p i n z H)
 | 0, _, _ => kn
 | n + 1, z, H => by
  unfold zAL
  exact ki (kb fun _ _ => ki (zH7 _ _) (kb fun _ _ => kb fun _ _ => kb fun _ _ => kb fun _ _ => kb fun _ _ => kb fun _ _ => kb fun _ _ => kt (zIJ X ch p i n _ _) fun x h => ⟨h.rd, h.rs, h.rl, h.lo, h.tx, h.mp⟩)) (zH7 _ _)
theorem f_Crash (p : Option Nat) (ch : List UInt8) (H : Hp) : Kp FrP H (·.2) (zAZ p ch H) := by
 unfold zAZ
 exact kb fun x1 _ => ki (ks (.refl _)) (kp kn fun i => kb fun _ _ => zIJ ..)
theorem zJX (p : Option Nat) (z : Int) (H : Hp) : Kp FrP H (·.2) (zBv p z H) := by
 unfold zBv
 exact kw (zGP _ _) (fun _ h => h) fun _ h => ki (ks h) (kb fun _ _ => kw (zGR ..) (fun _ => h.trans) fun _ h => ki (ks h) (kw (zGP ..) (fun _ => h.trans) fun _ h => ks h))
theorem zHi (s : Int) (p : Option Nat) : ∀ (n : Nat) (z : Int) (H : Hp), Kp FrP H (·.2) (zBR s p n z H)
 | 0, _, _ => kn
 | n + 1, z, H => by
  unfold zBR
  exact ki (kb fun _ _ => kw (zGR ..) (fun _ h => h) fun _ h => ki (ks h) (kt (zHi s p n _ _) fun _ => h.trans)) (zJX ..)
theorem f_Format (p : Option Nat) (s : Int) (H : Hp) : Kp FrP H (·.2) (zAh p s H) := by
 unfold zAh
 exact kb fun _ _ => ki (ks (.refl _)) (kb fun _ _ => ki (ks (.refl _)) (zHi ..))
theorem f_raise (p : Option Nat) (H : Hp) : Kp FrP H (·.2) (zBz p H) := by
 unfold zBz
 exact kp kn fun _ => kb fun _ _ => kb fun _ _ => kw (zGR ..) (fun _ h => h) fun _ h => ki (ks h) (kb fun _ _ => kw (zGP ..) (fun _ => h.trans) fun _ h => ki (ks h) (kb fun _ _ => ks ⟨h.rd, h.rs, h.rl, h.lo, h.tx, h.mp⟩))
theorem zEI (p : Option Nat) (H : Hp) : Kp FrP H (·.2) (zU p H) := by
 unfold zU
 exact kb fun _ _ => ki (ks (.refl _)) (kp kn fun _ => kb fun _ _ => ki (ks (.refl _)) (kw (zGP ..) (fun _ h => h) fun _ h => ki (ks h) (kw (f_raise ..) (fun _ => h.trans) fun _ h => ks h)))
theorem zJO (ws : List zC) (p : Option Nat) : ∀ (n : Nat) (z : Int) (H : Hp), Kp FrP H (·.2) (zAY ws p n z H)
 | 0, _, _ => kn
 | n + 1, z, H => by
  unfold zAY
  exact ki (kb fun _ _ => kp kn fun _ => kb fun _ _ => kb fun _ _ => kw (zGR ..) (fun _ h => h) fun _ h => ki (ks h) (kt (zJO ws p n _ _) fun _ => h.trans)) (ks (.refl _))
theorem f_redo (p : Option Nat) (ws : List zC) (H : Hp) : Kp FrP H (·.2) (zAr p ws H) := zJO ..
theorem zJo (p : Option Nat) (ws : List zC) (H : Hp) : Kp FrP H (·.2) (zAn p ws H) := by
 unfold zAn
 exact kp kn fun _ => kb fun _ _ => kw (zGP ..) (fun _ h => h) fun _ h => ki (ks h) (kb fun _ _ => kw (f_redo ..) (fun _ h' => h.trans ⟨h'.rd, h'.rs, h'.rl, h'.lo, h'.tx, h'.mp⟩) fun _ h => ks h)
theorem zHf (es : List zV) (p : Option Nat) (ws : List zC) : ∀ (n : Nat) (z : Int) (H : Hp), Kp FrP H (·.2) (zAC es p ws n z H)
 | 0, _, _ => kn
 | n + 1, z, H => by
  unfold zAC
  exact ki (kb fun _ _ => kp kn fun _ => kb fun _ _ => kb fun _ _ => kw (zGR ..) (fun _ h => h) fun _ h => ki (ks h) (kt (zHf es p ws n _ _) fun _ => h.trans)) (zJo ..)
theorem zHY (ws : List zC) (p : Option Nat) (H : Hp) : Kp FrP H (·.2) (zAD ws p H) := by
 unfold zAD
 exact kb fun _ _ => zHf ..
theorem zJm (p : Option Nat) (H : Hp) (ws : List zC) : Kp FrP H (·.2) (zAU p H ws) := by
 unfold zAU
 exact kp kn fun _ => kb fun _ _ => ki (ks (.refl _)) (ki (ks (.refl _)) (kb fun _ _ => ki (kw (zEI ..) (fun _ h => h) fun _ h => ki (ks h) (kt (zHY ..) fun _ => h.trans)) (zHY ..)))
theorem zFt (ws : List zC) (H : Hp) (p : Option Nat) : ∀ (n : Nat) (z : Int), Kp FrP H (·.2) (qN ws H p n z)
 | 0, _ => kn
 | n + 1, z => by
  unfold qN
  exact ki (kb fun _ _ => ki (ks (.refl _)) (kp (kb fun _ _ => ki (ks (.refl _)) (ki (ks (.refl _)) (zFt ws H p n _))) fun _ => kb fun _ _ => ki (ks (.refl _)) (ki (ks (.refl _)) (zFt ws H p n _)))) (zJm ..)
theorem zIf (p : Option Nat) (ws : List zC) (H : Hp) : Kp FrP H (·.2) (qJ p ws H) := by
 unfold qJ
 exact kb fun _ _ => ki (ks (.refl _)) (zFt ..)
theorem f_Open_j1 (H0 H : Hp) : Kp FrP H (·.2.2) (zDx H0 H) := by
 unfold zDx
 exact kb fun _ _ => ki (ks (.refl _)) (ki (ks (.refl _)) (kb fun _ _ => kw (f_redo ..) (fun _ h => h) fun _ h => ki (ks h) (kw (zEI ..) (fun _ => h.trans) fun _ h => ki (ks h) (ks h))))
theorem f_Open_j4 (H0 H : Hp) : Kp FrP H (·.2.2) (zCj H0 H) := by
 unfold zCj
 exact kb fun _ _ => ki (ks (.refl _)) (ki (ks (.refl _)) (kb fun _ _ => kw (f_redo ..) (fun _ h => h) fun _ h => ki (ks h) (kw (zEI ..) (fun _ => h.trans) fun _ h => ki (ks h) (ks h))))
theorem zHQ (H0 : Hp) : ∀ (n : Nat) (z : Int) (H : Hp), Kp FrP H (·.2.2) (zBh H0 n z H)
 | 0, _, _ => kn
 | n + 1, z, H => by
  have j : ∀ x b, Kp FrP H (·.2.2) (zDC (zBh H0 n) H H0 z x b) := fun x b => by
   unfold zDC
   exact ki (kb fun _ _ => kt (zHQ H0 n _ _) fun x h => ⟨h.rd, h.rs, h.rl, h.lo, h.tx, h.mp⟩) (zHQ H0 n _ _)
  unfold zBh
  exact ki (kb fun _ _ => ki (kb fun _ _ => j ..) (j ..)) (f_Open_j1 ..)
theorem zHD (i : Nat) (H0 : Hp) : ∀ (n : Nat) (z : Int) (H : Hp), Kp FrP H (·.2.2) (qW i H0 n z H)
 | 0, _, _ => kn
 | n + 1, z, H => by
  have j : ∀ x b, Kp FrP H (·.2.2) (zBk (qW i H0 n) H H0 z x b) := fun x b => by
   unfold zBk
   exact ki (kb fun _ _ => kt (zHD i H0 n _ _) fun x h => ⟨h.rd, h.rs, h.rl, h.lo, h.tx, h.mp⟩) (zHD i H0 n _ _)
  unfold qW
  exact ki (kb fun _ _ => ki (kb fun _ _ => j ..) (j ..)) (f_Open_j4 ..)
theorem f_Open (p : Option Nat) (H : Hp) : Kp FrP H (·.2.2) (zBs p H) := by
 unfold zBs
 exact kb fun _ _ => ki (ks (.refl _)) (kb fun _ _ => ki (ks (.refl _)) (kp (kb fun _ _ => kt (zHQ ..) fun _ h => ⟨h.rd, h.rs, h.rl, h.lo, h.tx, h.mp⟩) fun _ => kb fun _ _ => kt (zHD ..) fun _ h => ⟨h.rd, h.rs, h.rl, h.lo, h.tx, h.mp⟩))
structure FrQ (H H' : Hp) : Prop where
 rd : H'.rd = H.rd
 rs : H'.rs = H.rs
 rl : H'.rl = H.rl
 lo : H'.lo = H.lo
theorem FrQ.refl (H : Hp) : FrQ H H := ⟨rfl, rfl, rfl, rfl⟩
theorem FrP.q {H H' : Hp} (h : FrP H H') : FrQ H H' := ⟨h.rd, h.rs, h.rl, h.lo⟩
theorem FrQ.trans {a b c : Hp} (h : FrQ a b) (k : FrQ b c) : FrQ a c := ⟨k.rd.trans h.rd, k.rs.trans h.rs, k.rl.trans h.rl, k.lo.trans h.lo⟩
theorem kq {α β : Type} {H H1 : Hp} {π : β → Hp} {ρ : α → Hp} {o : Option α} {f : α → Option β} (h : Kp FrP H1 ρ o) (ht : ∀ x, FrP H1 (ρ x) → FrQ H (ρ x)) (k : ∀ x, FrQ H (ρ x) → Kp FrQ H π (f x)) : Kp FrQ H π (Option.bind o f) := by
 cases o with
 | none => exact kn
 | some x => exact k x (ht x (h.h x rfl))
theorem zGr (ks' : List Int) (mp : List (Int × List UInt8)) (X : yN) (H : Hp) (i : Nat) : ∀ (n : Nat) (l : List zC) (z : Int), Kp FrQ H (·.2) (zAV ks' mp X H i n l z)
 | 0, _, _ => kn
 | n + 1, l, z => by
  unfold zAV
  refine ki (kb fun _ _ => kb fun _ _ => zGr ks' mp X H i n _ _) ?_
  unfold zBJ
  exact kq (zIf ..) (fun _ h => ⟨h.rd, h.rs, h.rl, h.lo⟩) fun _ h => ks h
theorem f_TCommit (p : Option Nat) (H : Hp) : Kp FrQ H (·.2) (qT p H) := by
 unfold qT
 exact kb fun _ _ => ki (ks (.refl _)) (kp kn fun _ => kb fun _ _ => kb fun _ _ => kb fun _ _ => zGr ..)
end Go.Proofs.YtjomnccladjpgaaGreat

/-
 Small plain laws for models: indexes, pieces, numbers of 64 bits, bytes as numbers.
-/
namespace Go.Proofs.YtjomnccladjpgaaGreat
open Go Go.RowKit
set_option linter.unusedVariables false
set_option linter.unusedSimpArgs false
theorem yB {z : Int} (h1 : -9223372036854775808 ≤ z) (h2 : z ≤ 9223372036854775807) : wi z = z := wrap_id h1 h2
theorem yK {n : Nat} (h : n < 9223372036854775807) : wi ((n : Int) + 1) = ((n + 1 : Nat) : Int) := by rw [yB (by omega) (by omega)]; omega
theorem qY {α : Type} {l : List α} {i : Nat} (h : i < l.length) : idx l (i : Int) = some l[i] := by
 unfold idx
 rw [show decide (0 ≤ (i : Int)) = true from by simp]
 show l[(i : Int).toNat]? = _
 rw [Int.toNat_natCast, List.getElem?_eq_getElem h]
theorem zIz {α : Type} {l : List α} {n : Nat} (h : n ≤ l.length) : cutI l 0 (n : Int) = some (l.take n) := by
 unfold cutI
 rw [if_pos ⟨by omega, by omega, by omega⟩]
 simp
theorem cutI_drop {α : Type} {l : List α} {n : Nat} (h : n ≤ l.length) : cutI l (n : Int) (l.length : Int) = some (l.drop n) := by
 unfold cutI
 rw [if_pos ⟨by omega, by omega, by omega⟩]
 simp
theorem zBV {α : Type} {nb : Nat} {l l' : List α} (h : (l.length + l'.length) * nb ≤ 140737488355328) : appI nb l l' = some (l ++ l') := by
 unfold appI
 rw [if_pos h]
theorem zE {α : Type} {c : Bool} {a b : α} (h : c = true) : (bif c then a else b) = a := by rw [h]; rfl
theorem zD {α : Type} {c : Bool} {a b : α} (h : c = false) : (bif c then a else b) = b := by rw [h]; rfl
theorem qK {p : Prop} [Decidable p] (h : p) : decide p = true := decide_eq_true h
theorem zZ {p : Prop} [Decidable p] (h : ¬ p) : decide p = false := decide_eq_false h
theorem zDB {a b : Int} (h : a = b) : (a == b) = true := by simp [h]
theorem zBq {a b : Int} (h : a ≠ b) : (a == b) = false := by simp [h]
theorem zDL {a b : Int} (h : a ≠ b) : (a != b) = true := by simp [h]
theorem zBH {a b : Int} (h : a = b) : (a != b) = false := by simp [h]
theorem zJL {α : Type} (a b : List α) (hl : a.length = b.length) (hb : a.length < 4611686018427387904) (eq : α → α → Option Bool) (F : Nat → Int → Option Bool)
  (hF : ∀ n z, F (n + 1) z = bif decide (z < (a.length : Int)) then (Option.bind (idx a z) fun x => Option.bind (idx b z) fun y => Option.bind (eq x y) fun e => bif (!e) then some false else F n (wi (z + 1))) else some true)
  (heq : ∀ x ∈ a, ∀ y, ∃ r, eq x y = some r ∧ (r = true ↔ x = y)) : ∀ (n i : Nat), i ≤ a.length → a.length - i < n → ∃ r, F n (i : Int) = some r ∧ (r = true ↔ a.drop i = b.drop i)
 | 0, i, _, h => by omega
 | n + 1, i, hi, h => by
  rw [hF]
  by_cases hlt : i < a.length
  ·
   have hlb : i < b.length := by omega
   have ha : a.drop i = a[i] :: a.drop (i + 1) := List.drop_eq_getElem_cons hlt
   have hb' : b.drop i = b[i] :: b.drop (i + 1) := List.drop_eq_getElem_cons hlb
   obtain ⟨e, he, hi2⟩ := heq _ (List.getElem_mem hlt) b[i]
   rw [zE (qK (by omega)), qY hlt, Option.bind_some, qY hlb, Option.bind_some, he, Option.bind_some, yK (by omega), ha, hb']
   obtain ⟨r, hr, hri⟩ := zJL a b hl hb eq F hF heq n (i + 1) (by omega) (by omega)
   cases e with
   | false =>
    refine ⟨false, rfl, ⟨fun h => Bool.noConfusion h, fun h => ?_⟩⟩
    injection h with h _
    exact absurd (hi2.2 h) (by simp)
   | true =>
    exact ⟨r, hr, hri.trans ⟨fun h => by rw [hi2.1 rfl, h], fun h => (List.cons.inj h).2⟩⟩
  ·
   refine ⟨true, by rw [zD (zZ (by omega))], ⟨fun _ => ?_, fun _ => rfl⟩⟩
   rw [List.drop_eq_nil_of_le (by omega), List.drop_eq_nil_of_le (by omega)]
def ofBE (b : List UInt8) : Nat := b.foldl (fun x c => x * 256 + c.toNat) 0
theorem zFC (b : List UInt8) (c : UInt8) : ofBE (b ++ [c]) = ofBE b * 256 + c.toNat := by simp [ofBE]
theorem zFV : ∀ (n : Nat) (b : List UInt8), b.length = n → ofBE b < 256 ^ n
 | 0, b, h => by
  rw [List.eq_nil_of_length_eq_zero h]
  decide
 | n + 1, b, h => by
  have hne : b ≠ [] := fun e => by rw [e] at h; cases h
  rw [← List.dropLast_concat_getLast hne, zFC]
  have := zFV n b.dropLast (by simp [h])
  have hc := (b.getLast hne).toNat_lt
  rw [Nat.pow_succ]
  omega
theorem ofBE_be : ∀ (k n : Nat), ofBE (be k n) = n % 256 ^ k
 | 0, n => by simp [be, le, ofBE, Nat.mod_one]
 | k + 1, n => by
  have h : be (k + 1) n = be k (n / 256) ++ [UInt8.ofNat (n % 256)] := by
   simp only [be, le, List.reverse_cons]
  rw [h, zFC, ofBE_be k (n / 256)]
  rw [Nat.pow_succ, Nat.mul_comm (256 ^ k) 256, Nat.mod_mul]
  have : (UInt8.ofNat (n % 256)).toNat = n % 256 := by simp
  rw [this]
  omega
theorem zGL : ∀ (k : Nat) (b : List UInt8), b.length = k → be k (ofBE b) = b
 | 0, b, h => by
  rw [List.eq_nil_of_length_eq_zero h]
  rfl
 | k + 1, b, h => by
  have hne : b ≠ [] := fun e => by rw [e] at h; cases h
  have hb := (List.dropLast_concat_getLast hne).symm
  have hl : b.dropLast.length = k := by simp [h]
  generalize b.dropLast = x at hb hl
  generalize b.getLast hne = c at hb
  subst hb
  have h2 : be (k + 1) (ofBE (x ++ [c])) = be k (ofBE (x ++ [c]) / 256) ++ [UInt8.ofNat (ofBE (x ++ [c]) % 256)] := by
   simp only [be, le, List.reverse_cons]
  have hc := c.toNat_lt
  rw [h2, zFC, show (ofBE x * 256 + c.toNat) / 256 = ofBE x by omega, show (ofBE x * 256 + c.toNat) % 256 = c.toNat by omega, zGL k x hl]
  simp
theorem u64_id {z : Int} (h1 : 0 ≤ z) (h2 : z ≤ 18446744073709551615) : IntKind.u64.wrap z = z := by
 simp [IntKind.wrap, IntKind.bits, IntKind.signed]
 omega
theorem get_step (x c : Nat) (hx : x < 72057594037927936) (hc : c < 256) : IntKind.u64.wrap ((((BitVec.ofInt IntKind.u64.bits (IntKind.u64.wrap ((x : Int) * 2 ^ 8))) ||| (BitVec.ofInt IntKind.u64.bits (c : Int))).toNat : Nat) : Int) = ((x * 256 + c : Nat) : Int) := by
 have h1 : IntKind.u64.wrap ((x : Int) * 2 ^ 8) = ((x * 256 : Nat) : Int) := by rw [u64_id (by omega) (by omega)]; omega
 rw [h1]
 have h2 : (BitVec.ofInt 64 ((x * 256 : Nat) : Int) ||| BitVec.ofInt 64 (c : Int)).toNat = x * 256 + c := by
  rw [BitVec.toNat_or, BitVec.ofInt_natCast, BitVec.ofInt_natCast, BitVec.toNat_ofNat, BitVec.toNat_ofNat, Nat.mod_eq_of_lt (by omega), Nat.mod_eq_of_lt (by omega)]
  have := Nat.shiftLeft_add_eq_or_of_lt (i := 8) (b := c) (by omega) x
  rw [Nat.shiftLeft_eq] at this
  exact this.symm
 show IntKind.u64.wrap ((BitVec.ofInt 64 ((x * 256 : Nat) : Int) ||| BitVec.ofInt 64 (c : Int)).toNat : Int) = _
 rw [h2, u64_id (by omega) (by omega)]
end Go.Proofs.YtjomnccladjpgaaGreat

/-
 Loops of models: what they tell, where they go on, what they gather.
-/
namespace Go.Proofs.YtjomnccladjpgaaGreat
open Go Go.RowKit
set_option linter.unusedVariables false
set_option linter.unusedSimpArgs false
def zEY (x : Option Bool) (p : Prop) : Prop := ∃ r, x = some r ∧ (r = true ↔ p)
theorem zEY.iff {x : Option Bool} {p q : Prop} (h : zEY x p) (hpq : p ↔ q) : zEY x q := by
 obtain ⟨r, h1, h2⟩ := h
 exact ⟨r, h1, h2.trans hpq⟩
theorem zEY.yes {x : Option Bool} {p : Prop} (h : zEY x p) (hp : p) : x = some true := by
 obtain ⟨r, h1, h2⟩ := h
 rw [h1, h2.2 hp]
theorem zEY.no {x : Option Bool} {p : Prop} (h : zEY x p) (hp : ¬ p) : x = some false := by
 obtain ⟨r, h1, h2⟩ := h
 cases r with
 | false => exact h1
 | true => exact absurd (h2.1 rfl) hp
theorem zEY.of {b : Bool} {p : Prop} (h : b = true ↔ p) : zEY (some b) p := ⟨b, rfl, h⟩
theorem zEY.bool {x : Option Bool} {b : Bool} (h : zEY x (b = true)) : x = some b := by
 cases b with
 | true => exact h.yes rfl
 | false => exact h.no (by simp)
theorem zIE {len : Nat} (F : Nat → Int → Option Bool) (P : Nat → Prop) (E : Prop)
  (hstep : ∀ n i, i < len → ∃ c : Bool, (c = true ↔ P i) ∧ F (n + 1) (i : Int) = bif c then F n ((i + 1 : Nat) : Int) else some false)
  (hend : ∀ n, zEY (F (n + 1) (len : Int)) E) : ∀ n i, i ≤ len → len - i < n → zEY (F n (i : Int)) ((∀ j, i ≤ j → j < len → P j) ∧ E)
 | 0, i, _, h => by omega
 | n + 1, i, hi, h => by
  by_cases hlt : i < len
  ·
   obtain ⟨c, hc, he⟩ := hstep n i hlt
   rw [he]
   cases c with
   | false =>
    refine ⟨false, rfl, ⟨fun h => Bool.noConfusion h, fun h => ?_⟩⟩
    exact hc.2 (h.1 i (Nat.le_refl _) hlt)
   | true =>
    refine (zIE F P E hstep hend n (i + 1) (by omega) (by omega)).iff ⟨fun h => ⟨fun j h1 h2 => ?_, h.2⟩, fun h => ⟨fun j h1 h2 => h.1 j (by omega) h2, h.2⟩⟩
    by_cases e : j = i
    · subst e; exact hc.1 rfl
    · exact h.1 j (by omega) h2
  ·
   have e : i = len := by omega
   subst e
   exact (hend n).iff ⟨fun h => ⟨fun j h1 h2 => by omega, h⟩, fun h => h.2⟩
theorem zHR {α : Type} {len : Nat} (F : Nat → Int → Option α) (P : Nat → Prop) (K bad : Option α)
  (hstep : ∀ n i, i < len → (P i → F (n + 1) (i : Int) = F n ((i + 1 : Nat) : Int)) ∧ (¬ P i → F (n + 1) (i : Int) = bad))
  (hend : ∀ n, F (n + 1) (len : Int) = K) : ∀ n i, i ≤ len → len - i < n → ((∀ j, i ≤ j → j < len → P j) → F n (i : Int) = K) ∧ (¬ (∀ j, i ≤ j → j < len → P j) → F n (i : Int) = bad)
 | 0, i, _, h => by omega
 | n + 1, i, hi, h => by
  by_cases hlt : i < len
  ·
   obtain ⟨s1, s2⟩ := hstep n i hlt
   by_cases hp : P i
   ·
    rw [s1 hp]
    obtain ⟨k1, k2⟩ := zHR F P K bad hstep hend n (i + 1) (by omega) (by omega)
    refine ⟨fun h => k1 fun j h1 h2 => h j (by omega) h2, fun h => k2 fun hc => h fun j h1 h2 => ?_⟩
    by_cases e : j = i
    · subst e; exact hp
    · exact hc j (by omega) h2
   · exact ⟨fun h => absurd (h i (Nat.le_refl _) hlt) hp, fun _ => s2 hp⟩
  ·
   have e : i = len := by omega
   subst e
   exact ⟨fun _ => hend n, fun h => absurd (fun j h1 h2 => absurd h2 (by omega)) h⟩
end Go.Proofs.YtjomnccladjpgaaGreat

/-
 Plain arithmetic of the checksum, no program in sight: one step of the register, eight steps, a list of bytes; the step is injective below 2^32, so one turned byte turns the sum; the document's way (register and byte shifted side by side) comes to the same.
-/
namespace Go.Proofs.YtjomnccladjpgaaGreat.Crc
def poly : Nat := 3988292384
def stp (x : Nat) : Nat := if x % 2 = 1 then (x / 2) ^^^ poly else x / 2
def stpN : Nat → Nat → Nat
 | 0, x => x
 | k + 1, x => stpN k (stp x)
def upd (x c : Nat) : Nat := stpN 8 (x ^^^ c)
def run (x : Nat) (l : List UInt8) : Nat := l.foldl (fun x c => upd x c.toNat) x
def crc (l : List UInt8) : Nat := 4294967295 - run 4294967295 l
theorem xor_lt {a b : Nat} (ha : a < 4294967296) (hb : b < 4294967296) : a ^^^ b < 4294967296 := Nat.xor_lt_two_pow (n := 32) ha hb
theorem stp_lt {x : Nat} (h : x < 4294967296) : stp x < 4294967296 := by
 unfold stp
 split
 · exact xor_lt (by omega) (by decide)
 · omega
theorem stpN_lt (k : Nat) {x : Nat} (h : x < 4294967296) : stpN k x < 4294967296 := by
 induction k generalizing x with
 | zero => exact h
 | succ k ih => exact ih (stp_lt h)
theorem upd_lt {x : Nat} (h : x < 4294967296) (c : UInt8) : upd x c.toNat < 4294967296 := by
 have := c.toNat_lt
 exact stpN_lt 8 (xor_lt h (by omega))
theorem run_lt (l : List UInt8) {x : Nat} (h : x < 4294967296) : run x l < 4294967296 := by
 induction l generalizing x with
 | nil => exact h
 | cons c l ih => exact ih (upd_lt h c)
theorem run_append (x : Nat) (a b : List UInt8) : run x (a ++ b) = run (run x a) b := by simp [run, List.foldl_append]
theorem crc_le (l : List UInt8) : crc l < 4294967296 := by unfold crc; omega
def rx (x c : Nat) : Nat := if (x + c) % 2 = 1 then (x / 2) ^^^ poly else x / 2
def rN : Nat → Nat → Nat → Nat
 | 0, x, _ => x
 | k + 1, x, c => rN k (rx x c) (c / 2)
theorem odd_xor (x c : Nat) : (x ^^^ c) % 2 = (x + c) % 2 := by
 have h := Nat.testBit_xor x c 0
 simp only [Nat.testBit_zero] at h
 have hx := Nat.mod_two_eq_zero_or_one x
 have hc := Nat.mod_two_eq_zero_or_one c
 have hy := Nat.mod_two_eq_zero_or_one (x ^^^ c)
 rcases hx with hx | hx <;> rcases hc with hc | hc <;> rcases hy with hy | hy <;> simp [hx, hc, hy] at h <;> omega
theorem half_xor (x c : Nat) : (x ^^^ c) / 2 = (x / 2) ^^^ (c / 2) := by
 have h := Nat.shiftRight_xor_distrib (a := x) (b := c) (i := 1)
 simpa [Nat.shiftRight_eq_div_pow] using h
theorem stp_xor (x c : Nat) : stp (x ^^^ c) = rx x c ^^^ (c / 2) := by
 unfold stp rx
 rw [odd_xor, half_xor]
 split
 · rw [Nat.xor_assoc, Nat.xor_comm (c / 2), ← Nat.xor_assoc]
 · rfl
theorem stpN_xor (k x c : Nat) (h : c < 2 ^ k) : stpN k (x ^^^ c) = rN k x c := by
 induction k generalizing x c with
 | zero =>
  have : c = 0 := by simpa using h
  subst this
  simp [stpN, rN]
 | succ k ih =>
  simp only [stpN, rN]
  rw [stp_xor]
  exact ih _ _ (by rw [Nat.pow_succ] at h; omega)
theorem rx_lt {x : Nat} (c : Nat) (h : x < 4294967296) : rx x c < 4294967296 := by
 unfold rx
 split
 · exact xor_lt (by omega) (by decide)
 · omega
theorem rN_lt (k : Nat) {x c : Nat} (h : x < 4294967296) : rN k x c < 4294967296 := by
 induction k generalizing x c with
 | zero => exact h
 | succ k ih => exact ih (rx_lt c h)
theorem upd_eq (x : Nat) (c : UInt8) : upd x c.toNat = rN 8 x c.toNat := stpN_xor 8 x c.toNat c.toNat_lt
end Go.Proofs.YtjomnccladjpgaaGreat.Crc

/-
 Plain: what the bytes of slots and entries are.
-/
namespace Go.Proofs.YtjomnccladjpgaaGreat
open Go Go.RowKit
set_option linter.unusedVariables false
set_option linter.unusedSimpArgs false
theorem zCv {α : Type} {l : List α} {lo n : Nat} (h : lo + n ≤ l.length) (z : Int) (hz : z = ((lo + n : Nat) : Int)) : cutI l (lo : Int) z = some ((l.drop lo).take n) := by
 subst hz
 unfold cutI
 rw [if_pos ⟨by omega, by omega, by omega⟩, Int.toNat_natCast, Int.toNat_natCast, List.drop_take]
 simp
def getN (b : List UInt8) : Int := if b.length = 0 ∨ 8 < b.length ∨ 4611686018427387904 < ofBE b then 0 else ofBE b
def getE (b : List UInt8) : Int := if b.length = 0 then 10 else if 8 < b.length then 2 else if 4611686018427387904 < ofBE b then 11 else 0
theorem zKO (b : List UInt8) (hb : b.length ≤ 8) : ∀ (n i : Nat), i ≤ b.length → b.length - i < n → zCh b n ((ofBE (b.take i) : Nat) : Int) (i : Int) = zDH ((ofBE b : Nat) : Int)
 | 0, i, _, h => by omega
 | n + 1, i, hi, h => by
  unfold zCh
  by_cases hlt : i < b.length
  ·
   have hsm : ofBE (b.take i) < 72057594037927936 := by
    have h := zFV i (b.take i) (by simp; omega)
    have : 256 ^ i ≤ 256 ^ 7 := Nat.pow_le_pow_right (by omega) (by omega)
    omega
   have ht : ofBE (b.take (i + 1)) = ofBE (b.take i) * 256 + b[i].toNat := by rw [← List.take_append_getElem hlt, zFC]
   rw [zE (qK (by omega)), qY hlt, Option.bind_some, get_step _ _ hsm b[i].toNat_lt, ← ht, yK (by omega)]
   exact zKO b hb n (i + 1) (by omega) (by omega)
  · rw [zD (zZ (by omega)), List.take_of_length_le (by omega)]
theorem n_Get (b : List UInt8) : zDY b = some (getN b, getE b) := by
 unfold zDY getN getE
 by_cases h0 : b.length = 0
 · rw [zE (zDB (by omega)), if_pos (.inl h0), if_pos h0]
 ·
  rw [zD (zBq (by omega)), if_neg h0]
  by_cases h8 : 8 < b.length
  · rw [zE (qK (by omega)), if_pos (.inr (.inl h8)), if_pos h8]
  ·
   rw [zD (zZ (by omega)), if_neg h8]
   have := zKO b (by omega) (b.length + 1) 0 (Nat.zero_le _) (by omega)
   have h : zCh b (b.length + 1) 0 0 = zDH ((ofBE b : Nat) : Int) := this
   rw [h]
   unfold zDH
   by_cases hb : 4611686018427387904 < ofBE b
   · rw [zE (qK (by omega)), if_pos (.inr (.inr hb)), if_pos hb]
   · rw [zD (zZ (by omega)), if_neg (by omega), if_neg hb, yB (by omega) (by omega)]
theorem zKL {b : List UInt8} (h : b.length = 4) : getN b = ofBE b ∧ getE b = 0 := by
 have := zFV 4 b h
 unfold getN getE
 rw [if_neg (by omega), if_neg (by omega), if_neg (by omega), if_neg (by omega)]
 exact ⟨rfl, rfl⟩
theorem zLC {p : List UInt8} {o k n : Nat} (h : o + k ≤ p.length) (hn : n < 256 ^ k) (h1 : 1 ≤ k) (h8 : k ≤ 8) (hm : n ≤ 4611686018427387904) : zAB p o k (n : Int) = some (p.take o ++ (be k n ++ p.drop (o + k))) := by
 unfold zAB zFb
 rw [if_pos ⟨by omega, by omega, by omega, by omega, by simpa using hn⟩, Option.bind_some]
 unfold cpyI
 rw [if_pos h, Option.bind_some]
 have e : cpyL p o k (be k n) = p.take o ++ (be k n ++ p.drop (o + k)) := by
  unfold cpyL
  rw [qB, Nat.min_self, List.take_of_length_le (l := be k n) (by rw [qB]; omega)]
 simp only [Int.toNat_natCast]
 rw [e]
 unfold lenI
 rw [if_pos (by simp [qB]; omega)]
 rfl
def zA1 (b s : Nat) : List UInt8 := be 8 b ++ (be 4 s ++ (List.replicate 44 0 ++ be 8 b))
theorem zCW (b s : Nat) : (zA1 b s).length = 64 := by simp [zA1, qB]
theorem zHM {b s : Nat} (hb : b ≤ 4611686018427387904) (hs : s < 4294967296) : zB0 (b : Int) (s : Int) = some (zA1 b s) := by
 have hR : (List.replicate 64 (0 : UInt8)).length = 64 := List.length_replicate
 have e1 := zLC (p := List.replicate 64 (0 : UInt8)) (o := 0) (k := 8) (n := b) (by rw [hR]; omega) (by omega) (by omega) (by omega) hb
 have l1 : ((List.replicate 64 (0 : UInt8)).take 0 ++ (be 8 b ++ (List.replicate 64 (0 : UInt8)).drop (0 + 8))) = be 8 b ++ List.replicate 56 0 := by simp
 rw [l1] at e1
 have e2 := zLC (p := be 8 b ++ List.replicate 56 0) (o := 8) (k := 4) (n := s) (by simp [qB]) (by omega) (by omega) (by omega) (by omega)
 have l2 : ((be 8 b ++ List.replicate 56 (0 : UInt8)).take 8 ++ (be 4 s ++ (be 8 b ++ List.replicate 56 (0 : UInt8)).drop (8 + 4))) = be 8 b ++ (be 4 s ++ List.replicate 52 0) := by
  simp [List.take_append, List.drop_append, qB, List.take_of_length_le, List.drop_of_length_le]
 rw [l2] at e2
 have e3 := zLC (p := be 8 b ++ (be 4 s ++ List.replicate 52 0)) (o := 56) (k := 8) (n := b) (by simp [qB]) (by omega) (by omega) (by omega) hb
 have l3 : ((be 8 b ++ (be 4 s ++ List.replicate 52 (0 : UInt8))).take 56 ++ (be 8 b ++ (be 8 b ++ (be 4 s ++ List.replicate 52 (0 : UInt8))).drop (56 + 8))) = zA1 b s := by
  simp [zA1, List.take_append, List.drop_append, qB, List.take_of_length_le, List.drop_of_length_le]
 rw [l3] at e3
 unfold zB0
 show Option.bind (zAB (List.replicate 64 (0 : UInt8)) 0 8 (b : Int)) _ = _
 rw [e1, Option.bind_some]
 have k1 : lenI (be 8 b ++ List.replicate 56 (0 : UInt8)).length (List.replicate 64 (0 : UInt8)).length = some () := by unfold lenI; rw [if_pos (by simp [qB])]
 have k2 : lenI (be 8 b ++ (be 4 s ++ List.replicate 52 (0 : UInt8))).length (be 8 b ++ List.replicate 56 (0 : UInt8)).length = some () := by unfold lenI; rw [if_pos (by simp [qB])]
 have k3 : lenI (zA1 b s).length (be 8 b ++ (be 4 s ++ List.replicate 52 (0 : UInt8))).length = some () := by unfold lenI; rw [if_pos (by simp [qB, zCW])]
 show Option.bind (lenI (be 8 b ++ List.replicate 56 (0 : UInt8)).length (List.replicate 64 (0 : UInt8)).length) _ = _
 rw [k1, Option.bind_some]
 show Option.bind (zAB (be 8 b ++ List.replicate 56 (0 : UInt8)) 8 4 (s : Int)) _ = _
 rw [e2, Option.bind_some]
 show Option.bind (lenI (be 8 b ++ (be 4 s ++ List.replicate 52 (0 : UInt8))).length (be 8 b ++ List.replicate 56 (0 : UInt8)).length) _ = _
 rw [k2, Option.bind_some]
 show Option.bind (zAB (be 8 b ++ (be 4 s ++ List.replicate 52 (0 : UInt8))) 56 8 (b : Int)) _ = _
 rw [e3, Option.bind_some]
 show Option.bind (lenI (zA1 b s).length (be 8 b ++ (be 4 s ++ List.replicate 52 (0 : UInt8))).length) _ = _
 rw [k3]
 rfl
theorem zJR {z : Int} (h1 : 0 ≤ z) (h2 : z ≤ 4294967295) : IntKind.u32.wrap z = z := by
 simp [IntKind.wrap, IntKind.bits, IntKind.signed]
 omega
theorem x32 {a b : Nat} (ha : a < 4294967296) (hb : b < 4294967296) : IntKind.u32.wrap ((((BitVec.ofInt IntKind.u32.bits (a : Int)) ^^^ (BitVec.ofInt IntKind.u32.bits (b : Int))).toNat : Nat) : Int) = ((a ^^^ b : Nat) : Int) := by
 have h2 : (BitVec.ofInt 32 (a : Int) ^^^ BitVec.ofInt 32 (b : Int)).toNat = a ^^^ b := by
  rw [BitVec.toNat_xor, BitVec.ofInt_natCast, BitVec.ofInt_natCast, BitVec.toNat_ofNat, BitVec.toNat_ofNat, Nat.mod_eq_of_lt (by omega), Nat.mod_eq_of_lt (by omega)]
 show IntKind.u32.wrap ((BitVec.ofInt 32 (a : Int) ^^^ BitVec.ofInt 32 (b : Int)).toNat : Int) = _
 have := Crc.xor_lt ha hb
 rw [h2, zJR (by omega) (by omega)]
theorem a32 {a : Nat} (ha : a < 4294967296) : IntKind.u32.wrap ((((BitVec.ofInt IntKind.u32.bits (a : Int)) &&& (BitVec.ofInt IntKind.u32.bits 1)).toNat : Nat) : Int) = ((a % 2 : Nat) : Int) := by
 have h2 : (BitVec.ofInt 32 (a : Int) &&& BitVec.ofInt 32 ((1 : Nat) : Int)).toNat = a % 2 := by
  rw [BitVec.toNat_and, BitVec.ofInt_natCast, BitVec.ofInt_natCast, BitVec.toNat_ofNat, BitVec.toNat_ofNat, Nat.mod_eq_of_lt (by omega), Nat.mod_eq_of_lt (by omega), Nat.and_one_is_mod]
 show IntKind.u32.wrap ((BitVec.ofInt 32 (a : Int) &&& BitVec.ofInt 32 ((1 : Nat) : Int)).toNat : Int) = _
 rw [h2, zJR (by omega) (by omega)]
theorem half {a : Nat} : Int.fdiv (a : Int) (2 ^ 1) = ((a / 2 : Nat) : Int) := by
 rw [Int.fdiv_eq_ediv_of_nonneg _ (by omega)]
 omega
theorem zKN (kl : Int → Int → Option Int) (z : Int) : ∀ (n j x : Nat), j ≤ 8 → 8 - j < n → x < 4294967296 → zC7 kl z n (x : Int) (j : Int) = kl (Crc.stpN (8 - j) x : Nat) (wi (z + 1))
 | 0, j, x, _, h, _ => by omega
 | n + 1, j, x, hj, h, hx => by
  unfold zC7
  by_cases hlt : j < 8
  ·
   have e : 8 - j = (8 - (j + 1)) + 1 := by omega
   have hy := Crc.stp_lt hx
   have ih := zKN kl z n (j + 1) (Crc.stp x) (by omega) (by omega) hy
   rw [zE (qK (by omega)), a32 hx, half, yK (by omega), e]
   show _ = kl (Crc.stpN (8 - (j + 1)) (Crc.stp x) : Nat) (wi (z + 1))
   rw [← ih]
   by_cases hp : x % 2 = 1
   ·
    have hs : Crc.stp x = x / 2 ^^^ Crc.poly := by unfold Crc.stp; rw [if_pos hp]
    rw [zE (zDB (by omega)), hs]
    have := x32 (a := x / 2) (b := Crc.poly) (by omega) (by decide)
    rw [← this]
    rfl
   ·
    have hs : Crc.stp x = x / 2 := by unfold Crc.stp; rw [if_neg hp]
    rw [zD (zBq (by omega)), hs]
  ·
   have e : 8 - j = 0 := by omega
   rw [zD (zZ (by omega)), e]
   rfl
theorem zKF (kl : Int → Int → Option Int) (p : List UInt8) (z : Int) (hp : p.length < 4611686018427387904) : ∀ (n i x : Nat), i ≤ p.length → p.length - i < n → x < 4294967296 → zCY kl p z n (x : Int) (i : Int) = kl (Crc.run x (p.drop i) : Nat) (wi (z + 1))
 | 0, i, x, _, h, _ => by omega
 | n + 1, i, x, hi, h, hx => by
  unfold zCY
  by_cases hlt : i < p.length
  ·
   have hc := p[i].toNat_lt
   have hX := Crc.xor_lt hx (b := p[i].toNat) (by omega)
   rw [zE (qK (by omega)), qY hlt, Option.bind_some, x32 hx (by omega)]
   have h4 := zKN (zCY kl p z n) (i : Int) (Int.toNat 8 + 1) 0 (x ^^^ p[i].toNat) (by omega) (by decide) hX
   rw [show ((0 : Nat) : Int) = 0 from rfl] at h4
   rw [h4, yK (by omega), zKF kl p z hp n (i + 1) _ (by omega) (by omega) (Crc.stpN_lt _ hX), List.drop_eq_getElem_cons hlt]
   rfl
  ·
   rw [zD (zZ (by omega)), List.drop_of_length_le (by omega)]
   rfl
theorem zKb (ps : List (List UInt8)) (hl : ∀ p ∈ ps, p.length < 4611686018427387904) (hn : ps.length < 4611686018427387904) : ∀ (n i x : Nat), i ≤ ps.length → ps.length - i < n → x < 4294967296 → zB4 ps n (x : Int) (i : Int) = zEH (Crc.run x (ps.drop i).flatten : Nat)
 | 0, i, x, _, h, _ => by omega
 | n + 1, i, x, hi, h, hx => by
  unfold zB4
  by_cases hlt : i < ps.length
  ·
   rw [zE (qK (by omega)), qY hlt, Option.bind_some]
   have h3 := zKF (zB4 ps n) ps[i] (i : Int) (hl _ (List.getElem_mem hlt)) (ps[i].length + 1) 0 x (by omega) (by omega) hx
   rw [show ((0 : Nat) : Int) = 0 from rfl] at h3
   rw [h3, yK (by omega), zKb ps hl hn n (i + 1) _ (by omega) (by omega) (Crc.run_lt _ hx), List.drop_eq_getElem_cons hlt, List.flatten_cons, Crc.run_append]
   rfl
  ·
   rw [zD (zZ (by omega)), List.drop_of_length_le (by omega)]
   rfl
theorem n_Sum (ps : List (List UInt8)) (hl : ∀ p ∈ ps, p.length < 4611686018427387904) (hn : ps.length < 4611686018427387904) : zF3 ps = some ((Crc.crc ps.flatten : Nat) : Int) := by
 unfold zF3
 have h2 := zKb ps hl hn (ps.length + 1) 0 4294967295 (by omega) (by omega) (by decide)
 rw [show ((0 : Nat) : Int) = 0 from rfl, show ((4294967295 : Nat) : Int) = 4294967295 from rfl] at h2
 rw [h2]
 have hx := Crc.run_lt ps.flatten (x := 4294967295) (by decide)
 have e : (4294967295 ^^^ Crc.run 4294967295 ps.flatten : Nat) = 4294967295 - Crc.run 4294967295 ps.flatten := by
  have h3 := congrArg BitVec.toNat (BitVec.allOnes_xor (x := BitVec.ofNat 32 (Crc.run 4294967295 ps.flatten)))
  rw [BitVec.toNat_xor, BitVec.toNat_not, BitVec.toNat_allOnes, BitVec.toNat_ofNat, Nat.mod_eq_of_lt hx] at h3
  exact h3
 unfold zEH
 have := x32 (a := 4294967295) (b := Crc.run 4294967295 (ps.drop 0).flatten) (by decide) hx
 refine congrArg some (this.trans ?_)
 rw [List.drop_zero, e]
 rfl
def zC1 (k n : Nat) (d : List UInt8) : List UInt8 := UInt8.ofNat k :: (be 4 n ++ (d ++ List.replicate (47 - d.length) 0))
def zAz (k n : Nat) (d : List UInt8) (st : Nat) : List UInt8 := zC1 k n d ++ (be 4 (Crc.crc (zC1 k n d ++ be 8 st)) ++ be 8 st)
theorem zCD {k n : Nat} {d : List UInt8} (h : d.length ≤ 32) : (zC1 k n d).length = 52 := by simp [zC1, qB]; omega
theorem zH1 {k n st : Nat} {d : List UInt8} (h : d.length ≤ 32) : (zAz k n d st).length = 64 := by simp [zAz, zCD h, qB]
theorem n_bytes {k n st : Nat} {d : List UInt8} {ok : Bool} (hk : k < 256) (hn : n < 4294967296) (hd : d.length ≤ 32) (hs : st ≤ 4611686018427387904) : zAW ⟨(k : Int), (n : Int), d, ok⟩ (st : Int) = some (zAz k n d st) := by
 have hU : U8 (k : Int) = UInt8.ofNat k := by
  unfold U8
  congr 1
  omega
 have hL : (List.replicate 64 (0 : UInt8)).set 0 (U8 (k : Int)) = UInt8.ofNat k :: List.replicate 63 0 := by rw [hU]; rfl
 have e1 := zLC (p := UInt8.ofNat k :: List.replicate 63 0) (o := 1) (k := 4) (n := n) (by simp) (by omega) (by omega) (by omega) (by omega)
 have l1 : ((UInt8.ofNat k :: List.replicate 63 (0 : UInt8)).take 1 ++ (be 4 n ++ (UInt8.ofNat k :: List.replicate 63 (0 : UInt8)).drop (1 + 4))) = UInt8.ofNat k :: (be 4 n ++ List.replicate 59 0) := by simp
 rw [l1] at e1
 have l2 : cpyI (UInt8.ofNat k :: (be 4 n ++ List.replicate 59 (0 : UInt8))) 5 32 d = some (UInt8.ofNat k :: (be 4 n ++ (d ++ List.replicate (59 - d.length) 0))) := by
  unfold cpyI
  rw [if_pos (by simp [qB])]
  congr 1
  unfold cpyL
  rw [Nat.min_eq_left hd, List.take_of_length_le (l := d) hd]
  have h5 : (UInt8.ofNat k :: be 4 n).length = 5 := by simp [qB]
  rw [show UInt8.ofNat k :: (be 4 n ++ List.replicate 59 (0 : UInt8)) = (UInt8.ofNat k :: be 4 n) ++ List.replicate 59 0 from rfl, List.take_left' h5, List.drop_append, List.drop_of_length_le (l := UInt8.ofNat k :: be 4 n) (by omega), h5, List.drop_replicate, show 59 - (5 + d.length - 5) = 59 - d.length by omega]
  rfl
 have e3 := zLC (p := UInt8.ofNat k :: (be 4 n ++ (d ++ List.replicate (59 - d.length) 0))) (o := 56) (k := 8) (n := st) (by simp [qB]; omega) (by omega) (by omega) (by omega) hs
 have hT : (UInt8.ofNat k :: (be 4 n ++ (d ++ List.replicate (59 - d.length) (0 : UInt8)))) = zC1 k n d ++ List.replicate 12 0 := by
  unfold zC1
  rw [show 59 - d.length = (47 - d.length) + 12 by omega, ← List.replicate_append_replicate]
  simp
 have l3 : ((UInt8.ofNat k :: (be 4 n ++ (d ++ List.replicate (59 - d.length) (0 : UInt8)))).take 56 ++ (be 8 st ++ (UInt8.ofNat k :: (be 4 n ++ (d ++ List.replicate (59 - d.length) (0 : UInt8)))).drop (56 + 8))) = zC1 k n d ++ (List.replicate 4 0 ++ be 8 st) := by
  rw [hT]
  simp [List.take_append, List.drop_append, zCD hd, List.take_of_length_le, List.drop_of_length_le]
 rw [l3] at e3
 have p1 : zE0 (zC1 k n d ++ (List.replicate 4 0 ++ be 8 st)) 0 52 = some (zC1 k n d) := by
  unfold zE0
  rw [if_pos (by simp [zCD hd, qB])]
  simp [List.take_append, zCD hd, List.take_of_length_le]
 have p2 : zE0 (zC1 k n d ++ (List.replicate 4 0 ++ be 8 st)) 56 8 = some (be 8 st) := by
  unfold zE0
  rw [if_pos (by simp [zCD hd, qB])]
  simp [List.drop_append, zCD hd, List.take_of_length_le, qB, List.drop_of_length_le]
 have hS := n_Sum [zC1 k n d, be 8 st] (by
  intro p hp
  simp at hp
  rcases hp with rfl | rfl
  · rw [zCD hd]; omega
  · rw [qB]; omega) (by simp)
 rw [show [zC1 k n d, be 8 st].flatten = zC1 k n d ++ be 8 st by simp] at hS
 have hc := Crc.crc_le (zC1 k n d ++ be 8 st)
 have e4 := zLC (p := zC1 k n d ++ (List.replicate 4 0 ++ be 8 st)) (o := 52) (k := 4) (n := Crc.crc (zC1 k n d ++ be 8 st)) (by simp [zCD hd, qB]) (by omega) (by omega) (by omega) (by omega)
 have l4 : ((zC1 k n d ++ (List.replicate 4 0 ++ be 8 st)).take 52 ++ (be 4 (Crc.crc (zC1 k n d ++ be 8 st)) ++ (zC1 k n d ++ (List.replicate 4 0 ++ be 8 st)).drop (52 + 4))) = zAz k n d st := by
  simp [zAz, List.take_append, List.drop_append, zCD hd, List.take_of_length_le, List.drop_of_length_le]
 rw [l4] at e4
 have len : ∀ {a b : Nat}, a = b → lenI a b = some () := fun h => by unfold lenI; rw [if_pos h]
 unfold zAW
 show Option.bind (zAB ((List.replicate 64 (0 : UInt8)).set 0 (U8 (k : Int))) 1 4 (n : Int)) _ = _
 rw [hL, e1, Option.bind_some]
 show Option.bind (lenI (UInt8.ofNat k :: (be 4 n ++ List.replicate 59 (0 : UInt8))).length ((List.replicate 64 (0 : UInt8)).set 0 (U8 (k : Int))).length) _ = _
 rw [len (by simp [qB]), Option.bind_some]
 rw [show vcut (Int.toNat 64) 5 37 = some () from rfl, Option.bind_some]
 show Option.bind (cpyI (UInt8.ofNat k :: (be 4 n ++ List.replicate 59 (0 : UInt8))) 5 32 d) _ = _
 rw [l2, Option.bind_some, len (by simp [qB]; omega), Option.bind_some]
 show Option.bind (zAB (UInt8.ofNat k :: (be 4 n ++ (d ++ List.replicate (59 - d.length) (0 : UInt8)))) 56 8 (st : Int)) _ = _
 rw [e3, Option.bind_some, len (by simp [qB, zCD hd]; omega), Option.bind_some]
 rw [show vcut (Int.toNat 64) 52 56 = some () from rfl, Option.bind_some, show vcut (Int.toNat 64) 0 52 = some () from rfl, Option.bind_some, show vcut (Int.toNat 64) 56 ((Int.toNat 64 : Nat) : Int) = some () from rfl, Option.bind_some]
 show Option.bind (zE0 (zC1 k n d ++ (List.replicate 4 0 ++ be 8 st)) 0 52) _ = _
 rw [p1, Option.bind_some]
 show Option.bind (zE0 (zC1 k n d ++ (List.replicate 4 0 ++ be 8 st)) 56 8) _ = _
 rw [p2, Option.bind_some, hS, Option.bind_some]
 rw [yB (by omega) (by omega)]
 show Option.bind (zAB (zC1 k n d ++ (List.replicate 4 0 ++ be 8 st)) 52 4 ((Crc.crc (zC1 k n d ++ be 8 st) : Nat) : Int)) _ = _
 rw [e4, Option.bind_some, len (by simp [qB, zCD hd, zH1 hd])]
 rfl
end Go.Proofs.YtjomnccladjpgaaGreat

/-
 Plain: the document's bytes: numbers, slots, sums, entries.
-/
namespace Go.Proofs.YtjomnccladjpgaaGreat
open Go Go.RowKit
set_option linter.unusedVariables false
set_option linter.unusedSimpArgs false
theorem U8_nat {n : Nat} (h : n < 256) : U8 (n : Int) = UInt8.ofNat n := by
 unfold U8
 congr 1
 omega
theorem ofBE_le (x y : List UInt8) : ofBE x ≤ ofBE (x ++ y) := by
 unfold ofBE
 rw [List.foldl_append]
 generalize List.foldl (fun x c => x * 256 + c.toNat) 0 x = a
 induction y generalizing a with
 | nil => exact Nat.le_refl _
 | cons c r ih => exact Nat.le_trans (by omega) (ih (a * 256 + UInt8.toNat c))
theorem zGj (b : List UInt8) (hb : b.length ≤ 8) : ∀ (n i : Nat), i ≤ b.length → b.length - i < n → ofBE (b.take i) ≤ 4611686018427387904 → zA9 b n (ofBE (b.take i) : Int) (i : Int) = some (if 4611686018427387904 < ofBE b then (0, 11) else ((ofBE b : Int), 0))
 | 0, i, _, h, _ => by omega
 | n + 1, i, hi, h, ho => by
  unfold zA9
  by_cases hlt : i < b.length
  ·
   rw [zE (qK (by omega)), qY hlt, Option.bind_some]
   have ht : ofBE (b.take (i + 1)) = ofBE (b.take i) * 256 + b[i].toNat := by rw [← List.take_append_getElem hlt, zFC]
   have hm : ofBE (b.take (i + 1)) ≤ ofBE b := by
    have := ofBE_le (b.take (i + 1)) (b.drop (i + 1))
    rwa [List.take_append_drop] at this
   have hc := b[i].toNat_lt
   have hgo : ofBE (b.take (i + 1)) ≤ 4611686018427387904 → ∀ y, zDm (zA9 b n) (ofBE (b.take i) : Int) b[i] (i : Int) y = some (if 4611686018427387904 < ofBE b then (0, 11) else ((ofBE b : Int), 0)) := by
    intro hle y
    unfold zDm
    rw [yK (by omega), yB (z := 256 * (ofBE (b.take i) : Int)) (by omega) (by omega), yB (by omega) (by omega)]
    rw [show (256 * (ofBE (b.take i) : Int) + (b[i].toNat : Int)) = ((ofBE (b.take (i + 1)) : Nat) : Int) by rw [ht]; omega]
    exact zGj b hb n (i + 1) (by omega) (by omega) hle
   by_cases h1 : 18014398509481984 < ofBE (b.take i)
   · rw [zE (qK (by omega)), if_pos (by omega)]
   ·
    rw [zD (zZ (by omega))]
    by_cases h2 : ofBE (b.take i) = 18014398509481984
    ·
     rw [zE (zDB (by omega))]
     by_cases h3 : 0 < b[i].toNat
     · rw [zE (qK (by omega)), if_pos (by omega)]
     ·
      rw [zD (zZ (by omega))]
      exact hgo (by omega) _
    ·
     rw [zD (zBq (by omega))]
     exact hgo (by omega) _
  ·
   have e : i = b.length := by omega
   subst e
   rw [zD (zZ (by omega))]
   rw [List.take_length] at ho ⊢
   rw [if_neg (by omega)]
   rfl
theorem zHm (b : List UInt8) : zEc b = some (getN b, getE b) := by
 unfold zEc getN getE
 by_cases h0 : b.length = 0
 · rw [zE (zDB (by omega)), if_pos (.inl h0), if_pos h0]
 ·
  rw [zD (zBq (by omega)), if_neg h0]
  by_cases h8 : 8 < b.length
  · rw [zE (qK (by omega)), if_pos (.inr (.inl h8)), if_pos h8]
  ·
   rw [zD (zZ (by omega)), if_neg h8]
   have h := zGj b (by omega) (b.length + 1) 0 (by omega) (by omega) (by simp [ofBE])
   have e : zA9 b (b.length + 1) 0 0 = zA9 b (b.length + 1) ((ofBE (b.take 0) : Nat) : Int) ((0 : Nat) : Int) := rfl
   rw [e, h]
   by_cases hx : 4611686018427387904 < ofBE b
   · rw [if_pos hx, if_pos hx, if_pos (.inr (.inr hx))]
   · rw [if_neg hx, if_neg hx, if_neg (by omega)]
theorem zGk (k : Nat) (hk : k ≤ 8) : ∀ (n i m : Nat) (out : List UInt8), i ≤ k → k - i < n → out.length = i → m ≤ 4611686018427387904 → zDA (k : Int) n (m : Int) out (i : Int) = some (if 0 < m / 256 ^ (k - i) then ([], 2) else (out ++ le (k - i) m, 0))
 | 0, i, m, out, _, h, _, _ => by omega
 | n + 1, i, m, out, hi, h, ho, hm => by
  unfold zDA
  by_cases hlt : i < k
  ·
   rw [zE (qK (by omega)), zBV (by simp; omega), Option.bind_some, yK (by omega)]
   have e1 : Int.tdiv (m : Int) 256 = ((m / 256 : Nat) : Int) := rfl
   have e2 : Int.tmod (m : Int) 256 = ((m % 256 : Nat) : Int) := rfl
   rw [e1, e2, yB (by omega) (by omega), U8_nat (by omega), zGk k hk n (i + 1) (m / 256) _ (by omega) (by omega) (by simp [ho]) (by omega)]
   obtain ⟨j, hj⟩ : ∃ j, k - i = j + 1 := ⟨k - i - 1, by omega⟩
   rw [show k - (i + 1) = j by omega, hj, Nat.div_div_eq_div_mul, ← Nat.pow_succ', le]
   simp
  ·
   have e : k - i = 0 := by omega
   rw [zD (zZ (by omega)), e]
   unfold zFU
   by_cases h0 : 0 < m
   · rw [zE (qK (by omega)), if_pos (by simpa using h0)]
   ·
    rw [zD (zZ (by omega)), if_neg (by simpa using h0)]
    simp [le]
theorem zFG (b : List UInt8) (hb : b.length ≤ 4611686018427387904) : ∀ (n i : Nat) (out : List UInt8), i ≤ b.length → i < n → out.length + i ≤ 1000000000 → zCc b n out ((i : Int) - 1) = some (out ++ (b.take i).reverse)
 | 0, i, out, _, h, _ => by omega
 | n + 1, i, out, hi, h, ho => by
  unfold zCc
  cases i with
  | zero =>
   rw [zD (zZ (by omega))]
   simp
  | succ i =>
   rw [zE (qK (by omega)), show ((i + 1 : Nat) : Int) - 1 = (i : Int) by omega, qY (by omega), Option.bind_some, zBV (by simp; omega), Option.bind_some, yB (by omega) (by omega),
    zFG b hb n i _ (by omega) (by omega) (by simp; omega), ← List.take_append_getElem (by omega : i < b.length), List.reverse_append]
   simp
theorem n_R01_Put {n k : Nat} (h : n < 256 ^ k) (h1 : 1 ≤ k) (h8 : k ≤ 8) (hn : n ≤ 4611686018427387904) : zGG (n : Int) (k : Int) = some (be k n, 0) := by
 unfold zGG zHI
 rw [zD (zZ (by omega)), zD (zZ (by omega)), zD (zZ (by omega)), zD (zZ (by omega)), Int.toNat_natCast]
 have hl := zGk k h8 (k + 1) 0 n [] (by omega) (by omega) rfl hn
 rw [Nat.sub_zero, if_neg (by rw [Nat.div_eq_of_lt h]; omega)] at hl
 show Option.bind (zDA (k : Int) (k + 1) (n : Int) [] ((0 : Nat) : Int)) _ = _
 rw [hl, Option.bind_some]
 show Option.bind (zEL (le k n)) _ = _
 unfold zEL
 rw [zBl, yB (by omega) (by omega)]
 have ht := zFG (le k n) (by rw [zBl]; omega) (Int.toNat ((k : Int) - 1) + 2) k [] (by rw [zBl]; exact Nat.le_refl _) (by omega) (by simp; omega)
 rw [ht, Option.bind_some, show (le k n).take k = le k n from List.take_of_length_le (by rw [zBl]; exact Nat.le_refl _)]
 rfl
theorem zGE {n k : Nat} (h : n < 256 ^ k) (h1 : 1 ≤ k) (h8 : k ≤ 8) (hn : n ≤ 4611686018427387904) : zBf (n : Int) (k : Int) = some (be k n) := by
 unfold zBf
 rw [n_R01_Put h h1 h8 hn]
 rfl
theorem zF1 (a b : List UInt8) (hl : a.length = b.length) (hb : a.length < 4611686018427387904) : ∀ (n i : Nat), i ≤ a.length → a.length - i < n → zDF a b n (i : Int) = some (a.drop i == b.drop i)
 | 0, i, _, h => by omega
 | n + 1, i, hi, h => by
  unfold zDF
  by_cases hlt : i < a.length
  ·
   have hlb : i < b.length := by omega
   rw [zE (qK (by omega)), qY hlt, Option.bind_some, qY hlb, Option.bind_some, yK (by omega), zF1 a b hl hb n (i + 1) (by omega) (by omega)]
   have ha : a.drop i = a[i] :: a.drop (i + 1) := List.drop_eq_getElem_cons hlt
   have hb : b.drop i = b[i] :: b.drop (i + 1) := List.drop_eq_getElem_cons hlb
   rw [ha, hb]
   generalize a[i] = x
   generalize b[i] = y
   by_cases he : x = y
   ·
    subst he
    rw [zD (zBH rfl)]
    simp
   ·
    rw [zE (zDL (fun h => he (UInt8.toNat_inj.1 (by omega))))]
    simp [he]
  ·
   rw [zD (zZ (by omega)), List.drop_eq_nil_of_le (by omega), List.drop_eq_nil_of_le (by omega)]
   rfl
theorem zDe (a b : List UInt8) (hb : a.length < 4611686018427387904) : zAe a b = some (a == b) := by
 unfold zAe
 by_cases hl : a.length = b.length
 ·
  rw [zD (zBH (by omega))]
  exact zF1 a b hl hb _ 0 (Nat.zero_le _) (by omega)
 ·
  rw [zE (zDL (by omega))]
  congr 1
  symm
  rw [beq_eq_false_iff_ne]
  exact fun e => hl (by rw [e])
theorem zDh {a b : List UInt8} (ha : a.length ≤ 1000) (hb : b.length ≤ 1000) : zAM a b = some (a ++ b) := by
 unfold zAM
 rw [zBV (by simp; omega), Option.bind_some, List.nil_append, zBV (by omega), Option.bind_some]
theorem mk_1 (n : Nat) (h : n ≤ 1000) : mkI 1 (n : Int) = some n := by
 unfold mkI
 rw [if_pos ⟨by omega, by omega, by omega⟩, Int.toNat_natCast]
theorem zJf {b s : Nat} (hb : b ≤ 4611686018427387904) (hs : s < 4294967296) : zDV (b : Int) (s : Int) = some (zA1 b s) := by
 unfold zDV
 have e8 := zGE (n := b) (k := 8) (by omega) (by omega) (by omega) hb
 have e4 := zGE (n := s) (k := 4) (by omega) (by omega) (by omega) (by omega)
 rw [show ((8 : Nat) : Int) = 8 from rfl] at e8
 rw [show ((4 : Nat) : Int) = 4 from rfl] at e4
 rw [e8, Option.bind_some, e4, Option.bind_some, zDh (by simp [qB]) (by simp [qB]), Option.bind_some, show mkI 1 44 = some 44 from mk_1 44 (by omega), Option.bind_some, zDh (by simp [qB]) (by simp), Option.bind_some, Option.bind_some, zDh (by simp [qB]) (by simp [qB]), Option.bind_some]
 unfold zA1
 simp
theorem zHW (kl : Int → Int → Option Int) (z : Int) : ∀ (n j x c : Nat), j ≤ 8 → 8 - j < n → x < 4294967296 → c < 256 → zB5 kl z n (x : Int) (c : Int) (j : Int) = kl (Crc.rN (8 - j) x c : Nat) (wi (z + 1))
 | 0, j, x, c, _, h, _, _ => by omega
 | n + 1, j, x, c, hj, h, hx, hc => by
  unfold zB5
  by_cases hlt : j < 8
  ·
   rw [zE (qK (by omega))]
   obtain ⟨k, hk⟩ : ∃ k, 8 - j = k + 1 := ⟨8 - j - 1, by omega⟩
   have e1 : Int.tdiv (x : Int) 2 = ((x / 2 : Nat) : Int) := rfl
   have e2 : Int.tdiv (c : Int) 2 = ((c / 2 : Nat) : Int) := rfl
   have w1 : IntKind.u32.wrap ((x / 2 : Nat) : Int) = ((x / 2 : Nat) : Int) := zJR (by omega) (by omega)
   have w2 : IntKind.u32.wrap ((c / 2 : Nat) : Int) = ((c / 2 : Nat) : Int) := zJR (by omega) (by omega)
   have hodd : Int.tmod (IntKind.u32.wrap ((x : Int) + (c : Int))) 2 = (((x + c) % 2 : Nat) : Int) := by
    have e : IntKind.u32.wrap ((x : Int) + (c : Int)) = (((x + c) % 4294967296 : Nat) : Int) := by
     simp [IntKind.wrap, IntKind.bits, IntKind.signed]
    rw [e]
    show (((x + c) % 4294967296 % 2 : Nat) : Int) = _
    omega
   rw [hodd, e1, w1, hk, Crc.rN, show k = 8 - (j + 1) by omega]
   by_cases ho : (x + c) % 2 = 1
   ·
    rw [zE (zDB (by omega))]
    have hx2 := x32 (a := x / 2) (b := 3988292384) (by omega) (by omega)
    rw [show ((3988292384 : Nat) : Int) = 3988292384 from rfl] at hx2
    rw [hx2]
    unfold zDj
    rw [e2, w2, yK (by omega), zHW kl z n (j + 1) _ _ (by omega) (by omega) (Crc.xor_lt (by omega) (by omega)) (by omega)]
    unfold Crc.rx
    rw [if_pos ho]
    rfl
   ·
    rw [zD (zBq (by omega))]
    unfold zDj
    rw [e2, w2, yK (by omega), zHW kl z n (j + 1) _ _ (by omega) (by omega) (by omega) (by omega)]
    unfold Crc.rx
    rw [if_neg ho]
  ·
   have e : j = 8 := by omega
   subst e
   rw [zD (zZ (by omega))]
   rfl
theorem zJP (p : List UInt8) (hp : p.length < 1000000) : ∀ (n i x : Nat), i ≤ p.length → p.length - i < n → x < 4294967296 → zBe p n (x : Int) (i : Int) = some (((4294967295 - Crc.run x (p.drop i) : Nat)) : Int)
 | 0, i, x, _, h, _ => by omega
 | n + 1, i, x, hi, h, hx => by
  unfold zBe
  by_cases hlt : i < p.length
  ·
   rw [zE (qK (by omega)), qY hlt, Option.bind_some]
   show zB5 (zBe p n) (i : Int) 9 (x : Int) ((p[i].toNat : Nat) : Int) ((0 : Nat) : Int) = _
   rw [zHW _ _ 9 0 x _ (by omega) (by omega) hx p[i].toNat_lt, yK (by omega), Nat.sub_zero, zJP p hp n (i + 1) _ (by omega) (by omega) (Crc.rN_lt 8 hx), List.drop_eq_getElem_cons hlt, ← Crc.upd_eq]
   rfl
  ·
   have e : i = p.length := by omega
   subst e
   rw [zD (zZ (by omega)), List.drop_length]
   show some (IntKind.u32.wrap (4294967295 - (x : Int))) = _
   rw [zJR (by omega) (by omega)]
   show some (4294967295 - (x : Int)) = some (((4294967295 - x : Nat)) : Int)
   congr 1
   omega
theorem n_RSum (p : List UInt8) (hp : p.length < 1000000) : zF5 p = some ((Crc.crc p : Nat) : Int) := by
 unfold zF5
 have h := zJP p hp (p.length + 1) 0 4294967295 (by omega) (by omega) (by omega)
 rw [List.drop_zero] at h
 exact h
theorem n_REntry {k n st : Nat} {d : List UInt8} (hk : k < 256) (hn : n < 4294967296) (hd : d.length = 32) (hs : st ≤ 4611686018427387904) : zAK (k : Int) (n : Int) d (st : Int) = some (zAz k n d st) := by
 unfold zAK
 have e4 := zGE (n := n) (k := 4) (by omega) (by omega) (by omega) (by omega)
 have e8 := zGE (n := st) (k := 8) (by omega) (by omega) (by omega) hs
 rw [show ((8 : Nat) : Int) = 8 from rfl] at e8
 rw [show ((4 : Nat) : Int) = 4 from rfl] at e4
 have hh : [UInt8.ofNat k] ++ be 4 n ++ d ++ List.replicate 15 0 = zC1 k n d := by
  unfold zC1
  rw [hd]
  simp
 have hl := zCD (k := k) (n := n) (d := d) (by omega)
 rw [e4, Option.bind_some, U8_nat hk, zDh (by simp) (by simp [qB]), Option.bind_some, zDh (by simp [qB]) (by omega), Option.bind_some, show mkI 1 15 = some 15 from mk_1 15 (by omega), Option.bind_some, zDh (by simp [qB]; omega) (by simp), Option.bind_some, hh, e8, Option.bind_some, zDh (by omega) (by simp [qB]), Option.bind_some, n_RSum _ (by simp [qB]; omega), Option.bind_some]
 have hc := Crc.crc_le (zC1 k n d ++ be 8 st)
 have e5 := zGE (n := Crc.crc (zC1 k n d ++ be 8 st)) (k := 4) (by omega) (by omega) (by omega) (by omega)
 rw [show ((4 : Nat) : Int) = 4 from rfl] at e5
 rw [yB (by omega) (by omega), e5, Option.bind_some, zDh (by omega) (by simp [qB]), Option.bind_some, zDh (by simp [qB]; omega) (by simp [qB]), Option.bind_some]
 unfold zAz
 rw [List.append_assoc]
end Go.Proofs.YtjomnccladjpgaaGreat

/-
 Plain: what a disk does.
-/
namespace Go.Proofs.YtjomnccladjpgaaGreat
open Go Go.RowKit
set_option linter.unusedVariables false
set_option linter.unusedSimpArgs false
theorem ptM_s {α : Type} (i : Nat) (a : Option α) (f : Nat → Option α) : ptM (some i) a f = f i := rfl
abbrev pad (x : List UInt8) : List UInt8 := padA (0 : UInt8) x 0 64
theorem pad_len (x : List UInt8) : (pad x).length = 64 := zEg x 64 0
theorem zIy {x : List UInt8} (h : x.length = 64) : pad x = x := zJx h
structure Dsk where
 kept : List (List UInt8)
 now : List (List UInt8)
 wait : List qZ
 fuse : Int
 off : Bool
 lives : Int
def apw (k : List (List UInt8)) (l : List qZ) : List (List UInt8) := l.foldl (fun s w => s.set w.n_.toNat w.b_) k
theorem apw_len (l : List qZ) : ∀ k, (apw k l).length = k.length := by
 induction l with
 | nil => intro k; rfl
 | cons w r ih => intro k; show (apw (k.set _ _) r).length = _; rw [ih, List.length_set]
theorem zG5 (k : List (List UInt8)) (l : List qZ) (w : qZ) : apw k (l ++ [w]) = (apw k l).set w.n_.toNat w.b_ := by simp [apw, List.foldl_append]
structure DIn (H : Hp) (i : Nat) (d : Dsk) : Prop where
 at_ : ∃ a b ks ns, a ≠ b ∧ H.dk[i]? = some ⟨(a, ks.length), (b, ns.length), d.wait, d.fuse, d.off, d.lives⟩ ∧ H.sec[a]? = some ks ∧ H.sec[b]? = some ns ∧ ks.map pad = d.kept ∧ ns.map pad = d.now
 len : d.kept.length = d.now.length
 wok : ∀ w ∈ d.wait, 0 ≤ w.n_ ∧ w.n_ < (d.now.length : Int) ∧ w.b_.length = 64
 same : d.now = apw d.kept d.wait
section
variable {H : Hp} {i : Nat} {d : Dsk}
theorem DIn.lg {H' : Hp} (h : DIn H i d) (h1 : H'.dk = H.dk) (h2 : H'.sec = H.sec) : DIn H' i d := by
 obtain ⟨h3, h4, h5, h6⟩ := h
 exact ⟨by rw [h1, h2]; exact h3, h4, h5, h6⟩
theorem DIn.row (h : DIn H i d) {k : Nat} {r : List UInt8} (hr : d.now[k]? = some r) : r.length = 64 := by
 obtain ⟨⟨a, b, ks, ns, hab, hd, hk, hn, ek, en⟩, _⟩ := h
 rw [← en, List.getElem?_map] at hr
 cases hq : ns[k]? with
 | none => rw [hq] at hr; cases hr
 | some y =>
  rw [hq] at hr
  injection hr with hr
  rw [← hr]
  exact pad_len y
theorem n_is (h : DIn H i d) (h0 : 0 < d.now.length) : zAa (some i) H = some true := by
 obtain ⟨⟨a, b, ks, ns, hab, hd, hk, hn, ek, en⟩, _⟩ := h
 have hl : ns.length = d.now.length := by rw [← en, List.length_map]
 unfold zAa
 show Option.bind (H.dk[i]?) _ = _
 rw [hd, Option.bind_some]
 show some (decide ((ns.length : Int) > 0)) = _
 rw [qK (by omega)]
theorem zHU (h : DIn H i d) (h0 : 0 < d.now.length) : zAR (some i) H = some (d.now.length : Int) := by
 have hi := n_is h h0
 obtain ⟨⟨a, b, ks, ns, hab, hd, hk, hn, ek, en⟩, _⟩ := h
 have hl : ns.length = d.now.length := by rw [← en, List.length_map]
 unfold zAR
 rw [hi, Option.bind_some]
 show Option.bind (H.dk[i]?) _ = _
 rw [hd, Option.bind_some]
 show some (ns.length : Int) = _
 rw [hl]
theorem n_Off (h : DIn H i d) (h0 : 0 < d.now.length) : zBN (some i) H = some d.off := by
 have hi := n_is h h0
 obtain ⟨⟨a, b, ks, ns, hab, hd, hk, hn, ek, en⟩, _⟩ := h
 unfold zBN
 rw [hi, Option.bind_some]
 show Option.bind (H.dk[i]?) _ = _
 rw [hd, Option.bind_some]
theorem zJb (h : DIn H i d) (h0 : 0 < d.now.length) : zAH (some i) H = some d.lives := by
 have hi := n_is h h0
 obtain ⟨⟨a, b, ks, ns, hab, hd, hk, hn, ek, en⟩, _⟩ := h
 unfold zAH
 rw [hi, Option.bind_some]
 show Option.bind (H.dk[i]?) _ = _
 rw [hd, Option.bind_some]
theorem n_may (h : DIn H i d) (ho : d.off = false) {k : Nat} (hk : k < d.now.length) : zAP (some i) (k : Int) H = some 0 := by
 have hi := n_is h (by omega)
 obtain ⟨⟨a, b, ks, ns, hab, hd, hk1, hn, ek, en⟩, _⟩ := h
 have hl : ns.length = d.now.length := by rw [← en, List.length_map]
 unfold zAP
 rw [hi, Option.bind_some]
 show Option.bind (H.dk[i]?) _ = _
 rw [hd, Option.bind_some]
 show (bif d.off then _ else bif decide ((k : Int) < 0) then _ else bif decide ((k : Int) ≥ (ns.length : Int)) then _ else some 0) = _
 rw [ho, zD rfl, zD (zZ (by omega)), zD (zZ (by omega))]
theorem n_burn {x : zH} (h : H.dk[i]? = some x) (hf : x.fuse_ < 0) : yS (some i) H = some (false, H) := by
 unfold yS
 show Option.bind (H.dk[i]?) _ = _
 rw [h, Option.bind_some, zE (qK hf)]
theorem zKc (h : DIn H i d) (ho : d.off = false) {k : Nat} {r : List UInt8} (hr : d.now[k]? = some r) : yI (some i) (k : Int) H = some (r, 0) := by
 have hk : k < d.now.length := (List.getElem?_eq_some_iff.1 hr).1
 have hm := n_may h ho hk
 obtain ⟨⟨a, b, ks, ns, hab, hd, hk1, hn, ek, en⟩, _⟩ := h
 have hl : ns.length = d.now.length := by rw [← en, List.length_map]
 unfold yI
 rw [hm, Option.bind_some, zD (zBH rfl)]
 show Option.bind (H.dk[i]?) _ = _
 rw [hd, Option.bind_some]
 show Option.bind (H.sec[b]?) _ = _
 rw [hn, Option.bind_some]
 unfold lenI
 rw [if_pos rfl, Option.bind_some, qY (by omega), Option.bind_some]
 rw [← en, List.getElem?_map, List.getElem?_eq_getElem (by omega)] at hr
 injection hr with hr
 rw [← hr]
theorem n_Write (h : DIn H i d) (ho : d.off = false) (hf : d.fuse < 0) {k : Nat} (hk : k < d.now.length) {x : List UInt8} (hx : x.length = 64) (hw : d.wait.length < 1000000) :
  ∃ H', zX (some i) (k : Int) x H = some (0, H') ∧ DIn H' i { d with now := d.now.set k x, wait := d.wait ++ [⟨k, x⟩] } ∧ H'.lg = H.lg := by
 have hm := n_may h ho hk
 obtain ⟨⟨a, b, ks, ns, hab, hd, hk1, hn, ek, en⟩, h4, h5, h6⟩ := h
 have hl : ns.length = d.now.length := by rw [← en, List.length_map]
 have hil : i < H.dk.length := (List.getElem?_eq_some_iff.1 hd).1
 have hbl : b < H.sec.length := (List.getElem?_eq_some_iff.1 hn).1
 let X : zH := ⟨(a, ks.length), (b, ns.length), d.wait ++ [⟨k, x⟩], d.fuse, d.off, d.lives⟩
 have g1 : ((H.st_dk i X).st_sec b (ns.set k x)).dk[i]? = some X := List.getElem?_set_self hil
 refine ⟨(H.st_dk i X).st_sec b (ns.set k x), ?_, ⟨⟨a, b, ks, ns.set k x, hab, ?_, ?_, ?_, ek, ?_⟩, ?_, ?_, ?_⟩, rfl⟩
 ·
  unfold zX
  rw [hm, Option.bind_some, zD (zBH rfl), zD (zBH (by omega))]
  have e1 : s2aI 64 x = some x := by
   unfold s2aI
   rw [if_pos (by omega), List.take_of_length_le (by omega)]
  rw [e1, Option.bind_some]
  show Option.bind (H.dk[i]?) _ = _
  rw [hd, Option.bind_some, zBV (by show (d.wait.length + _) * _ ≤ _; simp; omega), Option.bind_some]
  show Option.bind (H.sec[b]?) _ = _
  rw [hn, Option.bind_some]
  unfold lenI
  rw [if_pos rfl, Option.bind_some, qY (by omega), Option.bind_some]
  show Option.bind (yS (some i) ((H.st_dk i X).st_sec b (ns.set k x))) _ = _
  rw [n_burn g1 hf]
  rfl
 · rw [g1, List.length_set]
 ·
  show (H.sec.set b _)[a]? = _
  rw [List.getElem?_set_ne (fun e => hab e.symm), hk1]
 · exact List.getElem?_set_self hbl
 ·
  show _ = d.now.set k x
  rw [List.map_set, en, zIy hx]
 ·
  show d.kept.length = (d.now.set k x).length
  rw [List.length_set, h4]
 ·
  intro w hw
  show 0 ≤ w.n_ ∧ w.n_ < ((d.now.set k x).length : Int) ∧ _
  rw [List.length_set]
  rcases List.mem_append.1 hw with hw | hw
  · exact h5 w hw
  ·
   rw [List.mem_singleton.1 hw]
   exact ⟨by show (0 : Int) ≤ (k : Int); omega, by show (k : Int) < _; omega, hx⟩
 ·
  show d.now.set k x = apw d.kept (d.wait ++ [⟨k, x⟩])
  rw [zG5, ← h6]
  rfl
theorem zGT {a b : Nat} (hab : a ≠ b) {X : zH} {L : Nat} (hXk : X.kept_ = (a, L)) (hw : ∀ w ∈ X.wait_, 0 ≤ w.n_ ∧ w.n_ < (L : Int) ∧ w.b_.length = 64) (hwl : X.wait_.length < 4611686018427387904) (i : Nat) (ns : List (List UInt8)) : ∀ (n j : Nat) (H : Hp) (ks : List (List UInt8)), j ≤ X.wait_.length → X.wait_.length - j < n → H.dk[i]? = some X → H.sec[a]? = some ks → H.sec[b]? = some ns → ks.length = L →
  ∃ H' ks', zAJ X i (some i) n (j : Int) H = some (0, H') ∧ H'.dk[i]? = some ⟨X.kept_, X.now_, [], X.fuse_, X.off_, X.lives_⟩ ∧ H'.sec[a]? = some ks' ∧ H'.sec[b]? = some ns ∧ ks'.map pad = apw (ks.map pad) (X.wait_.drop j) ∧ H'.lg = H.lg ∧ ks'.length = L
 | 0, j, _, _, _, h, _, _, _, _ => by omega
 | n + 1, j, H, ks, hj, h, hd, hk, hn, hL => by
  unfold zAJ
  by_cases hlt : j < X.wait_.length
  ·
   obtain ⟨h1, h2, h3⟩ := hw _ (List.getElem_mem hlt)
   have hal : a < H.sec.length := (List.getElem?_eq_some_iff.1 hk).1
   rw [zE (qK (by omega)), qY hlt, Option.bind_some]
   show ∃ H' ks', Option.bind (H.dk[i]?) _ = _ ∧ _
   rw [hd, Option.bind_some]
   have e1 : Hp.ge_sec H X.kept_.1 = some ks := by rw [hXk]; exact hk
   rw [e1, Option.bind_some]
   have e2 : lenI ks.length X.kept_.2 = some () := by
    unfold lenI
    rw [hXk, if_pos hL]
   rw [e2, Option.bind_some]
   have e3 : idx ks X.wait_[j].n_ = some (ks[X.wait_[j].n_.toNat]'(by omega)) := by
    have := qY (l := ks) (i := X.wait_[j].n_.toNat) (by omega)
    rwa [Int.toNat_of_nonneg h1] at this
   rw [e3, Option.bind_some, yK (by omega)]
   have hk' : (H.st_sec X.kept_.1 (ks.set X.wait_[j].n_.toNat X.wait_[j].b_)).sec[a]? = some (ks.set X.wait_[j].n_.toNat X.wait_[j].b_) := by
    rw [hXk]
    exact List.getElem?_set_self hal
   have hn' : (H.st_sec X.kept_.1 (ks.set X.wait_[j].n_.toNat X.wait_[j].b_)).sec[b]? = some ns := by
    rw [hXk]
    show (H.sec.set a _)[b]? = _
    rw [List.getElem?_set_ne hab, hn]
   obtain ⟨H', ks', g1, g2, g3, g4, g5, g6, g7⟩ := zGT hab hXk hw hwl i ns n (j + 1) (H.st_sec X.kept_.1 (ks.set X.wait_[j].n_.toNat X.wait_[j].b_)) _ (by omega) (by omega) (show _ from hd) hk' hn' (by rw [List.length_set, hL])
   refine ⟨H', ks', g1, g2, g3, g4, ?_, g6, g7⟩
   rw [g5, List.drop_eq_getElem_cons hlt, List.map_set, zIy h3]
   rfl
  ·
   have e : j = X.wait_.length := by omega
   subst e
   rw [zD (zZ (by omega))]
   unfold zA3
   show ∃ H' ks', Option.bind (H.dk[i]?) _ = _ ∧ _
   rw [hd, Option.bind_some]
   refine ⟨_, ks, rfl, ?_, hk, hn, ?_, rfl, hL⟩
   · exact List.getElem?_set_self (List.getElem?_eq_some_iff.1 hd).1
   ·
    rw [List.drop_length]
    rfl
theorem n_Flush (h : DIn H i d) (ho : d.off = false) (hf : d.fuse < 0) (h0 : 0 < d.now.length) (hw : d.wait.length < 1000000) :
  ∃ H', qD (some i) H = some (0, H') ∧ DIn H' i { d with kept := d.now, wait := [] } ∧ H'.lg = H.lg := by
 have hm := n_may h ho h0
 obtain ⟨⟨a, b, ks, ns, hab, hd, hk1, hn, ek, en⟩, h4, h5, h6⟩ := h
 have hl : ns.length = d.now.length := by rw [← en, List.length_map]
 have hl2 : ks.length = d.kept.length := by rw [← ek, List.length_map]
 unfold qD
 rw [show ((0 : Nat) : Int) = 0 from rfl] at hm
 rw [hm, Option.bind_some, zD (zBH rfl), n_burn hd hf, Option.bind_some, zD rfl]
 show ∃ H', Option.bind (H.dk[i]?) _ = _ ∧ _
 rw [hd, Option.bind_some]
 obtain ⟨H', ks', g1, g2, g3, g4, g5, g6, g7⟩ := zGT hab (X := ⟨(a, ks.length), (b, ns.length), d.wait, d.fuse, d.off, d.lives⟩) (L := ks.length) rfl (fun w hw => by have := h5 w hw; exact ⟨this.1, by omega, this.2.2⟩) (by show d.wait.length < _; omega) i ns (d.wait.length + 1) 0 H ks (Nat.zero_le _) (by show d.wait.length - 0 < _; omega) hd hk1 hn rfl
 have e : ks'.map pad = d.now := by
  rw [g5, ek, h6]
  rfl
 exact ⟨H', g1, ⟨⟨a, b, ks', ns, hab, by rw [g2, g7], g3, g4, e, en⟩, rfl, fun w hw => absurd hw List.not_mem_nil, rfl⟩, g6⟩
theorem n_New {H : Hp} {n : Nat} (h1 : 1 ≤ n) (h2 : n ≤ 16384) : ∃ H', zCl (n : Int) H = some (some H.dk.length, 0, H') ∧ DIn H' H.dk.length ⟨List.replicate n (List.replicate 64 0), List.replicate n (List.replicate 64 0), [], -1, false, 0⟩ ∧ H'.lg = H.lg := by
 have e : mkI 64 (n : Int) = some n := by
  unfold mkI
  rw [if_pos ⟨by omega, by omega, by omega⟩, Int.toNat_natCast]
 have hp : (List.replicate n ([] : List UInt8)).map pad = List.replicate n (List.replicate 64 0) := by
  rw [List.map_replicate]
  rfl
 unfold zCl
 rw [zD (zZ (by omega)), zD (zZ (by omega)), e, Option.bind_some, Option.bind_some]
 refine ⟨_, rfl, ⟨⟨H.sec.length, H.sec.length + 1, List.replicate n [], List.replicate n [], by omega, ?_, ?_, ?_, hp, hp⟩, rfl, fun w hw => absurd hw List.not_mem_nil, rfl⟩, rfl⟩
 ·
  show (H.dk ++ [_])[H.dk.length]? = _
  simp [Hp.ln_sec, Hp.nw_sec]
 ·
  show (H.sec ++ [List.replicate n []] ++ [List.replicate n []])[H.sec.length]? = _
  simp
 ·
  show (H.sec ++ [List.replicate n []] ++ [List.replicate n []])[H.sec.length + 1]? = _
  simp
end
end Go.Proofs.YtjomnccladjpgaaGreat
