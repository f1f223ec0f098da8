/-
  Texts joined: see the remark at the head of each part.
-/
import Derived.Test.YtjomnccladjpgaaD11
import Derived.Test.YtjomnccladjpgaaD20
set_option linter.unusedVariables false
set_option linter.unusedSimpArgs false
/-
 Plain: the bytes of an index's entries, and what the document says of them.
-/
namespace Go.Proofs.Ytjomnccladjpgaa
open Go Go.RowKit
set_option linter.unusedVariables false
set_option linter.unusedSimpArgs false
theorem U8_nat {n : Nat} (h : n < 256) : U8 (n : Int) = UInt8.ofNat n := by
 unfold U8
 congr 1
 omega
theorem ofBE_le (x y : List UInt8) : ofBE x ≤ ofBE (x ++ y) := by
 unfold ofBE
 rw [List.foldl_append]
 generalize List.foldl (fun x c => x * 256 + c.toNat) 0 x = a
 induction y generalizing a with
 | nil => exact Nat.le_refl _
 | cons c r ih => exact Nat.le_trans (by omega) (ih (a * 256 + UInt8.toNat c))
theorem zFw (b : List UInt8) (hb : b.length ≤ 8) : ∀ (n i : Nat), i ≤ b.length → b.length - i < n → ofBE (b.take i) ≤ 4611686018427387904 → zBW b n (ofBE (b.take i) : Int) (i : Int) = some (if 4611686018427387904 < ofBE b then (0, 11) else ((ofBE b : Int), 0))
 | 0, i, _, h, _ => by omega
 | n + 1, i, hi, h, ho => by
  unfold zBW
  by_cases hlt : i < b.length
  ·
   rw [zX (zAe (by omega)), zAj hlt, Option.bind_some]
   have ht : ofBE (b.take (i + 1)) = ofBE (b.take i) * 256 + b[i].toNat := by rw [← List.take_append_getElem hlt, zFe]
   have hm : ofBE (b.take (i + 1)) ≤ ofBE b := by
    have := ofBE_le (b.take (i + 1)) (b.drop (i + 1))
    rwa [List.take_append_drop] at this
   have hc := b[i].toNat_lt
   have hgo : ofBE (b.take (i + 1)) ≤ 4611686018427387904 → ∀ y, zDd (zBW b n) (ofBE (b.take i) : Int) b[i] (i : Int) y = some (if 4611686018427387904 < ofBE b then (0, 11) else ((ofBE b : Int), 0)) := by
    intro hle y
    unfold zDd
    rw [zAI (by omega), zBe (z := 256 * (ofBE (b.take i) : Int)) (by omega) (by omega), zBe (by omega) (by omega)]
    rw [show (256 * (ofBE (b.take i) : Int) + (b[i].toNat : Int)) = ((ofBE (b.take (i + 1)) : Nat) : Int) by rw [ht]; omega]
    exact zFw b hb n (i + 1) (by omega) (by omega) hle
   by_cases h1 : 18014398509481984 < ofBE (b.take i)
   · rw [zX (zAe (by omega)), if_pos (by omega)]
   ·
    rw [zG (yY (by omega))]
    by_cases h2 : ofBE (b.take i) = 18014398509481984
    ·
     rw [zX (ieq_t (by omega))]
     by_cases h3 : 0 < b[i].toNat
     · rw [zX (zAe (by omega)), if_pos (by omega)]
     ·
      rw [zG (yY (by omega))]
      exact hgo (by omega) _
    ·
     rw [zG (zDn (by omega))]
     exact hgo (by omega) _
  ·
   have e : i = b.length := by omega
   subst e
   rw [zG (yY (by omega))]
   rw [List.take_length] at ho ⊢
   rw [if_neg (by omega)]
   rfl
theorem n_R01_Get (b : List UInt8) : zGk b = some (getN b, getE b) := by
 unfold zGk getN getE
 by_cases h0 : b.length = 0
 · rw [zX (ieq_t (by omega)), if_pos (.inl h0), if_pos h0]
 ·
  rw [zG (zDn (by omega)), if_neg h0]
  by_cases h8 : 8 < b.length
  · rw [zX (zAe (by omega)), if_pos (.inr (.inl h8)), if_pos h8]
  ·
   rw [zG (yY (by omega)), if_neg h8]
   have h := zFw b (by omega) (b.length + 1) 0 (by omega) (by omega) (by simp [ofBE])
   have e : zBW b (b.length + 1) 0 0 = zBW b (b.length + 1) ((ofBE (b.take 0) : Nat) : Int) ((0 : Nat) : Int) := rfl
   rw [e, h]
   by_cases hx : 4611686018427387904 < ofBE b
   · rw [if_pos hx, if_pos hx, if_pos (.inr (.inr hx))]
   · rw [if_neg hx, if_neg hx, if_neg (by omega)]
theorem zFx (k : Nat) (hk : k ≤ 8) : ∀ (n i m : Nat) (out : List UInt8), i ≤ k → k - i < n → out.length = i → m ≤ 4611686018427387904 → zCx (k : Int) n (m : Int) out (i : Int) = some (if 0 < m / 256 ^ (k - i) then ([], 2) else (out ++ le (k - i) m, 0))
 | 0, i, m, out, _, h, _, _ => by omega
 | n + 1, i, m, out, hi, h, ho, hm => by
  unfold zCx
  by_cases hlt : i < k
  ·
   rw [zX (zAe (by omega)), zFA (by simp; omega), Option.bind_some, zAI (by omega)]
   have e1 : Int.tdiv (m : Int) 256 = ((m / 256 : Nat) : Int) := rfl
   have e2 : Int.tmod (m : Int) 256 = ((m % 256 : Nat) : Int) := rfl
   rw [e1, e2, zBe (by omega) (by omega), U8_nat (by omega), zFx k hk n (i + 1) (m / 256) _ (by omega) (by omega) (by simp [ho]) (by omega)]
   obtain ⟨j, hj⟩ : ∃ j, k - i = j + 1 := ⟨k - i - 1, by omega⟩
   rw [show k - (i + 1) = j by omega, hj, Nat.div_div_eq_div_mul, ← Nat.pow_succ', le]
   simp
  ·
   have e : k - i = 0 := by omega
   rw [zG (yY (by omega)), e]
   unfold zFz
   by_cases h0 : 0 < m
   · rw [zX (zAe (by omega)), if_pos (by simpa using h0)]
   ·
    rw [zG (yY (by omega)), if_neg (by simpa using h0)]
    simp [le]
theorem zEf (b : List UInt8) (hb : b.length ≤ 4611686018427387904) : ∀ (n i : Nat) (out : List UInt8), i ≤ b.length → i < n → out.length + i ≤ 1000000000 → zCf b n out ((i : Int) - 1) = some (out ++ (b.take i).reverse)
 | 0, i, out, _, h, _ => by omega
 | n + 1, i, out, hi, h, ho => by
  unfold zCf
  cases i with
  | zero =>
   rw [zG (yY (by omega))]
   simp
  | succ i =>
   rw [zX (zAe (by omega)), show ((i + 1 : Nat) : Int) - 1 = (i : Int) by omega, zAj (by omega), Option.bind_some, zFA (by simp; omega), Option.bind_some, zBe (by omega) (by omega),
    zEf b hb n i _ (by omega) (by omega) (by simp; omega), ← List.take_append_getElem (by omega : i < b.length), List.reverse_append]
   simp
theorem n_R01_Put {n k : Nat} (h : n < 256 ^ k) (h1 : 1 ≤ k) (h8 : k ≤ 8) (hn : n ≤ 4611686018427387904) : zGI (n : Int) (k : Int) = some (be k n, 0) := by
 unfold zGI zIC
 rw [zG (yY (by omega)), zG (yY (by omega)), zG (yY (by omega)), zG (yY (by omega)), Int.toNat_natCast]
 have hl := zFx k h8 (k + 1) 0 n [] (by omega) (by omega) rfl hn
 rw [Nat.sub_zero, if_neg (by rw [Nat.div_eq_of_lt h]; omega)] at hl
 show Option.bind (zCx (k : Int) (k + 1) (n : Int) [] ((0 : Nat) : Int)) _ = _
 rw [hl, Option.bind_some]
 show Option.bind (zEn (le k n)) _ = _
 unfold zEn
 rw [zA5, zBe (by omega) (by omega)]
 have ht := zEf (le k n) (by rw [zA5]; omega) (Int.toNat ((k : Int) - 1) + 2) k [] (by rw [zA5]; exact Nat.le_refl _) (by omega) (by simp; omega)
 rw [ht, Option.bind_some, show (le k n).take k = le k n from List.take_of_length_le (by rw [zA5]; exact Nat.le_refl _)]
 rfl
theorem n_number {n k : Nat} (h : n < 256 ^ k) (h1 : 1 ≤ k) (h8 : k ≤ 8) (hn : n ≤ 4611686018427387904) : zDc (n : Int) (k : Int) = some (be k n) := by
 unfold zDc
 rw [n_R01_Put h h1 h8 hn]
 rfl
theorem n_get {b : List UInt8} (h : b.length = 4) : zAS b = some (ofBE b : Int) := by
 unfold zAS
 rw [zJx, Option.bind_some, (zJS h).1, (zJS h).2]
 rfl
theorem n_get_any (b : List UInt8) : zAS b = some (if getE b = 0 then getN b else -1) := by
 unfold zAS
 rw [zJx, Option.bind_some]
 show (bif getE b != 0 then some (-1) else some (getN b)) = _
 by_cases h : getE b = 0
 · rw [zG (zCT h), if_pos h]
 · rw [zX (ine_t h), if_neg h]
def okc (c : UInt8) : Bool := decide (33 ≤ c.toNat) && decide (c.toNat ≤ 126)
def keyB (k : List UInt8) : Bool := decide (1 ≤ k.length) && (decide (k.length ≤ 40) && k.all okc)
def bkt : Nat → List UInt8 → Nat
 | h, [] => h
 | h, c :: r => bkt ((31 * h + c.toNat) % 4294967296) r
def qS (k : List UInt8) : Nat := bkt 0 k % 64
theorem zCr (k : List UInt8) : qS k < 64 := Nat.mod_lt _ (by omega)
theorem u32_mod (n : Nat) : IntKind.u32.wrap (n : Int) = ((n % 4294967296 : Nat) : Int) := by
 simp [IntKind.wrap, IntKind.bits, IntKind.signed]
theorem zGL (k : List UInt8) (hk : k.length ≤ 1000) : ∀ (n i h : Nat), i ≤ k.length → k.length - i < n → h < 4294967296 → zAo k n (h : Int) (i : Int) = some (if (k.drop i).all okc then (((bkt h (k.drop i) % 64 : Nat) : Int), true) else (0, false))
 | 0, i, h, _, hn, _ => by omega
 | n + 1, i, h, hi, hn, hh => by
  unfold zAo
  by_cases hlt : i < k.length
  ·
   have hd : k.drop i = k[i] :: k.drop (i + 1) := List.drop_eq_getElem_cons hlt
   have hc := k[i].toNat_lt
   rw [zX (zAe (by omega)), zAj hlt, Option.bind_some, hd]
   by_cases h1 : k[i].toNat < 33
   ·
    have ho : okc k[i] = false := by
     unfold okc
     rw [yY (p := 33 ≤ k[i].toNat) (by omega), Bool.false_and]
    rw [zX (zAe (by omega)), List.all_cons, ho]
    rfl
   ·
    rw [zG (yY (by omega)), Option.bind_some]
    by_cases h2 : k[i].toNat > 126
    ·
     have ho : okc k[i] = false := by
      unfold okc
      rw [yY (p := k[i].toNat ≤ 126) (by omega), Bool.and_false]
     rw [zX (zAe (by omega)), List.all_cons, ho]
     rfl
    ·
     rw [zG (yY (by omega)), Option.bind_some, zAI (by omega)]
     have e : IntKind.u32.wrap (IntKind.u32.wrap (31 * (h : Int)) + (k[i].toNat : Int)) = (((31 * h + k[i].toNat) % 4294967296 : Nat) : Int) := by
      rw [show 31 * (h : Int) = ((31 * h : Nat) : Int) by omega, u32_mod, show (((31 * h % 4294967296 : Nat) : Int) + (k[i].toNat : Int)) = ((31 * h % 4294967296 + k[i].toNat : Nat) : Int) by omega, u32_mod]
      omega
     rw [e, zGL k hk n (i + 1) _ (by omega) (by omega) (Nat.mod_lt _ (by omega))]
     have ho : okc k[i] = true := by simp [okc]; omega
     rw [List.all_cons, ho, Bool.true_and]
     rfl
  ·
   rw [zG (yY (by omega)), List.drop_eq_nil_of_le (by omega)]
   unfold zCl
   rw [show Int.tmod (h : Int) 64 = ((h % 64 : Nat) : Int) from rfl, zBe (by omega) (by omega)]
   rfl
theorem zHR (k : List UInt8) : yQ k = some (if keyB k then ((qS k : Nat) : Int) else 0, keyB k) := by
 unfold yQ keyB
 by_cases h1 : k.length < 1
 ·
  rw [zX (zAe (by omega)), yY (p := 1 ≤ k.length) (by omega)]
  rfl
 ·
  rw [zG (yY (by omega)), zAe (p := 1 ≤ k.length) (by omega)]
  by_cases h2 : k.length > 40
  ·
   rw [zX (zAe (by omega)), yY (p := k.length ≤ 40) (by omega)]
   rfl
  ·
   rw [zG (yY (by omega)), zAe (p := k.length ≤ 40) (by omega)]
   have := zGL k (by omega) (k.length + 1) 0 0 (by omega) (by omega) (by omega)
   rw [List.drop_zero] at this
   show zAo k (k.length + 1) ((0 : Nat) : Int) ((0 : Nat) : Int) = _
   rw [this]
   cases k.all okc <;> rfl
theorem n_Key (k : List UInt8) : zFO k = some (keyB k) := by
 unfold zFO keyB
 by_cases h1 : k.length < 1
 ·
  rw [zX (zAe (by omega)), yY (p := 1 ≤ k.length) (by omega)]
  rfl
 ·
  rw [zG (yY (by omega)), zAe (p := 1 ≤ k.length) (by omega)]
  by_cases h2 : k.length > 40
  ·
   rw [zX (zAe (by omega)), yY (p := k.length ≤ 40) (by omega)]
   rfl
  ·
   rw [zG (yY (by omega)), zAe (p := k.length ≤ 40) (by omega)]
   have key := zG7 (len := k.length) (zCN k) (fun j => ∀ hj : j < k.length, okc k[j] = true) True (fun n i hi => by
    refine ⟨okc k[i], ⟨fun h _ => h, fun h => h hi⟩, ?_⟩
    rw [zCN, zX (zAe (by omega)), zAj hi, Option.bind_some, Option.bind_some, zAI (by omega)]
    by_cases h1 : k[i].toNat < 33
    · rw [zX (zAe (by omega)), zG (by simp [okc]; omega)]
    ·
     rw [zG (yY (by omega))]
     by_cases h2 : k[i].toNat > 126
     · rw [zX (zAe (by omega)), zG (by simp [okc]; omega)]
     · rw [zG (yY (by omega)), zX (c := okc k[i]) (by simp [okc]; omega)]) (fun n => by
    rw [zCN, zG (yY (by omega))]
    exact ⟨true, rfl, ⟨fun _ => trivial, fun _ => rfl⟩⟩) (k.length + 1) 0 (by omega) (by omega)
   have hx := (key.iff (q := k.all okc = true) ⟨fun h => List.all_eq_true.2 fun x hx => by
    obtain ⟨j, hj, rfl⟩ := List.getElem_of_mem hx
    exact h.1 j (by omega) hj hj, fun h => ⟨fun j _ hj _ => List.all_eq_true.1 h _ (List.getElem_mem hj), trivial⟩⟩).bool
   exact hx
def mayB (e : zA) : Bool := keyB e.Key && (decide (e.Version ≥ 0) && (decide (e.Version ≤ 4611686018427387904) && (decide (e.Len ≥ 0) && (decide (e.Len ≤ 1024) && (decide (e.First ≥ 0) && decide (e.First ≤ 16384))))))
theorem n_mayk (x : Bool) (e : zA) : (bif x then (bif (decide (e.Version ≥ 0)) then (bif (decide (e.Version ≤ 4611686018427387904)) then (bif (decide (e.Len ≥ 0)) then (bif (decide (e.Len ≤ 1024)) then (bif (decide (e.First ≥ 0)) then (some (decide (e.First ≤ 16384))) else (some false)) else (some false)) else (some false)) else (some false)) else (some false)) else (some false)) = some (x && (decide (e.Version ≥ 0) && (decide (e.Version ≤ 4611686018427387904) && (decide (e.Len ≥ 0) && (decide (e.Len ≤ 1024) && (decide (e.First ≥ 0) && decide (e.First ≤ 16384))))))) := by
 cases x <;> cases decide (e.Version ≥ 0) <;> cases decide (e.Version ≤ 4611686018427387904) <;> cases decide (e.Len ≥ 0) <;> cases decide (e.Len ≤ 1024) <;> cases decide (e.First ≥ 0) <;> rfl
theorem zHQ (e : zA) : zCq e = some (mayB e) := by
 unfold zCq
 rw [zHR, Option.bind_some]
 exact n_mayk (keyB e.Key) e
theorem zJL (e : zA) : zDz e = some (mayB e) := by
 unfold zDz
 rw [n_Key, Option.bind_some]
 exact n_mayk (keyB e.Key) e
theorem zDr {e : zA} (h : mayB e = true) : keyB e.Key = true ∧ 0 ≤ e.Version ∧ e.Version ≤ 4611686018427387904 ∧ 0 ≤ e.Len ∧ e.Len ≤ 1024 ∧ 0 ≤ e.First ∧ e.First ≤ 16384 := by
 simp only [mayB, Bool.and_eq_true, decide_eq_true_eq] at h
 obtain ⟨h1, h2, h3, h4, h5, h6, h7⟩ := h
 exact ⟨h1, h2, h3, h4, h5, h6, h7⟩
theorem zEX {k : List UInt8} (h : keyB k = true) : 1 ≤ k.length ∧ k.length ≤ 40 := by
 simp only [keyB, Bool.and_eq_true, decide_eq_true_eq] at h
 exact ⟨h.1, h.2.1⟩
def zAp (e : zA) (n : Nat) : List UInt8 := be 4 n ++ (be 8 e.Version.toNat ++ (be 4 e.Len.toNat ++ (be 4 e.First.toNat ++ (UInt8.ofNat e.Key.length :: (e.Key ++ List.replicate (43 - e.Key.length) 0)))))
theorem zDU {e : zA} {n : Nat} (h : e.Key.length ≤ 43) : (zAp e n).length = 64 := by
 simp [zAp, zR]
 omega
theorem zJA {A B : List UInt8} {o k n : Nat} {z : Int} {m : Nat} (hz : z = n) (hA : A.length = o) (hk : k ≤ m) (hn : n < 256 ^ k) (h1 : 1 ≤ k) (h8 : k ≤ 8) (hm : n ≤ 4611686018427387904) (hB : B = A ++ List.replicate m 0) : yO B o k z = some ((A ++ be k n) ++ List.replicate (m - k) 0) := by
 subst hB hz hA
 have := zIL (p := A ++ List.replicate m 0) (o := A.length) (k := k) (n := n) (by simp; omega) hn h1 h8 hm
 rw [List.take_left, ← List.drop_drop, List.drop_left, List.drop_replicate, ← List.append_assoc] at this
 exact this
theorem zE8 {a b : Nat} (h : a = b) : lenI a b = some () := by unfold lenI; rw [if_pos h]
theorem zEi {e : zA} {n : Nat} (he : mayB e = true) (hn : n < 4294967296) : yR ⟨e, (n : Int)⟩ = some (zAp e n) := by
 obtain ⟨h1, h2, h3, h4, h5, h6, h7⟩ := zDr he
 obtain ⟨k1, k2⟩ := zEX h1
 have e1 := zJA (A := []) (B := List.replicate 64 (0 : UInt8)) (o := 0) (k := 4) (n := n) (z := (n : Int)) (m := 64) rfl rfl (by omega) (by omega) (by omega) (by omega) (by omega) rfl
 have e2 := zJA (A := [] ++ be 4 n) (o := 4) (k := 8) (n := e.Version.toNat) (z := e.Version) (m := 60) (by omega) (by simp [zR]) (by omega) (by omega) (by omega) (by omega) (by omega) rfl
 have e3 := zJA (A := ([] ++ be 4 n) ++ be 8 e.Version.toNat) (o := 12) (k := 4) (n := e.Len.toNat) (z := e.Len) (m := 52) (by omega) (by simp [zR]) (by omega) (by omega) (by omega) (by omega) (by omega) rfl
 have e4 := zJA (A := (([] ++ be 4 n) ++ be 8 e.Version.toNat) ++ be 4 e.Len.toNat) (o := 16) (k := 4) (n := e.First.toNat) (z := e.First) (m := 48) (by omega) (by simp [zR]) (by omega) (by omega) (by omega) (by omega) (by omega) rfl
 generalize hA : (([] ++ be 4 n) ++ be 8 e.Version.toNat) ++ be 4 e.Len.toNat ++ be 4 e.First.toNat = A at e4
 have hAl : A.length = 20 := by rw [← hA]; simp [zR]
 have hU : U8 (e.Key.length : Int) = UInt8.ofNat e.Key.length := by
  unfold U8
  congr 1
  omega
 have hset : (A ++ List.replicate 44 (0 : UInt8)).set 20 (U8 (e.Key.length : Int)) = (A ++ [UInt8.ofNat e.Key.length]) ++ List.replicate 43 0 := by
  rw [hU, List.set_append_right _ _ (by omega), hAl, List.append_assoc]
  rfl
 have hcp : zIo ((A ++ [UInt8.ofNat e.Key.length]) ++ List.replicate 43 (0 : UInt8)) 21 43 e.Key = some (zAp e n) := by
  unfold zIo cpyI
  rw [if_pos (by omega), if_pos (by simp; omega)]
  congr 1
  unfold cpyL
  have hl : (A ++ [UInt8.ofNat e.Key.length]).length = 21 := by simp; omega
  rw [Nat.min_eq_left (by omega), List.take_left' hl, List.take_of_length_le (l := e.Key) (by omega), ← List.drop_drop, List.drop_left' hl, List.drop_replicate]
  unfold zAp
  rw [← hA]
  simp
 unfold yR
 show Option.bind (yO (List.replicate 64 (0 : UInt8)) 0 4 (n : Int)) _ = _
 rw [e1, Option.bind_some, zE8 (by simp [zR]), Option.bind_some]
 show Option.bind (yO _ 4 8 e.Version) _ = _
 rw [e2, Option.bind_some, zE8 (by simp [zR]), Option.bind_some]
 show Option.bind (yO _ 12 4 e.Len) _ = _
 rw [e3, Option.bind_some, zE8 (by simp [zR]), Option.bind_some]
 show Option.bind (yO _ 16 4 e.First) _ = _
 rw [e4, Option.bind_some, zE8 (by simp [zR, hAl]), Option.bind_some]
 show Option.bind (idx (A ++ List.replicate 44 (0 : UInt8)) ((20 : Nat) : Int)) _ = _
 rw [zAj (by simp <;> omega), Option.bind_some]
 show Option.bind (zIo ((A ++ List.replicate 44 (0 : UInt8)).set 20 (U8 (e.Key.length : Int))) 21 43 e.Key) _ = _
 rw [hset, hcp, Option.bind_some, zE8 (by rw [zDU (by omega)]; simp <;> omega)]
 rfl
def fE (b : List UInt8) : zA := ⟨(b.drop 21).take (b.getD 20 0).toNat, getN ((b.drop 4).take 8), (ofBE ((b.drop 12).take 4) : Int), (ofBE ((b.drop 16).take 4) : Int)⟩
def fN (b : List UInt8) : Nat := ofBE ((b.drop 0).take 4)
instance : DecidableEq (List UInt8) := inferInstance
def ent (b : List UInt8) : Option (zA × Nat) := if getE ((b.drop 4).take 8) = 0 ∧ (b.getD 20 0).toNat ≤ 40 ∧ mayB (fE b) = true ∧ zAp (fE b) (fN b) = b then some (fE b, fN b) else none
theorem fN_lt (b : List UInt8) : fN b < 4294967296 := by
 unfold fN
 have := zGX _ ((b.drop 0).take 4) rfl
 have hl : ((b.drop 0).take 4).length ≤ 4 := by rw [List.length_take]; omega
 exact Nat.lt_of_lt_of_le this (Nat.pow_le_pow_right (by omega) hl)
theorem ent_some {b : List UInt8} {e : zA} {n : Nat} (h : ent b = some (e, n)) : getE ((b.drop 4).take 8) = 0 ∧ (b.getD 20 0).toNat ≤ 40 ∧ mayB e = true ∧ zAp e n = b ∧ e = fE b ∧ n = fN b ∧ n < 4294967296 := by
 unfold ent at h
 split at h
 ·
  rename_i hc
  injection h with h
  injection h with h1 h2
  subst h1 h2
  exact ⟨hc.1, hc.2.1, hc.2.2.1, hc.2.2.2, rfl, rfl, fN_lt b⟩
 · cases h
theorem idx_getD {b : List UInt8} {i : Nat} (h : i < b.length) : idx b (i : Int) = some (b.getD i 0) := by
 rw [zAj h, List.getD_eq_getElem?_getD, List.getElem?_eq_getElem h]
 rfl
theorem n_read {b : List UInt8} (hb : b.length = 64) : ∃ x, zCR b = some (x, (ent b).isSome) ∧ ∀ e (n : Nat), ent b = some (e, n) → x = ⟨e, n⟩ := by
  have c1 : cutI b 0 4 = some ((b.drop 0).take 4) := zCg (lo := 0) (n := 4) (by omega) 4 rfl
  have c2 : cutI b 4 12 = some ((b.drop 4).take 8) := zCg (lo := 4) (n := 8) (by omega) 12 rfl
  have c3 : cutI b 12 16 = some ((b.drop 12).take 4) := zCg (lo := 12) (n := 4) (by omega) 16 rfl
  have c4 : cutI b 16 20 = some ((b.drop 16).take 4) := zCg (lo := 16) (n := 4) (by omega) 20 rfl
  have c5 : idx b 20 = some (b.getD 20 0) := idx_getD (i := 20) (by omega)
  have g1 : zAS ((b.drop 0).take 4) = some (fN b : Int) := n_get (by simp; omega)
  have g3 : zAS ((b.drop 12).take 4) = some (ofBE ((b.drop 12).take 4) : Int) := n_get (by simp; omega)
  have g4 : zAS ((b.drop 16).take 4) = some (ofBE ((b.drop 16).take 4) : Int) := n_get (by simp; omega)
  unfold zCR
  rw [c1, Option.bind_some, g1, Option.bind_some, c2, Option.bind_some, n_get_any, Option.bind_some, c3, Option.bind_some, g3, Option.bind_some, c4, Option.bind_some, g4, Option.bind_some, c5, Option.bind_some]
  by_cases h2 : (b.getD 20 0).toNat ≤ 40
  · rw [zX (zAe (by omega)), show cutI b 21 (wi (21 + ((b.getD 20 0).toNat : Int))) = some ((b.drop 21).take (b.getD 20 0).toNat) from by
      rw [zBe (by omega) (by omega)]
      exact zCg (lo := 21) (n := (b.getD 20 0).toNat) (by omega) _ (by omega), Option.bind_some]
    unfold zBw
    rw [zHQ, Option.bind_some]
    by_cases h1 : getE ((b.drop 4).take 8) = 0
    · rw [if_pos h1]
      show ∃ x, (bif mayB (fE b) then _ else _) = _ ∧ _
      by_cases h3 : mayB (fE b) = true
      · rw [zX h3]
        show ∃ x, Option.bind (yR ⟨fE b, (fN b : Int)⟩) _ = _ ∧ _
        rw [zEi h3 (fN_lt b), Option.bind_some, n_Equal _ _ (by rw [zDU (by have := zEX (zDr h3).1; omega)]; omega), Option.bind_some]
        refine ⟨⟨fE b, (fN b : Int)⟩, ?_, fun e' n h => ?_⟩
        · by_cases h4 : zAp (fE b) (fN b) = b
          · have : ent b = some (fE b, fN b) := if_pos ⟨h1, h2, h3, h4⟩
            rw [this, decide_eq_true h4]
            rfl
          · have : ent b = none := if_neg fun h => h4 h.2.2.2
            rw [this, decide_eq_false h4]
            rfl
        · obtain ⟨_, _, _, _, k1, k2, _⟩ := ent_some h
          rw [k1, k2]
      · have : ent b = none := if_neg fun h => h3 h.2.2.1
        rw [zG (by simpa using h3), this]
        exact ⟨_, rfl, fun _ _ h => by cases h⟩
    · have : ent b = none := if_neg fun h => h1 h.1
      rw [if_neg h1, this]
      have hm : ∀ (k : List UInt8) (u v : Int), mayB ⟨k, -1, u, v⟩ = false := fun k u v => by
        unfold mayB
        rw [yY (p := (-1 : Int) ≥ 0) (by omega), Bool.false_and, Bool.and_false]
      rw [hm]
      exact ⟨_, rfl, fun _ _ h => by cases h⟩
  · have : ent b = none := if_neg fun h => h2 h.2.1
    rw [zG (yY (by omega)), this]
    unfold zBw
    rw [zHQ, Option.bind_some]
    have hm : ∀ (u v w : Int), mayB ⟨[], u, v, w⟩ = false := fun u v w => rfl
    rw [hm]
    exact ⟨_, rfl, fun _ _ h => by cases h⟩
end Go.Proofs.Ytjomnccladjpgaa

/-
 Plain: an index' buckets, as the code and the document go through them.
-/
namespace Go.Proofs.Ytjomnccladjpgaa
open Go Go.RowKit
set_option linter.unusedVariables false
set_option linter.unusedSimpArgs false
def num (hs : List (List UInt8)) (h o : Nat) : Nat := ofBE (((hs.getD h []).drop o).take 4)
def wr4 (b : List UInt8) (o n : Nat) : List UInt8 := b.take o ++ (be 4 n ++ b.drop (o + 4))
theorem zGQ {b : List UInt8} {o n : Nat} (h : o + 4 ≤ b.length) : (wr4 b o n).length = b.length := by
 simp [wr4, zR]
 omega
def stp (hs : List (List UInt8)) (bk at_ : Nat) : Option (zA × Nat) := Option.bind hs[at_]? fun b => Option.bind (ent b) fun x => if qS x.1.Key = bk then some x else none
def chn (hs : List (List UInt8)) (bk : Nat) : Nat → Nat → List (Nat × zA) × Bool
 | 0, at_ => ([], at_ == 0)
 | n + 1, at_ => if at_ = 0 then ([], true) else match stp hs bk at_ with
  | none => ([], false)
  | some (e, nx) => ((at_, e) :: (chn hs bk n nx).1, (chn hs bk n nx).2)
theorem chn_some {hs : List (List UInt8)} {bk at_ nx n : Nat} {e : zA} (h0 : at_ ≠ 0) (h : stp hs bk at_ = some (e, nx)) : chn hs bk (n + 1) at_ = ((at_, e) :: (chn hs bk n nx).1, (chn hs bk n nx).2) := by
 conv => lhs; unfold chn
 rw [if_neg h0, h]
section
variable {hs : List (List UInt8)} (hw : ∀ r ∈ hs, r.length = 64) (hl : hs.length ≤ 16384)
include hw hl
omit hl in
theorem n_cut4 {h o : Nat} (hh : h < hs.length) (ho : o + 4 ≤ 64) : ∃ b, idx hs (h : Int) = some b ∧ hs[h]? = some b ∧ b.length = 64 ∧ cutI b (o : Int) (wi ((o : Int) + 4)) = some ((b.drop o).take 4) ∧ ofBE ((b.drop o).take 4) = num hs h o ∧ ((b.drop o).take 4).length = 4 := by
 have hb : hs[h]? = some hs[h] := List.getElem?_eq_getElem hh
 have h64 := hw hs[h] (List.getElem_mem hh)
 refine ⟨hs[h], zAj hh, hb, h64, ?_, ?_, by simp; omega⟩
 ·
  rw [zBe (by omega) (by omega)]
  exact zCg (by omega) _ (by omega)
 ·
  unfold num
  rw [List.getD_eq_getElem?_getD, hb]
  rfl
omit hl in
omit hl in
theorem zJj {h o p4 w : Nat} (hh : h < hs.length) (ho : o + 4 ≤ 64) (he : num hs h o = w) (hp : p4 < 4294967296) (f : Nat) : zCJ hs (w : Int) (p4 : Int) (f + 1) (h : Int) (o : Int) = some (hs.set h (wr4 (hs.getD h []) o p4)) := by
 obtain ⟨b, k1, k2, k3, k4, k5, k6⟩ := n_cut4 hw hh ho
 have hb : hs.getD h [] = b := by rw [List.getD_eq_getElem?_getD, k2]; rfl
 unfold zCJ
 rw [k1, Option.bind_some, k4, Option.bind_some, n_R01_Get, Option.bind_some, (zJS k6).1, k5, zX (ieq_t (by omega)), Option.bind_some]
 have hne : b.isEmpty = false := by cases b with | nil => simp at k3 | cons _ _ => rfl
 rw [hne, zG rfl, zFA (by rw [List.length_nil]; omega), Option.bind_some, List.nil_append]
 have ev : vcut b.length (o : Int) (wi ((o : Int) + 4)) = some () := by
  rw [zBe (by omega) (by omega)]
  unfold vcut
  rw [if_pos ⟨by omega, by omega, by omega⟩]
 rw [ev, Option.bind_some]
 have en := n_number (n := p4) (k := 4) (by omega) (by omega) (by omega) (by omega)
 show Option.bind (zDc (p4 : Int) ((4 : Nat) : Int)) _ = _
 rw [en, Option.bind_some, hne, zG rfl, zBe (by omega) (by omega), Int.toNat_natCast, show Int.toNat ((o : Int) + 4) - o = 4 by omega, show 0 + o * 1 = o by omega]
 have ec : cpyI b o 4 (be 4 p4) = some (wr4 b o p4) := by
  unfold cpyI
  rw [if_pos (by omega)]
  unfold cpyL wr4
  rw [zR, Nat.min_self, List.take_of_length_le (l := be 4 p4) (by rw [zR]; omega)]
 rw [ec, Option.bind_some, zE8 (zGQ (by omega)), Option.bind_some, Option.bind_some, hb, Int.toNat_natCast]
omit hl in
end
end Go.Proofs.Ytjomnccladjpgaa

/-
 Plain: what an index does, held against what the document says.
-/
namespace Go.Proofs.Ytjomnccladjpgaa
open Go Go.RowKit
set_option linter.unusedVariables false
set_option linter.unusedSimpArgs false
structure XIn (H : Hp) (x t tb : Nat) (hs : List (List UInt8)) (mp : List (Int × List UInt8)) : Prop where
 tn : TIn H t hs mp
 ix : H.ix[x]? = some ⟨some t, (tb : Int)⟩
 tbl : tb + 4 ≤ hs.length
section
variable {H : Hp} {x t tb : Nat} {hs : List (List UInt8)} {mp : List (Int × List UInt8)}
theorem n_TRead_r (h : TIn H t hs mp) {k : Nat} {r : List UInt8} (hr : hs[k]? = some r) : zBh (some t) (k : Int) H = some (r, 0) := by
 have ha := zHg h
 have hw := h.wide hr
 obtain ⟨⟨i, j, d, s, b, sl, us, com, m, h1, h2, h3, h4, h5⟩, h6, h7⟩ := h
 unfold zBh
 rw [ha, Option.bind_some, zG (zCT rfl)]
 show Option.bind (H.tx[t]?) _ = _
 rw [h2, Option.bind_some]
 show Option.bind (H.mp[m]?) _ = _
 rw [h3, Option.bind_some]
 rcases h5 k r hr with h8 | ⟨h8, h9⟩
 ·
  rw [h8, zX (by rfl)]
  show Option.bind (yB r) _ = _
  unfold yB
  rw [zFA (by rw [List.length_nil]; omega), Option.bind_some, List.nil_append]
  cases r with
  | nil => simp at hw
  | cons c r => rfl
 ·
  rw [h8, zG (by rfl)]
  show Option.bind (zBk (some j) (k : Int) H) _ = _
  rw [n_LRead h1 h9]
  rfl
theorem zJZ (h : XIn H x t tb hs mp) {k : Nat} {r : List UInt8} (hr : hs[k]? = some r) : qJ (some x) (k : Int) H = some (r, 0) := by
 unfold qJ
 show Option.bind (H.ix[x]?) _ = _
 rw [h.ix, Option.bind_some]
 show Option.bind (zCE (some t) (k : Int) H) _ = _
 rw [n_TRead h.tn hr]
 rfl
theorem zJ4 (h : XIn H x t tb hs mp) {k : Nat} {r : List UInt8} (hr : hs[k]? = some r) : zAP (some x) (k : Int) H = some (r, 0) := by
 unfold zAP
 show Option.bind (H.ix[x]?) _ = _
 rw [h.ix, Option.bind_some]
 show Option.bind (zBh (some t) (k : Int) H) _ = _
 rw [n_TRead_r h.tn hr]
 rfl
theorem zI2 (h : XIn H x t tb hs mp) {bk : Nat} (hb : bk < 64) : yL (some x) (bk : Int) H = some ⟨((tb + bk / 16 : Nat) : Int), ((4 * (bk % 16) : Nat) : Int)⟩ := by
 have := h.tbl
 have := h.tn.low
 unfold yL
 show Option.bind (H.ix[x]?) _ = _
 rw [h.ix, Option.bind_some]
 have e1 : wi ((tb : Int) + wi (Int.tdiv (bk : Int) 16)) = ((tb + bk / 16 : Nat) : Int) := by
  rw [show Int.tdiv (bk : Int) 16 = ((bk / 16 : Nat) : Int) from rfl, zBe (z := ((bk / 16 : Nat) : Int)) (by omega) (by omega), zBe (by omega) (by omega)]
  omega
 have e2 : wi (4 * Int.tmod (bk : Int) 16) = ((4 * (bk % 16) : Nat) : Int) := by
  rw [show Int.tmod (bk : Int) 16 = ((bk % 16 : Nat) : Int) from rfl, zBe (by omega) (by omega)]
  omega
 show some (zW.mk (wi ((tb : Int) + wi (Int.tdiv (bk : Int) 16))) (wi (4 * Int.tmod (bk : Int) 16))) = _
 rw [e1, e2]
theorem zIb (h : XIn H x t tb hs mp) {a o : Nat} (ha : a < hs.length) (ho : o + 4 ≤ 64) : yV (some x) ⟨(a : Int), (o : Int)⟩ H = some (((num hs a o : Nat) : Int), 0) := by
 obtain ⟨b, k1, k2, k3, k4, k5, k6⟩ := n_cut4 h.tn.row ha ho
 unfold yV
 show Option.bind (qJ (some x) (a : Int) H) _ = _
 rw [zJZ h k2, Option.bind_some, zG (zCT rfl)]
 show Option.bind (cutI b (o : Int) (wi ((o : Int) + 4))) _ = _
 rw [k4, Option.bind_some, n_get k6, Option.bind_some, k5]
def zJ3 (hs : List (List UInt8)) (bk : Nat) (key : List UInt8) (n at_ sh so : Nat) (res : Option (zW × Int × zQ × Int)) : Prop := match (chn hs bk n at_).1.find? (fun y => y.2.Key == key) with
  | none => res = some (⟨0, 0⟩, 0, ⟨⟨[], 0, 0, 0⟩, 0⟩, if (chn hs bk n at_).2 then 35 else 11)
  | some y => ∃ a o nx, res = some (⟨((a : Nat) : Int), ((o : Nat) : Int)⟩, (y.1 : Int), ⟨y.2, ((nx : Nat) : Int)⟩, 0) ∧ stp hs bk y.1 = some (y.2, nx) ∧ y.2.Key = key ∧ a < hs.length ∧ o + 4 ≤ 64 ∧ num hs a o = y.1 ∧
        ∀ (p4 : Nat), p4 < 4294967296 → ∀ f, n < f → zCJ hs (y.1 : Int) (p4 : Int) f (sh : Int) (so : Int) = some (hs.set a (wr4 (hs.getD a []) o p4))
theorem zJ3.none {bk : Nat} {key : List UInt8} {n at_ sh so : Nat} {b : Bool} (hc : chn hs bk n at_ = ([], b)) : zJ3 hs bk key n at_ sh so (some (⟨0, 0⟩, 0, ⟨⟨[], 0, 0, 0⟩, 0⟩, if b then 35 else 11)) := by
 unfold zJ3
 rw [hc]
 rfl
theorem zJ3.hit (hw : ∀ r ∈ hs, r.length = 64) {bk : Nat} {key : List UInt8} {n at_ sh so nx : Nat} {e : zA} (h0 : at_ ≠ 0) (hn : stp hs bk at_ = some (e, nx)) (hk : e.Key = key) (h1 : sh < hs.length) (h2 : so + 4 ≤ 64) (h3 : num hs sh so = at_) : zJ3 hs bk key (n + 1) at_ sh so (some (⟨(sh : Int), (so : Int)⟩, (at_ : Int), ⟨e, (nx : Int)⟩, 0)) := by
 unfold zJ3
 rw [chn_some h0 hn, List.find?_cons_of_pos (by simpa using hk)]
 refine ⟨sh, so, nx, rfl, hn, hk, h1, h2, h3, fun p4 hp g hg => ?_⟩
 obtain ⟨g, rfl⟩ : ∃ g', g = g' + 1 := ⟨g - 1, by omega⟩
 exact zJj hw h1 h2 h3 hp g
theorem zGz {key : List UInt8} (hk : keyB key = false) : yS (some x) key H = some (⟨0, 0⟩, 0, ⟨⟨[], 0, 0, 0⟩, 0⟩, 2) := by
 unfold yS
 rw [zHR, Option.bind_some, hk]
 rfl
theorem XIn.set_mp (h : XIn H x t tb hs mp) {H' : Hp} {hs' : List (List UInt8)} {mp' : List (Int × List UInt8)} (h' : TIn H' t hs' mp') (hi : H'.ix = H.ix) (hl : hs'.length = hs.length) : XIn H' x t tb hs' mp' := ⟨h', by rw [hi]; exact h.ix, by rw [hl]; exact h.tbl⟩
theorem n_xname (h : XIn H x t tb hs mp) {a o p : Nat} (ha : a < hs.length) (ho : o + 4 ≤ 64) (hp : p < 4294967296) :
  ∃ H' mp', zAa (some x) ⟨(a : Int), (o : Int)⟩ (p : Int) H = some (0, H') ∧ XIn H' x t tb (hs.set a (wr4 (hs.getD a []) o p)) mp' := by
 obtain ⟨b, k1, k2, k3, k4, k5, k6⟩ := n_cut4 h.tn.row ha ho
 have hb : hs.getD a [] = b := by rw [List.getD_eq_getElem?_getD, k2]; rfl
 obtain ⟨H', w1, w2, m, v, w3⟩ := zGE h.tn ha (x := wr4 b o p) (by rw [zGQ (by omega)]; exact k3)
 refine ⟨H', _, ?_, h.set_mp (by rw [hb]; exact w2) (by rw [w3]; rfl) (by rw [List.length_set])⟩
 unfold zAa
 show Option.bind (zAP (some x) (a : Int) H) _ = _
 rw [zJ4 h k2, Option.bind_some, zG (zCT rfl)]
 have ev : vcut b.length (o : Int) (wi ((o : Int) + 4)) = some () := by
  rw [zBe (by omega) (by omega)]
  unfold vcut
  rw [if_pos ⟨by omega, by omega, by omega⟩]
 have hne : b.isEmpty = false := by cases b with | nil => simp at k3 | cons _ _ => rfl
 show Option.bind (vcut b.length (o : Int) (wi ((o : Int) + 4))) _ = _
 rw [ev, Option.bind_some]
 show (bif b.isEmpty then none else _) = _
 rw [hne, zG rfl]
 have ep : yO b (0 + Int.toNat (o : Int) * 1) (Int.toNat (wi ((o : Int) + 4)) - Int.toNat (o : Int)) (p : Int) = some (wr4 b o p) := by
  rw [zBe (by omega) (by omega), Int.toNat_natCast, show Int.toNat ((o : Int) + 4) - o = 4 by omega, show 0 + o * 1 = o by omega]
  exact zIL (by omega) (by omega) (by omega) (by omega) (by omega)
 show Option.bind (yO b (0 + Int.toNat (o : Int) * 1) (Int.toNat (wi ((o : Int) + 4)) - Int.toNat (o : Int)) (p : Int)) _ = _
 rw [ep, Option.bind_some]
 show Option.bind (lenI (wr4 b o p).length b.length) _ = _
 rw [zE8 (zGQ (by omega)), Option.bind_some]
 show Option.bind (H.ix[x]?) _ = _
 rw [h.ix, Option.bind_some]
 show Option.bind (yZ (some t) (a : Int) (wr4 b o p) H) _ = _
 rw [w1]
 rfl
end
end Go.Proofs.Ytjomnccladjpgaa

/-
 Plain: put, set, drop and find are the document's.
-/
namespace Go.Proofs.Ytjomnccladjpgaa
open Go Go.RowKit
set_option linter.unusedVariables false
set_option linter.unusedSimpArgs false
section
variable {H : Hp} {x t tb : Nat} {hs : List (List UInt8)} {mp : List (Int × List UInt8)}
theorem zGY {k : List UInt8} (hk : keyB k = true) : yQ k = some (((qS k : Nat) : Int), true) := by
 rw [zHR, hk]
 rfl
end
end Go.Proofs.Ytjomnccladjpgaa

/-
 Plain: the chains of an index of twenty homes, told as lists; what is found in them.
-/
namespace Go.Proofs.Ytjomnccladjpgaa
open Go Go.RowKit
set_option linter.unusedVariables false
set_option linter.unusedSimpArgs false
theorem zD0 {k n : Nat} (h : n < 256 ^ k) : ofBE (be k n) = n := by rw [zHK, Nat.mod_eq_of_lt h]
theorem zHT {e : zA} {n : Nat} (he : mayB e = true) (hn : n < 4294967296) : ent (zAp e n) = some (e, n) := by
 obtain ⟨hk, v0, v1, l0, l1, f0, f1⟩ := zDr he
 obtain ⟨k1, k40⟩ := zEX hk
 have d0 : ((zAp e n).drop 0).take 4 = be 4 n := by unfold zAp; rw [List.drop_zero]; exact List.take_left' (zR _ _)
 have d4 : (zAp e n).drop 4 = be 8 e.Version.toNat ++ (be 4 e.Len.toNat ++ (be 4 e.First.toNat ++ (UInt8.ofNat e.Key.length :: (e.Key ++ List.replicate (43 - e.Key.length) 0)))) := by unfold zAp; exact List.drop_left' (zR _ _)
 have t4 : ((zAp e n).drop 4).take 8 = be 8 e.Version.toNat := by rw [d4]; exact List.take_left' (zR _ _)
 have d12 : (zAp e n).drop 12 = be 4 e.Len.toNat ++ (be 4 e.First.toNat ++ (UInt8.ofNat e.Key.length :: (e.Key ++ List.replicate (43 - e.Key.length) 0))) := by
  rw [show (12 : Nat) = 4 + 8 from rfl, ← List.drop_drop, d4]; exact List.drop_left' (zR _ _)
 have t12 : ((zAp e n).drop 12).take 4 = be 4 e.Len.toNat := by rw [d12]; exact List.take_left' (zR _ _)
 have d16 : (zAp e n).drop 16 = be 4 e.First.toNat ++ (UInt8.ofNat e.Key.length :: (e.Key ++ List.replicate (43 - e.Key.length) 0)) := by
  rw [show (16 : Nat) = 12 + 4 from rfl, ← List.drop_drop, d12]; exact List.drop_left' (zR _ _)
 have t16 : ((zAp e n).drop 16).take 4 = be 4 e.First.toNat := by rw [d16]; exact List.take_left' (zR _ _)
 have d20 : (zAp e n).drop 20 = UInt8.ofNat e.Key.length :: (e.Key ++ List.replicate (43 - e.Key.length) 0) := by
  rw [show (20 : Nat) = 16 + 4 from rfl, ← List.drop_drop, d16]; exact List.drop_left' (zR _ _)
 have g20 : (zAp e n).getD 20 0 = UInt8.ofNat e.Key.length := by
  have := congrArg (fun l : List UInt8 => l[0]?) d20
  simp only [List.getElem?_drop, Nat.add_zero, List.getElem?_cons_zero] at this
  rw [List.getD_eq_getElem?_getD, this]
  rfl
 have d21 : (zAp e n).drop 21 = e.Key ++ List.replicate (43 - e.Key.length) 0 := by
  rw [show (21 : Nat) = 20 + 1 from rfl, ← List.drop_drop, d20]; rfl
 have hkl : (UInt8.ofNat e.Key.length).toNat = e.Key.length := by rw [UInt8.toNat_ofNat']; exact Nat.mod_eq_of_lt (by omega)
 have hv : ofBE (be 8 e.Version.toNat) = e.Version.toNat := zD0 (by omega)
 have hL : ofBE (be 4 e.Len.toNat) = e.Len.toNat := zD0 (by omega)
 have hF : ofBE (be 4 e.First.toNat) = e.First.toNat := zD0 (by omega)
 have hN : ofBE (be 4 n) = n := zD0 (by omega)
 have gE : getE (be 8 e.Version.toNat) = 0 := by
  unfold getE
  rw [zR, hv, if_neg (by omega), if_neg (by omega), if_neg (by omega)]
 have gN : getN (be 8 e.Version.toNat) = e.Version := by
  unfold getN
  rw [zR, hv, if_neg (by omega)]
  omega
 have hfE : fE (zAp e n) = e := by
  unfold fE
  rw [g20, hkl, d21, t4, t12, t16, gN, hL, hF, List.take_left' rfl]
  obtain ⟨K, V, L, F⟩ := e
  simp only at l0 f0 ⊢
  rw [show ((L.toNat : Nat) : Int) = L by omega, show ((F.toNat : Nat) : Int) = F by omega]
 have hfN : fN (zAp e n) = n := by
  unfold fN
  rw [d0, hN]
 unfold ent
 rw [hfE, hfN, t4, g20, hkl, if_pos ⟨gE, k40, he, rfl⟩]
def hdC : List (Nat × zA) → Nat
 | [] => 0
 | x :: _ => x.1
def ChOk (hs : List (List UInt8)) (bk nx : Nat) : List (Nat × zA) → Prop
 | [] => True
 | x :: r => hs[x.1]? = some (zAp x.2 (hdC r)) ∧ mayB x.2 = true ∧ qS x.2.Key = bk ∧ 4 ≤ x.1 ∧ x.1 < nx ∧ ChOk hs bk nx r
theorem ChOk.hd_lt {hs : List (List UInt8)} {bk nx : Nat} {l : List (Nat × zA)} (h : ChOk hs bk nx l) : hdC l < nx ∨ l = [] := by
 cases l with
 | nil => exact .inr rfl
 | cons x r => exact .inl h.2.2.2.2.1
theorem ChOk.hd32 {hs : List (List UInt8)} {bk nx : Nat} {l : List (Nat × zA)} (h : ChOk hs bk nx l) (hn : nx ≤ 20) : hdC l < 4294967296 := by
 rcases h.hd_lt with h | h
 · omega
 · rw [h]; exact Nat.zero_lt_succ _
theorem ChOk.mem {hs : List (List UInt8)} {bk nx : Nat} : ∀ {l : List (Nat × zA)}, ChOk hs bk nx l → ∀ x ∈ l, mayB x.2 = true ∧ qS x.2.Key = bk ∧ 4 ≤ x.1 ∧ x.1 < nx ∧ ∃ n, hs[x.1]? = some (zAp x.2 n) ∧ (nx ≤ 20 → n < 4294967296)
 | y :: r, h, x, hx => by
  rcases List.mem_cons.1 hx with rfl | hx
  · exact ⟨h.2.1, h.2.2.1, h.2.2.2.1, h.2.2.2.2.1, _, h.1, fun hn => h.2.2.2.2.2.hd32 hn⟩
  · exact ChOk.mem h.2.2.2.2.2 x hx
theorem ChOk.up {hs : List (List UInt8)} {bk nx nx' : Nat} (hle : nx ≤ nx') : ∀ {l : List (Nat × zA)}, ChOk hs bk nx l → ChOk hs bk nx' l
 | [], _ => trivial
 | y :: r, h => ⟨h.1, h.2.1, h.2.2.1, h.2.2.2.1, Nat.lt_of_lt_of_le h.2.2.2.2.1 hle, ChOk.up hle h.2.2.2.2.2⟩
theorem ChOk.set {hs : List (List UInt8)} {bk nx a : Nat} {b : List UInt8} : ∀ {l : List (Nat × zA)}, ChOk hs bk nx l → (∀ x ∈ l, x.1 ≠ a) → ChOk (hs.set a b) bk nx l
 | [], _, _ => trivial
 | y :: r, h, hn => ⟨by rw [List.getElem?_set_ne (fun e => hn y (List.mem_cons_self ..) e.symm)]; exact h.1, h.2.1, h.2.2.1, h.2.2.2.1, h.2.2.2.2.1, ChOk.set h.2.2.2.2.2 fun x hx => hn x (List.mem_cons_of_mem _ hx)⟩
theorem ChOk.one {hs : List (List UInt8)} {bk bk' nx : Nat} {l l' : List (Nat × zA)} (hn : nx ≤ 20) (h : ChOk hs bk nx l) (h' : ChOk hs bk' nx l') {x y : Nat × zA} (hx : x ∈ l) (hy : y ∈ l') (e : x.1 = y.1) : x = y ∧ bk = bk' := by
 obtain ⟨a1, a2, _, _, n, a3, a4⟩ := h.mem x hx
 obtain ⟨b1, b2, _, _, n', b3, b4⟩ := h'.mem y hy
 rw [e, b3] at a3
 injection a3 with a3
 have h1 := zHT a1 (a4 hn)
 rw [← a3, zHT b1 (b4 hn)] at h1
 injection h1 with h1
 injection h1 with h1 _
 refine ⟨Prod.ext e h1.symm, ?_⟩
 rw [← a2, ← b2, h1]
def fndC (key : List UInt8) : Nat → Nat → List (Nat × zA) → Option ((Nat × Nat) × (Nat × zA) × Nat)
 | _, _, [] => none
 | sh, so, y :: r => if y.2.Key = key then some ((sh, so), y, hdC r) else fndC key y.1 0 r
def zFd (key : List UInt8) (sh so : Nat) (l : List (Nat × zA)) : zW × Int × zQ × Int := match fndC key sh so l with
 | none => (⟨0, 0⟩, 0, ⟨⟨[], 0, 0, 0⟩, 0⟩, 35)
 | some q => (⟨(q.1.1 : Int), (q.1.2 : Int)⟩, (q.2.1.1 : Int), ⟨q.2.1.2, (q.2.2 : Int)⟩, 0)
section
variable {H : Hp} {x t tb : Nat} {hs : List (List UInt8)} {mp : List (Int × List UInt8)}
theorem n_stepC (h : XIn H x t tb hs mp) {bk nx : Nat} (hnx : nx ≤ 20) {y : Nat × zA} {r : List (Nat × zA)} (hc : ChOk hs bk nx (y :: r)) :
  ∃ b, qJ (some x) (y.1 : Int) H = some (b, 0) ∧ zCR b = some (⟨y.2, (hdC r : Int)⟩, true) ∧ yQ y.2.Key = some ((bk : Int), true) ∧ y.1 < hs.length ∧ y.1 ≠ 0 := by
 obtain ⟨h1, h2, h3, h4, h5, h6⟩ := hc
 have hlt := (List.getElem?_eq_some_iff.1 h1).1
 have he := zHT h2 (h6.hd32 hnx)
 obtain ⟨z, k1, k2⟩ := n_read (h.tn.row _ (List.mem_of_getElem? h1))
 rw [k2 _ _ he, he] at k1
 refine ⟨_, zJZ h h1, k1, ?_, hlt, by omega⟩
 rw [zGY (zDr h2).1, h3]
theorem n_eachC (h : XIn H x t tb hs mp) {bk nx : Nat} (hnx : nx ≤ 20) (key : List UInt8) : ∀ (l : List (Nat × zA)) (fuel sh so cnt : Nat), ChOk hs bk nx l → cnt + l.length ≤ 16384 → l.length < fuel →
  yT (some x) H (bk : Int) (fun a0 a1 => zAY a0 a1 key) fuel (sh : Int) (so : Int) (hdC l : Int) (cnt : Int) = some (zFd key sh so l)
 | [], fuel + 1, sh, so, cnt, hc, hl, hf => by
  unfold yT
  rw [zX (by rfl)]
  rfl
 | y :: r, fuel + 1, sh, so, cnt, hc, hl, hf => by
  obtain ⟨b, k1, k2, k3, k4, k5⟩ := n_stepC h hnx hc
  rw [List.length_cons] at hl hf
  unfold yT
  show (bif ((y.1 : Int) == 0) then _ else Option.bind (qJ (some x) (y.1 : Int) H) _) = _
  rw [zG (zDn (by omega)), k1, Option.bind_some, zG (zCT rfl), k2, Option.bind_some]
  show Option.bind (yQ y.2.Key) _ = _
  rw [k3, Option.bind_some, zG (by rfl), zG (zCT rfl), zBe (z := (cnt : Int) + 1) (by omega) (by omega), zG (yY (by omega))]
  show (bif y.2.Key == key then some _ else _) = _
  unfold zFd fndC
  by_cases hk : y.2.Key = key
  ·
   rw [zX (by simpa using hk), if_pos hk]
   rfl
  ·
   rw [zG (by simpa using hk), if_neg hk]
   exact n_eachC h hnx key r fuel y.1 0 (cnt + 1) hc.2.2.2.2.2 (by omega) (by omega)
end
end Go.Proofs.Ytjomnccladjpgaa

/-
 Plain: the homes of an index while entries are put, set and dropped.
-/
namespace Go.Proofs.Ytjomnccladjpgaa
open Go Go.RowKit
set_option linter.unusedVariables false
set_option linter.unusedSimpArgs false
theorem zFk {hs : List (List UInt8)} {a h o : Nat} {r : List UInt8} (hn : a ≠ h) : num (hs.set h r) a o = num hs a o := by
 unfold num
 rw [List.getD_eq_getElem?_getD, List.getD_eq_getElem?_getD, List.getElem?_set_ne (Ne.symm hn)]
theorem num_set {hs : List (List UInt8)} {h o : Nat} {r : List UInt8} (hl : h < hs.length) : num (hs.set h r) h o = ofBE ((r.drop o).take 4) := by
 unfold num
 rw [List.getD_eq_getElem?_getD, List.getElem?_set_self hl]
 rfl
theorem wr4_at {b : List UInt8} {o n : Nat} (h : o + 4 ≤ b.length) (hn : n < 4294967296) : ofBE (((wr4 b o n).drop o).take 4) = n := by
 unfold wr4
 rw [List.drop_left' (by rw [List.length_take]; omega), List.take_left' (zR _ _), zD0 (by omega)]
theorem wr4_out {b : List UInt8} {o o' n : Nat} (h : o + 4 ≤ b.length) (h2 : o' + 4 ≤ o ∨ o + 4 ≤ o') : ((wr4 b o n).drop o').take 4 = (b.drop o').take 4 := by
 have hl : (b.take o).length = o := by rw [List.length_take]; omega
 unfold wr4
 rcases h2 with h2 | h2
 · rw [List.drop_append_of_le_length (by omega), List.take_append_of_le_length (by rw [List.length_drop]; omega), List.drop_take, List.take_take, show min 4 (o - o') = 4 by omega]
 · rw [show o' = o + (4 + (o' - o - 4)) by omega, ← List.drop_drop, List.drop_left' hl, ← List.drop_drop, List.drop_left' (zR _ _), List.drop_drop, show o + 4 + (o' - o - 4) = o + (4 + (o' - o - 4)) by omega]
theorem wr4_node {e : zA} {n n' : Nat} : wr4 (zAp e n) 0 n' = zAp e n' := by
 unfold wr4 zAp
 rw [List.take_zero, List.nil_append, Nat.zero_add, List.drop_left' (zR _ _)]
structure MOk (hs : List (List UInt8)) (C : Nat → List (Nat × zA)) (nx : Nat) : Prop where
 lo : 4 ≤ nx
 hi : nx ≤ 20
 len : hs.length = 20
 wide : ∀ r ∈ hs, r.length = 64
 head : ∀ bk, bk < 64 → num hs (bk / 16) (4 * (bk % 16)) = hdC (C bk)
 ch : ∀ bk, bk < 64 → ChOk hs bk nx (C bk)
 keys : ∀ bk, bk < 64 → ((C bk).map (fun y => y.2.Key)).Nodup
 cnt : ∀ bk, bk < 64 → (C bk).length ≤ nx
def updC (C : Nat → List (Nat × zA)) (b : Nat) (l : List (Nat × zA)) : Nat → List (Nat × zA) := fun bk => if bk = b then l else C bk
theorem zAW (C : Nat → List (Nat × zA)) (b : Nat) (l : List (Nat × zA)) : updC C b l b = l := if_pos rfl
theorem zB7 (C : Nat → List (Nat × zA)) {b bk : Nat} (l : List (Nat × zA)) (h : bk ≠ b) : updC C b l bk = C bk := if_neg h
theorem zFH {hs : List (List UInt8)} {a : Nat} {r : List UInt8} (h : ∀ x ∈ hs, x.length = 64) (hr : r.length = 64) : ∀ x ∈ hs.set a r, x.length = 64 := fun x hx => by
 rcases List.mem_or_eq_of_mem_set hx with hx | rfl
 · exact h x hx
 · exact hr
theorem slot_out {b bk : Nat} (h : bk ≠ b) (he : bk / 16 = b / 16) : 4 * (bk % 16) + 4 ≤ 4 * (b % 16) ∨ 4 * (b % 16) + 4 ≤ 4 * (bk % 16) := by omega
theorem zJD {hs : List (List UInt8)} {b bk n : Nat} (hlen : hs.length = 20) (hw : ∀ r ∈ hs, r.length = 64) (hb : b < 64) (hbk : bk < 64) (hn : n < 4294967296) :
  num (hs.set (b / 16) (wr4 (hs.getD (b / 16) []) (4 * (b % 16)) n)) (bk / 16) (4 * (bk % 16)) = if bk = b then n else num hs (bk / 16) (4 * (bk % 16)) := by
 have hl : b / 16 < hs.length := by omega
 have hr : (hs.getD (b / 16) []).length = 64 := by
  rw [List.getD_eq_getElem?_getD, List.getElem?_eq_getElem hl]
  exact hw _ (List.getElem_mem hl)
 by_cases e : bk = b
 · rw [if_pos e, e, num_set hl, wr4_at (by omega) hn]
 ·
  rw [if_neg e]
  by_cases e2 : bk / 16 = b / 16
  ·
   rw [e2, num_set hl, wr4_out (by omega) (slot_out e e2)]
   rfl
  · exact zFk e2
theorem hdC_app {l1 l2 : List (Nat × zA)} {a : Nat} {e e' : zA} : hdC (l1 ++ (a, e) :: l2) = hdC (l1 ++ (a, e') :: l2) := by cases l1 <;> rfl
theorem ChOk.repl {hs : List (List UInt8)} {bk nx a : Nat} {e0 e : zA} {l2 : List (Nat × zA)} (ha : a < hs.length) (hm : mayB e = true) (hb : qS e.Key = bk) : ∀ {l1 : List (Nat × zA)}, ChOk hs bk nx (l1 ++ (a, e0) :: l2) → (∀ x ∈ l1 ++ l2, x.1 ≠ a) → ChOk (hs.set a (zAp e (hdC l2))) bk nx (l1 ++ (a, e) :: l2)
 | [], h, hn => ⟨List.getElem?_set_self ha, hm, hb, h.2.2.2.1, h.2.2.2.2.1, h.2.2.2.2.2.set fun x hx => hn x hx⟩
 | y :: r, h, hn => ⟨by
   rw [List.getElem?_set_ne (fun e => hn y (List.mem_cons_self ..) e.symm)]
   exact h.1.trans (congrArg (fun n => some (zAp y.2 n)) hdC_app), h.2.1, h.2.2.1, h.2.2.2.1, h.2.2.2.2.1, ChOk.repl ha hm hb h.2.2.2.2.2 fun x hx => hn x (List.mem_cons_of_mem _ hx)⟩
theorem ChOk.cut {hs : List (List UInt8)} {bk nx : Nat} {z y : Nat × zA} {l2 : List (Nat × zA)} (hz : z.1 < hs.length) : ∀ {l0 : List (Nat × zA)}, ChOk hs bk nx (l0 ++ z :: y :: l2) → (∀ x ∈ l0 ++ l2, x.1 ≠ z.1) → ChOk (hs.set z.1 (zAp z.2 (hdC l2))) bk nx (l0 ++ z :: l2)
 | [], h, hn => ⟨List.getElem?_set_self hz, h.2.1, h.2.2.1, h.2.2.2.1, h.2.2.2.2.1, h.2.2.2.2.2.2.2.2.2.2.set fun x hx => hn x hx⟩
 | w :: r, h, hn => ⟨by
   rw [List.getElem?_set_ne (fun e => hn w (List.mem_cons_self ..) e.symm)]
   refine h.1.trans (congrArg (fun n => some (zAp w.2 n)) ?_)
   cases r <;> rfl, h.2.1, h.2.2.1, h.2.2.2.1, h.2.2.2.2.1, ChOk.cut hz h.2.2.2.2.2 fun x hx => hn x (List.mem_cons_of_mem _ hx)⟩
theorem ChOk.tail {hs : List (List UInt8)} {bk nx : Nat} : ∀ {l1 l2 : List (Nat × zA)}, ChOk hs bk nx (l1 ++ l2) → ChOk hs bk nx l2
 | [], _, h => h
 | _ :: _, _, h => ChOk.tail h.2.2.2.2.2
section
variable {hs : List (List UInt8)} {C : Nat → List (Nat × zA)} {nx : Nat}
theorem MOk.put (M : MOk hs C nx) (hn : nx < 20) {e : zA} (hm : mayB e = true) (hk : ∀ y ∈ C (qS e.Key), y.2.Key ≠ e.Key) :
  MOk ((hs.set nx (zAp e (hdC (C (qS e.Key))))).set (qS e.Key / 16) (wr4 ((hs.set nx (zAp e (hdC (C (qS e.Key))))).getD (qS e.Key / 16) []) (4 * (qS e.Key % 16)) nx)) (updC C (qS e.Key) ((nx, e) :: C (qS e.Key))) (nx + 1) := by
 have hlo := M.lo
 have hb := zCr e.Key
 have hkl := zEX (zDr hm).1
 have hlen := M.len
 have l1 : (hs.set nx (zAp e (hdC (C (qS e.Key))))).length = 20 := by rw [List.length_set]; exact M.len
 have w1 : ∀ r ∈ hs.set nx (zAp e (hdC (C (qS e.Key)))), r.length = 64 := zFH M.wide (zDU (by omega))
 have hr : ((hs.set nx (zAp e (hdC (C (qS e.Key))))).getD (qS e.Key / 16) []).length = 64 := by
  have hl : qS e.Key / 16 < (hs.set nx (zAp e (hdC (C (qS e.Key))))).length := by omega
  rw [List.getD_eq_getElem?_getD, List.getElem?_eq_getElem hl]
  exact w1 _ (List.getElem_mem hl)
 refine ⟨by omega, by omega, by rw [List.length_set]; exact l1, zFH w1 (by rw [zGQ (by omega)]; exact hr), fun bk hbk => ?_, fun bk hbk => ?_, fun bk hbk => ?_, fun bk hbk => ?_⟩
 ·
  rw [zJD l1 w1 hb hbk (by omega)]
  by_cases e1 : bk = qS e.Key
  · rw [if_pos e1, e1, zAW]; rfl
  · rw [if_neg e1, zB7 C _ e1, zFk (by omega), M.head bk hbk]
 ·
  have hc : ChOk ((hs.set nx (zAp e (hdC (C (qS e.Key))))).set (qS e.Key / 16) (wr4 ((hs.set nx (zAp e (hdC (C (qS e.Key))))).getD (qS e.Key / 16) []) (4 * (qS e.Key % 16)) nx)) bk (nx + 1) (C bk) := by
   have h0 := M.ch bk hbk
   refine ((h0.set fun x hx => ?_).set fun x hx => ?_).up (by omega)
   · have := (h0.mem x hx).2.2.2.1; omega
   · have := (h0.mem x hx).2.2.1; omega
  by_cases e1 : bk = qS e.Key
  ·
   subst e1
   rw [zAW]
   refine ⟨?_, hm, rfl, by omega, by omega, hc⟩
   rw [List.getElem?_set_ne (by show qS e.Key / 16 ≠ nx; omega), List.getElem?_set_self (by show nx < hs.length; omega)]
  · rw [zB7 C _ e1]; exact hc
 ·
  by_cases e1 : bk = qS e.Key
  ·
   subst e1
   rw [zAW, List.map_cons, List.nodup_cons]
   refine ⟨fun hmem => ?_, M.keys _ hbk⟩
   obtain ⟨y, hy, e2⟩ := List.mem_map.1 hmem
   exact hk y hy e2
  · rw [zB7 C _ e1]; exact M.keys bk hbk
 ·
  by_cases e1 : bk = qS e.Key
  ·
   subst e1
   rw [zAW, List.length_cons]
   have := M.cnt _ hbk
   omega
  ·
   rw [zB7 C _ e1]
   have := M.cnt bk hbk
   omega
theorem MOk.alone (M : MOk hs C nx) {b : Nat} (hb : b < 64) {l1 l2 : List (Nat × zA)} {y : Nat × zA} (hC : C b = l1 ++ y :: l2) : ∀ x ∈ l1 ++ l2, x.1 ≠ y.1 := by
 intro x hx e
 have hc := M.ch b hb
 have hxm : x ∈ C b := by
  rw [hC]
  rcases List.mem_append.1 hx with h | h
  · exact List.mem_append_left _ h
  · exact List.mem_append_right _ (List.mem_cons_of_mem _ h)
 have hym : y ∈ C b := by rw [hC]; exact List.mem_append_right _ (List.mem_cons_self ..)
 obtain ⟨rfl, _⟩ := ChOk.one M.hi hc hc hxm hym e
 have hk := M.keys b hb
 rw [hC, List.map_append, List.map_cons, List.nodup_append] at hk
 obtain ⟨_, h2, h3⟩ := hk
 rcases List.mem_append.1 hx with h | h
 · exact h3 _ (List.mem_map.2 ⟨_, h, rfl⟩) _ (List.mem_cons_self ..) rfl
 · exact (List.nodup_cons.1 h2).1 (List.mem_map.2 ⟨_, h, rfl⟩)
theorem MOk.other (M : MOk hs C nx) {b bk : Nat} (hb : b < 64) (hbk : bk < 64) (hne : bk ≠ b) {y : Nat × zA} (hy : y ∈ C b) : ∀ x ∈ C bk, x.1 ≠ y.1 := fun x hx e => hne (ChOk.one M.hi (M.ch bk hbk) (M.ch b hb) hx hy e).2
theorem MOk.headA (M : MOk hs C nx) {a : Nat} {r : List UInt8} (ha : 4 ≤ a) {bk : Nat} (hbk : bk < 64) : num (hs.set a r) (bk / 16) (4 * (bk % 16)) = hdC (C bk) := by
 rw [zFk (by omega), M.head bk hbk]
theorem MOk.repl (M : MOk hs C nx) {b a : Nat} (hb : b < 64) {l1 l2 : List (Nat × zA)} {e0 e : zA} (hC : C b = l1 ++ (a, e0) :: l2) (hm : mayB e = true) (hk : e.Key = e0.Key) : MOk (hs.set a (zAp e (hdC l2))) (updC C b (l1 ++ (a, e) :: l2)) nx := by
 have hkl := zEX (zDr hm).1
 have hym : (a, e0) ∈ C b := by rw [hC]; exact List.mem_append_right _ (List.mem_cons_self ..)
 obtain ⟨_, y2, y3, y4, n, y5, _⟩ := (M.ch b hb).mem _ hym
 have hal := (List.getElem?_eq_some_iff.1 y5).1
 refine ⟨M.lo, M.hi, by rw [List.length_set]; exact M.len, zFH M.wide (zDU (by omega)), fun bk hbk => ?_, fun bk hbk => ?_, fun bk hbk => ?_, fun bk hbk => ?_⟩
 ·
  rw [M.headA y3 hbk]
  by_cases e1 : bk = b
  · rw [e1, zAW, hC]; exact hdC_app
  · rw [zB7 C _ e1]
 ·
  by_cases e1 : bk = b
  ·
   subst e1
   rw [zAW]
   have hc := M.ch bk hbk
   rw [hC] at hc
   exact hc.repl hal hm (by rw [hk]; exact y2) (M.alone hb hC)
  ·
   rw [zB7 C _ e1]
   exact (M.ch bk hbk).set (M.other hb hbk e1 hym)
 ·
  by_cases e1 : bk = b
  ·
   subst e1
   have := M.keys bk hbk
   rw [hC, List.map_append, List.map_cons] at this
   rw [zAW, List.map_append, List.map_cons, hk]
   exact this
  · rw [zB7 C _ e1]; exact M.keys bk hbk
 ·
  by_cases e1 : bk = b
  ·
   subst e1
   have := M.cnt bk hbk
   rw [hC] at this
   rw [zAW]
   simpa using this
  · rw [zB7 C _ e1]; exact M.cnt bk hbk
theorem nodup_cut {l1 l2 : List (List UInt8)} {y : List UInt8} (h : (l1 ++ y :: l2).Nodup) : (l1 ++ l2).Nodup := by
 rw [List.nodup_append] at h ⊢
 obtain ⟨h1, h2, h3⟩ := h
 exact ⟨h1, (List.nodup_cons.1 h2).2, fun a ha b hb => h3 a ha b (List.mem_cons_of_mem _ hb)⟩
theorem MOk.drop0 (M : MOk hs C nx) {b : Nat} (hb : b < 64) {l2 : List (Nat × zA)} {y : Nat × zA} (hC : C b = y :: l2) : MOk (hs.set (b / 16) (wr4 (hs.getD (b / 16) []) (4 * (b % 16)) (hdC l2))) (updC C b l2) nx := by
 have hlen := M.len
 have hcb := M.ch b hb
 rw [hC] at hcb
 have h32 := (show ChOk hs b nx l2 from hcb.2.2.2.2.2).hd32 M.hi
 have hr : (hs.getD (b / 16) []).length = 64 := by
  have hl : b / 16 < hs.length := by omega
  rw [List.getD_eq_getElem?_getD, List.getElem?_eq_getElem hl]
  exact M.wide _ (List.getElem_mem hl)
 refine ⟨M.lo, M.hi, by rw [List.length_set]; exact M.len, zFH M.wide (by rw [zGQ (by omega)]; exact hr), fun bk hbk => ?_, fun bk hbk => ?_, fun bk hbk => ?_, fun bk hbk => ?_⟩
 ·
  rw [zJD M.len M.wide hb hbk h32]
  by_cases e1 : bk = b
  · rw [if_pos e1, e1, zAW]
  · rw [if_neg e1, zB7 C _ e1, M.head bk hbk]
 ·
  have hc : ∀ l, ChOk hs bk nx l → ChOk (hs.set (b / 16) (wr4 (hs.getD (b / 16) []) (4 * (b % 16)) (hdC l2))) bk nx l := fun l hl => hl.set fun x hx => by
   have := (hl.mem x hx).2.2.1; omega
  by_cases e1 : bk = b
  · subst e1; rw [zAW]; exact hc _ hcb.2.2.2.2.2
  · rw [zB7 C _ e1]; exact hc _ (M.ch bk hbk)
 ·
  by_cases e1 : bk = b
  ·
   subst e1
   have := M.keys bk hbk
   rw [hC, List.map_cons] at this
   rw [zAW]; exact (List.nodup_cons.1 this).2
  · rw [zB7 C _ e1]; exact M.keys bk hbk
 ·
  by_cases e1 : bk = b
  ·
   subst e1
   have := M.cnt bk hbk
   rw [hC, List.length_cons] at this
   rw [zAW]; omega
  · rw [zB7 C _ e1]; exact M.cnt bk hbk
theorem MOk.dropN (M : MOk hs C nx) {b : Nat} (hb : b < 64) {l0 l2 : List (Nat × zA)} {z y : Nat × zA} (hC : C b = l0 ++ z :: y :: l2) : MOk (hs.set z.1 (wr4 (hs.getD z.1 []) 0 (hdC l2))) (updC C b (l0 ++ z :: l2)) nx := by
 have hzm : z ∈ C b := by rw [hC]; exact List.mem_append_right _ (List.mem_cons_self ..)
 obtain ⟨z1, z2, z3, z4, n, z5, _⟩ := (M.ch b hb).mem _ hzm
 have hkl := zEX (zDr z1).1
 have hal := (List.getElem?_eq_some_iff.1 z5).1
 have hg : hs.getD z.1 [] = zAp z.2 n := by rw [List.getD_eq_getElem?_getD, z5]; rfl
 rw [hg, wr4_node]
 have hal2 := M.alone hb hC
 refine ⟨M.lo, M.hi, by rw [List.length_set]; exact M.len, zFH M.wide (zDU (by omega)), fun bk hbk => ?_, fun bk hbk => ?_, fun bk hbk => ?_, fun bk hbk => ?_⟩
 ·
  rw [M.headA z3 hbk]
  by_cases e1 : bk = b
  · rw [e1, zAW, hC]; cases l0 <;> rfl
  · rw [zB7 C _ e1]
 ·
  by_cases e1 : bk = b
  ·
   subst e1
   rw [zAW]
   have hc := M.ch bk hbk
   rw [hC] at hc
   exact hc.cut hal fun x hx => hal2 x (by
    rcases List.mem_append.1 hx with h | h
    · exact List.mem_append_left _ h
    · exact List.mem_append_right _ (List.mem_cons_of_mem _ h))
  ·
   rw [zB7 C _ e1]
   exact (M.ch bk hbk).set (M.other hb hbk e1 hzm)
 ·
  by_cases e1 : bk = b
  ·
   subst e1
   have := M.keys bk hbk
   rw [hC, List.map_append, List.map_cons, List.map_cons] at this
   rw [zAW, List.map_append, List.map_cons]
   have h2 := nodup_cut (l1 := l0.map (fun y => y.2.Key) ++ [z.2.Key]) (y := y.2.Key) (l2 := l2.map (fun y => y.2.Key)) (by simpa using this)
   simpa using h2
  · rw [zB7 C _ e1]; exact M.keys bk hbk
 ·
  by_cases e1 : bk = b
  ·
   subst e1
   have := M.cnt bk hbk
   rw [hC] at this
   rw [zAW]
   simp at this ⊢
   omega
  · rw [zB7 C _ e1]; exact M.cnt bk hbk
end
end Go.Proofs.Ytjomnccladjpgaa

/-
 Plain: Find, Put, Set and Drop of an index of twenty homes.
-/
namespace Go.Proofs.Ytjomnccladjpgaa
open Go Go.RowKit
set_option linter.unusedVariables false
set_option linter.unusedSimpArgs false
theorem zEV {key : List UInt8} : ∀ {l : List (Nat × zA)} {sh so : Nat}, (∀ y ∈ l, y.2.Key ≠ key) → fndC key sh so l = none
 | [], _, _, _ => rfl
 | y :: r, sh, so, h => by
  unfold fndC
  rw [if_neg (h y (List.mem_cons_self ..))]
  exact zEV fun z hz => h z (List.mem_cons_of_mem _ hz)
theorem zEj {key : List UInt8} : ∀ {l : List (Nat × zA)} {sh so : Nat}, (∃ y ∈ l, y.2.Key = key) → ∃ (l1 l2 : List (Nat × zA)) (y : Nat × zA) (a o : Nat), l = l1 ++ y :: l2 ∧ y.2.Key = key ∧ (∀ z ∈ l1, z.2.Key ≠ key) ∧ fndC key sh so l = some ((a, o), y, hdC l2) ∧ ((l1 = [] ∧ a = sh ∧ o = so) ∨ ∃ l0 z, l1 = l0 ++ [z] ∧ a = z.1 ∧ o = 0)
 | y :: r, sh, so, ⟨q, hq, hk⟩ => by
  by_cases e : y.2.Key = key
  · exact ⟨[], r, y, sh, so, rfl, e, (fun z hz => nomatch hz), (by unfold fndC; rw [if_pos e]), .inl ⟨rfl, rfl, rfl⟩⟩
  ·
   have hr : ∃ y ∈ r, y.2.Key = key := by
    rcases List.mem_cons.1 hq with rfl | hq
    · exact absurd hk e
    · exact ⟨q, hq, hk⟩
   obtain ⟨l1, l2, z, a, o, h1, h2, h3, h4, h5⟩ := zEj (sh := y.1) (so := 0) hr
   refine ⟨y :: l1, l2, z, a, o, by rw [h1]; rfl, h2, fun w hw => ?_, by unfold fndC; rw [if_neg e]; exact h4, .inr ?_⟩
   ·
    rcases List.mem_cons.1 hw with rfl | hw
    · exact e
    · exact h3 w hw
   ·
    rcases h5 with ⟨rfl, rfl, rfl⟩ | ⟨l0, z', rfl, rfl, rfl⟩
    · exact ⟨[], y, rfl, rfl, rfl⟩
    · exact ⟨y :: l0, z', rfl, rfl, rfl⟩
section
variable {H : Hp} {x t : Nat} {hs : List (List UInt8)} {mp : List (Int × List UInt8)} {C : Nat → List (Nat × zA)} {nx : Nat}
theorem zHU (h : XIn H x t 0 hs mp) (M : MOk hs C nx) {key : List UInt8} (hk : keyB key = true) : yS (some x) key H = some (zFd key (qS key / 16) (4 * (qS key % 16)) (C (qS key))) := by
 have hb := zCr key
 have hlen := M.len
 have hc := M.cnt _ hb
 have hi := M.hi
 have hh := zI2 h hb
 rw [Nat.zero_add] at hh
 have he := n_eachC h M.hi key (C (qS key)) 16400 (qS key / 16) (4 * (qS key % 16)) 0 (M.ch _ hb) (by omega) (by omega)
 unfold yS
 rw [zGY hk, Option.bind_some]
 show Option.bind (zBo (some x) ((qS key : Nat) : Int) (fun a0 a1 => zAY a0 a1 key) H) _ = _
 unfold zBo
 rw [hh, Option.bind_some, zIb h (by omega) (by omega), Option.bind_some, zG (zCT rfl), M.head _ hb]
 show Option.bind (yT (some x) H ((qS key : Nat) : Int) (fun a0 a1 => zAY a0 a1 key) 16400 ((qS key / 16 : Nat) : Int) ((4 * (qS key % 16) : Nat) : Int) ((hdC (C (qS key)) : Nat) : Int) ((0 : Nat) : Int)) _ = _
 rw [he]
 rfl
def look (C : Nat → List (Nat × zA)) (key : List UInt8) : Option (Nat × zA) := (C (qS key)).find? fun y => y.2.Key == key
theorem zET {key : List UInt8} (h : look C key = none) : ∀ y ∈ C (qS key), y.2.Key ≠ key := fun y hy e => by
 have := List.find?_eq_none.1 h y hy
 simp [e] at this
theorem zDT {key : List UInt8} {y : Nat × zA} (h : look C key = some y) : y ∈ C (qS key) ∧ y.2.Key = key := by
 have h1 := List.mem_of_find?_eq_some h
 have h2 := List.find?_some h
 exact ⟨h1, by simpa using h2⟩
theorem zJe (M : MOk hs C nx) {key : List UInt8} (hk : keyB key = false) : look C key = none := by
 cases h : look C key with
 | none => rfl
 | some y =>
  obtain ⟨h1, h2⟩ := zDT h
  have := (zDr ((M.ch _ (zCr key)).mem y h1).1).1
  rw [h2, hk] at this
  cases this
theorem n_FindC (h : XIn H x t 0 hs mp) (M : MOk hs C nx) (key : List UInt8) : ∃ E a e, yK (some x) key H = some (E, a, e) ∧ (∀ y, look C key = some y → E = y.2 ∧ a = (y.1 : Int) ∧ e = 0) ∧ (look C key = none → e ≠ 0) := by
 cases hk : keyB key with
 | false =>
  refine ⟨⟨[], 0, 0, 0⟩, 0, 2, ?_, fun y hy => ?_, fun _ => by decide⟩
  ·
   unfold yK
   rw [zGz hk, Option.bind_some]
  · rw [zJe M hk] at hy; cases hy
 | true =>
  unfold yK
  rw [zHU h M hk, Option.bind_some]
  refine ⟨_, _, _, rfl, fun y hy => ?_, fun hn => ?_⟩
  ·
   obtain ⟨h1, h2⟩ := zDT hy
   obtain ⟨l1, l2, z, a, o, q1, q2, q3, q4, _⟩ := zEj (sh := qS key / 16) (so := 4 * (qS key % 16)) ⟨y, h1, h2⟩
   have hz : look C key = some z := by
    unfold look
    rw [q1, List.find?_append, List.find?_eq_none.2 (fun w hw => by simpa using q3 w hw), Option.none_or, List.find?_cons_of_pos (by simpa using q2)]
   rw [hy] at hz
   injection hz with hz
   subst hz
   unfold zFd
   rw [q4]
   exact ⟨rfl, rfl, rfl⟩
  ·
   unfold zFd
   rw [zEV (zET hn)]
   decide
theorem n_PutC (h : XIn H x t 0 hs mp) (M : MOk hs C nx) (hn : nx < 20) (e : zA) :
  (mayB e = false ∨ look C e.Key ≠ none) ∧ (∃ r, r ≠ 0 ∧ yI (some x) (nx : Int) e H = some (r, H)) ∨
  mayB e = true ∧ look C e.Key = none ∧ ∃ H' hs' mp', yI (some x) (nx : Int) e H = some (0, H') ∧ XIn H' x t 0 hs' mp' ∧ MOk hs' (updC C (qS e.Key) ((nx, e) :: C (qS e.Key))) (nx + 1) := by
 have hlo := M.lo
 have hlen := M.len
 have hix : H.ge_ix x = some ⟨some t, (0 : Int)⟩ := h.ix
 unfold yI
 rw [zHQ, Option.bind_some]
 cases hm : mayB e with
 | false => exact .inl ⟨.inl rfl, 2, by decide, rfl⟩
 | true =>
  have hkk := (zDr hm).1
  have hbk := zCr e.Key
  have hkl := zEX hkk
  rw [Bool.not_true, cond_false, zG (yY (by omega)), zG (yY (by omega)), ptM_s, hix, Option.bind_some]
  show (_ ∧ (∃ r, r ≠ 0 ∧ (bif decide ((nx : Int) ≥ 0) then (bif decide (wi ((nx : Int) - 0) < 4) then _ else _) else _) = some (r, H))) ∨ (_ ∧ _ ∧ ∃ H' hs' mp', (bif decide ((nx : Int) ≥ 0) then (bif decide (wi ((nx : Int) - 0) < 4) then _ else _) else _) = some (0, H') ∧ _ ∧ _)
  rw [zX (c := decide ((nx : Int) ≥ 0)) (zAe (by omega)), zBe (by omega) (by omega), zG (c := decide ((nx : Int) - 0 < 4)) (yY (by omega))]
  unfold zAh
  rw [zHU h M hkk, Option.bind_some]
  cases hl : look C e.Key with
  | some y =>
   refine .inl ⟨.inr (by simp), 42, by decide, ?_⟩
   obtain ⟨h1, h2⟩ := zDT hl
   obtain ⟨l1, l2, z, a, o, q1, q2, q3, q4, _⟩ := zEj (sh := qS e.Key / 16) (so := 4 * (qS e.Key % 16)) ⟨y, h1, h2⟩
   unfold zFd
   rw [q4]
   rfl
  | none =>
   have hno := zET hl
   refine .inr ⟨rfl, rfl, ?_⟩
   have he : zFd e.Key (qS e.Key / 16) (4 * (qS e.Key % 16)) (C (qS e.Key)) = (⟨0, 0⟩, 0, ⟨⟨[], 0, 0, 0⟩, 0⟩, 35) := by
    unfold zFd
    rw [zEV hno]
   rw [he]
   have hnum : hdC (C (qS e.Key)) < 4294967296 := (M.ch _ hbk).hd32 M.hi
   have hnl : nx < hs.length := by omega
   have hh := zI2 h hbk
   rw [Nat.zero_add] at hh
   obtain ⟨H1, w1, w2, m, v, w3⟩ := zGE h.tn hnl (x := zAp e (hdC (C (qS e.Key)))) (zDU (by omega))
   have h2 : XIn H1 x t 0 (hs.set nx (zAp e (hdC (C (qS e.Key))))) (mset mp (nx : Int) (zAp e (hdC (C (qS e.Key))))) := h.set_mp w2 (by rw [w3]; rfl) (by rw [List.length_set])
   have hh2 := zI2 h2 hbk
   rw [Nat.zero_add] at hh2
   obtain ⟨H2, mp2, v1, v2⟩ := n_xname h2 (a := qS e.Key / 16) (o := 4 * (qS e.Key % 16)) (by rw [List.length_set]; omega) (by omega) (p := nx) (by omega)
   refine ⟨H2, _, mp2, ?_, v2, M.put hn hm hno⟩
   rw [zG (by rfl), zGY hkk, Option.bind_some, hh, Option.bind_some, zIb h (by omega) (by omega), Option.bind_some, zG (by rfl), ptM_s, hix, Option.bind_some, M.head _ hbk]
   show Option.bind (yR ⟨e, ((hdC (C (qS e.Key)) : Nat) : Int)⟩) _ = _
   rw [zEi hm hnum, Option.bind_some]
   show Option.bind (yZ (some t) (nx : Int) (zAp e (hdC (C (qS e.Key)))) H) _ = _
   rw [w1, Option.bind_some, zG (by rfl)]
   show Option.bind (yL (some x) ((qS e.Key : Nat) : Int) H1) _ = _
   rw [hh2, Option.bind_some, v1]
   rfl
theorem n_SetC (h : XIn H x t 0 hs mp) (M : MOk hs C nx) (e : zA) :
  (mayB e = false ∨ look C e.Key = none) ∧ (∃ r, r ≠ 0 ∧ yP (some x) e H = some (r, H)) ∨
  mayB e = true ∧ ∃ l1 l2 a e0 H' hs' mp', C (qS e.Key) = l1 ++ (a, e0) :: l2 ∧ e0.Key = e.Key ∧ look C e.Key = some (a, e0) ∧ yP (some x) e H = some (0, H') ∧ XIn H' x t 0 hs' mp' ∧ MOk hs' (updC C (qS e.Key) (l1 ++ (a, e) :: l2)) nx := by
 have hlen := M.len
 have hix : H.ge_ix x = some ⟨some t, (0 : Int)⟩ := h.ix
 unfold yP
 rw [zHQ, Option.bind_some]
 cases hm : mayB e with
 | false => exact .inl ⟨.inl rfl, 2, by decide, rfl⟩
 | true =>
  have hkk := (zDr hm).1
  have hbk := zCr e.Key
  have hkl := zEX hkk
  rw [Bool.not_true, cond_false, zHU h M hkk, Option.bind_some]
  cases hl : look C e.Key with
  | none =>
   refine .inl ⟨.inr rfl, 35, by decide, ?_⟩
   unfold zFd
   rw [zEV (zET hl)]
   rfl
  | some y =>
   obtain ⟨h1, h2⟩ := zDT hl
   obtain ⟨l1, l2, z, a, o, q1, q2, q3, q4, _⟩ := zEj (sh := qS e.Key / 16) (so := 4 * (qS e.Key % 16)) ⟨y, h1, h2⟩
   obtain ⟨za, ze⟩ := z
   have hz : look C e.Key = some (za, ze) := by
    unfold look
    rw [q1, List.find?_append, List.find?_eq_none.2 (fun w hw => by simpa using q3 w hw), Option.none_or, List.find?_cons_of_pos (by simpa using q2)]
   rw [hl] at hz
   injection hz with hz
   subst hz
   have hc := M.ch _ hbk
   rw [q1] at hc
   have hc := hc.tail
   have hnum : hdC l2 < 4294967296 := (show ChOk hs (qS e.Key) nx l2 from hc.2.2.2.2.2).hd32 M.hi
   have hal := (List.getElem?_eq_some_iff.1 hc.1).1
   have he : zFd e.Key (qS e.Key / 16) (4 * (qS e.Key % 16)) (C (qS e.Key)) = (⟨(a : Int), (o : Int)⟩, (za : Int), ⟨ze, (hdC l2 : Int)⟩, 0) := by
    unfold zFd
    rw [q4]
   rw [he]
   obtain ⟨H1, w1, w2, m, v, w3⟩ := zGE h.tn hal (x := zAp e (hdC l2)) (zDU (by omega))
   refine .inr ⟨rfl, l1, l2, za, ze, H1, _, _, q1, q2, rfl, ?_, h.set_mp w2 (by rw [w3]; rfl) (by rw [List.length_set]), M.repl hbk q1 hm q2.symm⟩
   rw [zG (by rfl), ptM_s, hix, Option.bind_some]
   show Option.bind (yR ⟨e, ((hdC l2 : Nat) : Int)⟩) _ = _
   rw [zEi hm hnum, Option.bind_some]
   show Option.bind (yZ (some t) (za : Int) (zAp e (hdC l2)) H) _ = _
   rw [w1]
   rfl
theorem n_DropC (h : XIn H x t 0 hs mp) (M : MOk hs C nx) (key : List UInt8) :
  look C key = none ∧ (∃ a r, r ≠ 0 ∧ yM (some x) key H = some (a, r, H)) ∨
  ∃ l1 l2 y H' hs' mp', C (qS key) = l1 ++ y :: l2 ∧ y.2.Key = key ∧ look C key = some y ∧ yM (some x) key H = some ((y.1 : Int), 0, H') ∧ XIn H' x t 0 hs' mp' ∧ MOk hs' (updC C (qS key) (l1 ++ l2)) nx := by
 have hlen := M.len
 have hhi := M.hi
 unfold yM
 cases hkk : keyB key with
 | false =>
  rw [zGz hkk]
  exact .inl ⟨zJe M hkk, 0, 2, by decide, rfl⟩
 | true =>
  have hbk := zCr key
  rw [zHU h M hkk, Option.bind_some]
  cases hl : look C key with
  | none =>
   refine .inl ⟨rfl, 0, 35, by decide, ?_⟩
   unfold zFd
   rw [zEV (zET hl)]
   rfl
  | some y =>
   obtain ⟨h1, h2⟩ := zDT hl
   obtain ⟨l1, l2, z, a, o, q1, q2, q3, q4, q5⟩ := zEj (sh := qS key / 16) (so := 4 * (qS key % 16)) ⟨y, h1, h2⟩
   have hz : look C key = some z := by
    unfold look
    rw [q1, List.find?_append, List.find?_eq_none.2 (fun w hw => by simpa using q3 w hw), Option.none_or, List.find?_cons_of_pos (by simpa using q2)]
   rw [hl] at hz
   injection hz with hz
   subst hz
   have hc0 := M.ch _ hbk
   have hc := hc0
   rw [q1] at hc
   have hc := hc.tail
   have hnum : hdC l2 < 4294967296 := (show ChOk hs (qS key) nx l2 from hc.2.2.2.2.2).hd32 M.hi
   have he : zFd key (qS key / 16) (4 * (qS key % 16)) (C (qS key)) = (⟨(a : Int), (o : Int)⟩, (y.1 : Int), ⟨y.2, (hdC l2 : Int)⟩, 0) := by
    unfold zFd
    rw [q4]
   rw [he]
   have hao : a < hs.length ∧ o + 4 ≤ 64 ∧ MOk (hs.set a (wr4 (hs.getD a []) o (hdC l2))) (updC C (qS key) (l1 ++ l2)) nx := by
    rcases q5 with ⟨rfl, rfl, rfl⟩ | ⟨l0, z, rfl, rfl, rfl⟩
    · exact ⟨by omega, by omega, M.drop0 hbk q1⟩
    ·
     have hC : C (qS key) = l0 ++ z :: y :: l2 := by rw [q1, List.append_assoc]; rfl
     have hzm : z ∈ C (qS key) := by rw [hC]; exact List.mem_append_right _ (List.mem_cons_self ..)
     have := ((M.ch _ hbk).mem z hzm).2.2.2.1
     have hd := M.dropN hbk hC
     refine ⟨by omega, by omega, ?_⟩
     rw [List.append_assoc]
     exact hd
   obtain ⟨H2, mp2, v1, v2⟩ := n_xname h hao.1 hao.2.1 hnum
   refine .inr ⟨l1, l2, y, H2, _, mp2, q1, q2, rfl, ?_, v2, hao.2.2⟩
   rw [zG (by rfl)]
   show Option.bind (zAa (some x) ⟨(a : Int), (o : Int)⟩ ((hdC l2 : Nat) : Int) H) _ = _
   rw [v1]
   rfl
end
end Go.Proofs.Ytjomnccladjpgaa
