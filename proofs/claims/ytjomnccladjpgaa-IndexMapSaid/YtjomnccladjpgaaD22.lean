/-
  Texts joined: see the remark at the head of each part.
-/
import Derived.Test.YtjomnccladjpgaaD21
import Derived.Test.YtjomnccladjpgaaD11
import Derived.Test.YtjomnccladjpgaaD19
import Derived.Test.YtjomnccladjpgaaD04
import Derived.ProofKit
import Derived.Lib.SmallJoins
set_option linter.unusedVariables false
set_option linter.unusedSimpArgs false
/-
 Plain: sorting a short list of entries with different keys.
-/
namespace Go.Proofs.Ytjomnccladjpgaa
open Go Go.RowKit
set_option linter.unusedVariables false
set_option linter.unusedSimpArgs false
theorem sLt_tr : ∀ (a b c : List UInt8), sLt a b = true → sLt b c = true → sLt a c = true
 | _, [], _, h, _ => by simp [sLt, Op.bytesLess] at h
 | _, _ :: _, [], _, h => by simp [sLt, Op.bytesLess] at h
 | [], _ :: _, _ :: _, _, _ => by simp [sLt, Op.bytesLess]
 | x :: a, y :: b, z :: c, h1, h2 => by
  simp only [sLt, Op.bytesLess, Bool.or_eq_true, decide_eq_true_eq, Bool.and_eq_true, beq_iff_eq] at h1 h2 ⊢
  rcases h1 with h1 | ⟨e1, h1⟩
  ·
   rcases h2 with h2 | ⟨e2, h2⟩
   · exact .inl (by rw [UInt8.lt_iff_toNat_lt] at *; omega)
   · subst e2; exact .inl h1
  ·
   subst e1
   rcases h2 with h2 | ⟨e2, h2⟩
   · exact .inl h2
   · exact .inr ⟨e2, sLt_tr a b c h1 h2⟩
theorem sLt_tot : ∀ (a b : List UInt8), a ≠ b → sLt a b = false → sLt b a = true
 | [], [], h, _ => absurd rfl h
 | [], _ :: _, _, h => by simp [sLt, Op.bytesLess] at h
 | _ :: _, [], _, _ => by simp [sLt, Op.bytesLess]
 | x :: a, y :: b, hn, h => by
  simp only [sLt, Op.bytesLess, Bool.or_eq_false_iff, decide_eq_false_iff_not, Bool.and_eq_false_imp, beq_iff_eq] at h
  simp only [sLt, Op.bytesLess, Bool.or_eq_true, decide_eq_true_eq, Bool.and_eq_true, beq_iff_eq]
  obtain ⟨h1, h2⟩ := h
  by_cases e : x = y
  ·
   subst e
   exact .inr ⟨rfl, sLt_tot a b (fun e => hn (by rw [e])) (h2 rfl)⟩
  ·
   refine .inl ?_
   rw [UInt8.lt_iff_toNat_lt] at *
   have : x.toNat ≠ y.toNat := fun h => e (UInt8.toNat_inj.1 h)
   omega
abbrev eLt (a b : zA) : Prop := sLt a.Key b.Key = true
theorem n_cmpE (a b : zA) : ∃ r, qP a b = some r ∧ (r < 0 ↔ eLt a b) := by
 have h : qP a b = some (bif sLt a.Key b.Key then -1 else bif (!(sLt a.Key b.Key || a.Key == b.Key)) then 1 else 0) := by
  unfold qP zB9 zBm
  simp only [Option.bind_some, beq_self_eq_true, Bool.not_true, cond_false]
  cases sLt a.Key b.Key <;> cases (a.Key == b.Key) <;> rfl
 refine ⟨_, h, ?_⟩
 cases e : sLt a.Key b.Key
 · cases (a.Key == b.Key) <;> simp [e]
 · exact ⟨fun _ => e, fun _ => (by show (-1 : Int) < 0; decide)⟩
theorem idx_mid {p q : List zA} {x : zA} (n : Nat) (h : n = p.length) : idx (p ++ x :: q) (n : Int) = some x := by
 subst h
 rw [zAj (show p.length < (p ++ x :: q).length by simp)]
 congr 1
 simp
theorem swap_mid {p q : List zA} {x y : zA} : ((p ++ y :: x :: q).set (p.length + 1) y).set p.length x = p ++ x :: y :: q := by
 induction p with
 | nil => rfl
 | cons a p ih => simp [ih]
theorem ins_l3 (kl : Int → List zA → Option (List zA)) (z1 : Int) (s : List zA) : ∀ (k n : Nat) (p q : List zA) (x : zA), p.length = k → k < n → (p ++ x :: q).length ≤ 4096 → p.Pairwise eLt → q.Pairwise eLt → (∀ a ∈ p, ∀ b ∈ q, eLt a b) → (∀ b ∈ q, eLt x b) → (∀ a ∈ p, a.Key ≠ x.Key) →
  ∃ w, qB kl 0 qP z1 n (k : Int) (p ++ x :: (q ++ s)) = kl (wi (z1 + 1)) (w ++ s) ∧ w.Perm (p ++ x :: q) ∧ w.Pairwise eLt
 | _, 0, _, _, _, _, h, _, _, _, _, _, _ => by omega
 | 0, n + 1, p, q, x, hp, hn, hl, h1, h2, h3, h4, h5 => by
  have : p = [] := List.eq_nil_of_length_eq_zero hp
  subst this
  unfold qB
  rw [zG (yY (by omega))]
  exact ⟨x :: q, rfl, List.Perm.refl _, List.pairwise_cons.2 ⟨h4, h2⟩⟩
 | k + 1, n + 1, p, q, x, hp, hn, hl, h1, h2, h3, h4, h5 => by
  obtain ⟨p0, y, rfl⟩ : ∃ p0 y, p = p0 ++ [y] := ⟨p.dropLast, p.getLast (by intro e; rw [e] at hp; cases hp), (List.dropLast_concat_getLast _).symm⟩
  have hp0 : p0.length = k := by simpa using hp
  have hk : k < 4096 := by simp at hl; omega
  rw [List.pairwise_append] at h1
  obtain ⟨g1, _, g3⟩ := h1
  unfold qB
  have e1 : wi (((k + 1 : Nat) : Int) - 1) = (k : Int) := by rw [zBe (by omega) (by omega)]; omega
  have e0 : (p0 ++ [y]) ++ x :: (q ++ s) = p0 ++ y :: x :: (q ++ s) := by simp
  obtain ⟨r, hr, hlt⟩ := n_cmpE x y
  rw [zX (zAe (by omega)), e1, idx_mid (k + 1) (by simp [hp0]), Option.bind_some, e0, idx_mid k hp0.symm, Option.bind_some, hr, Option.bind_some]
  by_cases h0 : eLt x y
  ·
   rw [zX (zAe (hlt.2 h0)), Option.bind_some, Option.bind_some, Option.bind_some]
   have e2 : ∃ u, idx ((p0 ++ y :: x :: (q ++ s)).set (Int.toNat ((k + 1 : Nat) : Int)) y) (k : Int) = some u := ⟨_, zAj (show k < _ by simp; omega)⟩
   obtain ⟨u, e2⟩ := e2
   rw [e2, Option.bind_some]
   have e3 : ((p0 ++ y :: x :: (q ++ s)).set (Int.toNat ((k + 1 : Nat) : Int)) y).set (Int.toNat (k : Int)) x = p0 ++ x :: ((y :: q) ++ s) := by
    rw [show Int.toNat ((k + 1 : Nat) : Int) = p0.length + 1 by omega, show Int.toNat (k : Int) = p0.length by omega, swap_mid]
    rfl
   rw [e3]
   have hy : ∀ b ∈ q, eLt y b := fun b hb => h3 y (by simp) b hb
   obtain ⟨w, k1, k2, k3⟩ := ins_l3 kl z1 s k n p0 (y :: q) x hp0 (by omega) (by simp at hl ⊢; omega) g1 (List.pairwise_cons.2 ⟨hy, h2⟩) (fun a ha b hb => by
    rcases List.mem_cons.1 hb with rfl | hb
    · exact g3 a ha b (by simp)
    · exact h3 a (by simp [ha]) b hb) (fun b hb => by
    rcases List.mem_cons.1 hb with rfl | hb
    · exact h0
    · exact h4 b hb) (fun a ha => h5 a (by simp [ha]))
   refine ⟨w, k1, k2.trans ?_, k3⟩
   rw [List.append_assoc]
   exact (List.Perm.swap _ _ _).append_left p0
  ·
   have hyx : eLt y x := sLt_tot _ _ (fun e => h5 y (by simp) e.symm) (by simpa using h0)
   rw [zG (yY (fun h => h0 (hlt.1 h)))]
   refine ⟨(p0 ++ [y]) ++ x :: q, ?_, List.Perm.refl _, ?_⟩
   ·
    unfold qU
    rw [← e0, List.append_assoc, List.append_assoc, List.append_assoc]
    rfl
   ·
    rw [List.pairwise_append]
    refine ⟨List.pairwise_append.2 ⟨g1, List.pairwise_singleton _ _, g3⟩, List.pairwise_cons.2 ⟨h4, h2⟩, fun a ha b hb => ?_⟩
    rcases List.mem_cons.1 hb with rfl | hb
    ·
     rcases List.mem_append.1 ha with ha | ha
     · exact sLt_tr _ _ _ (g3 a ha y (by simp)) hyx
     · rw [List.mem_singleton.1 ha]; exact hyx
    · exact h3 a ha b hb
theorem ins_l1 : ∀ (n : Nat) (p r : List zA), r.length < n → (p ++ r).length ≤ 4096 → p.Pairwise eLt → ((p ++ r).map zA.Key).Nodup →
  ∃ w, zO ((p ++ r).length : Int) 0 qP n (p.length : Int) (p ++ r) = some w ∧ w.Perm (p ++ r) ∧ w.Pairwise eLt
 | 0, _, _, h, _, _, _ => by omega
 | n + 1, p, [], _, hl, h1, h2 => by
  unfold zO
  rw [zG (yY (by simp))]
  refine ⟨p ++ [], rfl, List.Perm.refl _, by rw [List.append_nil]; exact h1⟩
 | n + 1, p, x :: r, hn, hl, h1, h2 => by
  unfold zO
  rw [zX (zAe (by simp; omega))]
  have hx : ∀ a ∈ p, a.Key ≠ x.Key := by
   rw [List.map_append, List.nodup_append] at h2
   exact fun a ha => h2.2.2 _ (List.mem_map_of_mem ha) _ (by simp)
  have hlen : p.length ≤ 4096 := by simp at hl; omega
  obtain ⟨w, k1, k2, k3⟩ := ins_l3 (zO ((p ++ x :: r).length : Int) 0 qP n) (p.length : Int) r p.length (p.length + 1) p [] x rfl (by omega) (by simp at hl ⊢; omega) h1 List.Pairwise.nil (fun _ _ _ h => nomatch h) (fun _ h => nomatch h) hx
  rw [List.nil_append] at k1
  rw [show Int.toNat (p.length : Int) + 1 = p.length + 1 by omega, k1, zAI (by omega)]
  have kp : (w ++ r).Perm (p ++ x :: r) := by
   have := k2.append_right r
   simpa using this
  have kl : w.length = p.length + 1 := by have := k2.length_eq; simpa using this
  obtain ⟨w', q1, q2, q3⟩ := ins_l1 n w r (by simp at hn; omega) (by rw [kp.length_eq]; exact hl) k3 ((kp.map _).nodup_iff.2 h2)
  rw [kp.length_eq, kl] at q1
  exact ⟨w', q1, q2.trans kp, q3⟩
theorem n_sortE (l : List zA) (hl : l.length < 20) (h : (l.map zA.Key).Nodup) : ∃ w, yC l qP = some w ∧ w.Perm l ∧ w.Pairwise eLt := by
 have key : ∃ w, qM l 0 (l.length : Int) qP = some w ∧ w.Perm l ∧ w.Pairwise eLt := by
  unfold qM
  have e1 : wi (0 + 1) = ((1 : Nat) : Int) := by decide
  rw [e1]
  cases l with
  | nil => exact ⟨[], by rfl, List.Perm.refl _, List.Pairwise.nil⟩
  | cons x r =>
   obtain ⟨w, k1, k2, k3⟩ := ins_l1 (Int.toNat ((x :: r).length : Int) + 1) [x] r (by simp; omega) (by simp at hl ⊢; omega) (List.pairwise_singleton _ _) h
   exact ⟨w, k1, k2, k3⟩
 obtain ⟨w, k1, k2, k3⟩ := key
 refine ⟨w, ?_, k2, k3⟩
 have hw := k2.length_eq
 unfold yC zAR yN
 rw [zG (yY (by omega))]
 unfold zAH
 rw [k1, Option.bind_some, zIZ hw, Option.bind_some]
 unfold qK
 rw [zG (yY (by omega)), Option.bind_some, zIZ hw, Option.bind_some]
end Go.Proofs.Ytjomnccladjpgaa

/-
 Plain: maps with strings as keys; lists with different members.
-/
namespace Go.Proofs.Ytjomnccladjpgaa
open Go Go.RowKit
set_option linter.unusedVariables false
set_option linter.unusedSimpArgs false
section
variable {ν : Type}
theorem zIx (k : List UInt8) : zY ([] : List (List UInt8 × ν)) k = none := rfl
theorem zDG (a : List UInt8 × ν) (l : List (List UInt8 × ν)) (k : List UInt8) : zY (a :: l) k = if k = a.1 then some a.2 else zY l k := by
 unfold zY mpos
 rw [List.findIdx?_cons]
 by_cases h : k = a.1
 ·
  rw [if_pos (by simpa using h), if_pos h]
  rfl
 ·
  rw [if_neg (by simpa using h), if_neg h]
  cases List.findIdx? (fun p : List UInt8 × ν => k == p.1) l <;> rfl
theorem zHo (k : List UInt8) (v : ν) : mset [] k v = [(k, v)] := rfl
theorem zF8 (a : List UInt8 × ν) (l : List (List UInt8 × ν)) (k : List UInt8) (v : ν) : mset (a :: l) k v = if k = a.1 then (k, v) :: l else a :: mset l k v := by
 unfold mset mpos
 rw [List.findIdx?_cons]
 by_cases h : k = a.1
 ·
  rw [if_pos (by simpa using h), if_pos h]
  rfl
 ·
  rw [if_neg (by simpa using h), if_neg h]
  cases List.findIdx? (fun p : List UInt8 × ν => k == p.1) l <;> rfl
theorem mf_msK (l : List (List UInt8 × ν)) (k q : List UInt8) (v : ν) : zY (mset l k v) q = if q = k then some v else zY l q := by
 induction l with
 | nil => rw [zHo, zDG, zIx]
 | cons a l ih =>
  rw [zF8]
  by_cases h : k = a.1
  ·
   rw [if_pos h, zDG, zDG]
   by_cases h2 : q = k
   · rw [if_pos h2, if_pos h2]
   · rw [if_neg h2, if_neg h2, if_neg (by rw [← h]; exact h2)]
  ·
   rw [if_neg h, zDG, zDG, ih]
   by_cases h2 : q = k
   · rw [if_pos h2, if_pos h2, if_neg (by rw [h2]; exact h)]
   · rw [if_neg h2, if_neg h2]
theorem ms_memK (l : List (List UInt8 × ν)) (k q : List UInt8) (v : ν) (h : q ∈ (mset l k v).map (·.1)) : q = k ∨ q ∈ l.map (·.1) := by
 induction l with
 | nil => rw [zHo] at h; simp at h; exact .inl h
 | cons a l ih =>
  rw [zF8] at h
  by_cases h2 : k = a.1
  ·
   rw [if_pos h2, List.map_cons] at h
   rcases List.mem_cons.1 h with h | h
   · exact .inl h
   · exact .inr (by rw [List.map_cons]; exact List.mem_cons_of_mem _ h)
  ·
   rw [if_neg h2, List.map_cons] at h
   rw [List.map_cons]
   rcases List.mem_cons.1 h with h | h
   · exact .inr (by rw [h]; exact List.mem_cons_self)
   · exact (ih h).imp id (List.mem_cons_of_mem _)
theorem zGJ (l : List (List UInt8 × ν)) (k : List UInt8) (v : ν) (h : (l.map (·.1)).Nodup) : ((mset l k v).map (·.1)).Nodup := by
 induction l with
 | nil => rw [zHo]; simp
 | cons a l ih =>
  rw [List.map_cons, List.nodup_cons] at h
  rw [zF8]
  by_cases h2 : k = a.1
  ·
   rw [if_pos h2, List.map_cons, List.nodup_cons]
   exact ⟨by show k ∉ _; rw [h2]; exact h.1, h.2⟩
  ·
   rw [if_neg h2, List.map_cons, List.nodup_cons]
   refine ⟨fun hm => ?_, ih h.2⟩
   rcases ms_memK l k a.1 v hm with e | hm
   · exact h2 e.symm
   · exact h.1 hm
theorem zIw (l : List (List UInt8 × ν)) (k : List UInt8) : k ∈ l.map (·.1) ↔ zY l k ≠ none := by
 induction l with
 | nil => simp [zIx]
 | cons a l ih =>
  rw [List.map_cons, zDG, List.mem_cons]
  by_cases h : k = a.1
  · simp [h]
  ·
   rw [if_neg h, ← ih]
   simp [h]
theorem ms_lenLeK (l : List (List UInt8 × ν)) (k : List UInt8) (v : ν) : (mset l k v).length ≤ l.length + 1 := by
 induction l with
 | nil => simp [zHo]
 | cons a l ih =>
  rw [zF8]
  split
  · simp
  · simp only [List.length_cons]; omega
theorem zGD (a : List UInt8 × ν) (l : List (List UInt8 × ν)) (k : List UInt8) : mdel (a :: l) k = if k = a.1 then l else a :: mdel l k := by
 unfold mdel mpos
 rw [List.findIdx?_cons]
 by_cases h : k = a.1
 ·
  rw [if_pos (by simpa using h), if_pos h]
  rfl
 ·
  rw [if_neg (by simpa using h), if_neg h]
  cases List.findIdx? (fun p : List UInt8 × ν => k == p.1) l <;> rfl
theorem md_memK (l : List (List UInt8 × ν)) (k q : List UInt8) (h : q ∈ (mdel l k).map (·.1)) : q ∈ l.map (·.1) := by
 induction l with
 | nil => exact h
 | cons a l ih =>
  rw [zGD] at h
  rw [List.map_cons]
  by_cases h2 : k = a.1
  ·
   rw [if_pos h2] at h
   exact List.mem_cons_of_mem _ h
  ·
   rw [if_neg h2, List.map_cons] at h
   rcases List.mem_cons.1 h with h | h
   · rw [h]; exact List.mem_cons_self
   · exact List.mem_cons_of_mem _ (ih h)
theorem zFK (l : List (List UInt8 × ν)) (k : List UInt8) (h : (l.map (·.1)).Nodup) : ((mdel l k).map (·.1)).Nodup := by
 induction l with
 | nil => exact h
 | cons a l ih =>
  rw [List.map_cons, List.nodup_cons] at h
  rw [zGD]
  by_cases h2 : k = a.1
  · rw [if_pos h2]; exact h.2
  ·
   rw [if_neg h2, List.map_cons, List.nodup_cons]
   exact ⟨fun hm => h.1 (md_memK l k a.1 hm), ih h.2⟩
theorem zJX (l : List (List UInt8 × ν)) (k q : List UInt8) (h : (l.map (·.1)).Nodup) : zY (mdel l k) q = if q = k then none else zY l q := by
 induction l with
 | nil => rw [show mdel ([] : List (List UInt8 × ν)) k = [] from rfl, zIx]; split <;> rfl
 | cons a l ih =>
  rw [List.map_cons, List.nodup_cons] at h
  rw [zGD]
  by_cases h2 : k = a.1
  ·
   rw [if_pos h2, zDG]
   by_cases h3 : q = k
   ·
    rw [if_pos h3]
    cases e : zY l q with
    | none => rfl
    | some v => exact absurd ((zIw l q).2 (by rw [e]; simp)) (by rw [h3, h2]; exact h.1)
   · rw [if_neg h3, if_neg (by rw [← h2]; exact h3)]
  ·
   rw [if_neg h2, zDG, zDG, ih h.2]
   by_cases h3 : q = k
   · rw [if_pos h3, if_pos h3, if_neg (by rw [h3]; exact h2)]
   · rw [if_neg h3, if_neg h3]
theorem zHy (l : List (List UInt8 × ν)) (k : List UInt8) : (mdel l k).length ≤ l.length := by
 induction l with
 | nil => exact Nat.le_refl _
 | cons a l ih =>
  rw [zGD]
  split
  · simp
  · simp only [List.length_cons]; omega
end
theorem zHI {α : Type} [BEq α] [LawfulBEq α] : ∀ (a b : List α), a.Nodup → (∀ x ∈ a, x ∈ b) → a.length ≤ b.length
 | [], _, _, _ => Nat.zero_le _
 | x :: r, b, h, hs => by
  rw [List.nodup_cons] at h
  have hx := hs x List.mem_cons_self
  have ih := zHI r (b.erase x) h.2 (fun y hy => (List.mem_erase_of_ne (fun e => h.1 (by rw [← e]; exact hy))).2 (hs y (List.mem_cons_of_mem _ hy)))
  rw [List.length_erase_of_mem hx] at ih
  have := List.length_pos_of_mem hx
  rw [List.length_cons]
  omega
end Go.Proofs.Ytjomnccladjpgaa

/-
 Plain: all entries of an index.
-/
namespace Go.Proofs.Ytjomnccladjpgaa
open Go Go.RowKit
set_option linter.unusedVariables false
set_option linter.unusedSimpArgs false
theorem is_emptyE {α : Type} {y : List α} (h : y.isEmpty = true) : y = [] := by
 cases y with
 | nil => rfl
 | cons a l => cases h
theorem app1_ok {y : List zA} (x : zA) (h : y.length ≤ 4096) : app1 y x = some (y ++ [x]) := by
 unfold app1
 rw [zX (zAe (by omega))]
theorem zGh {α β : Type} {f : α → β} : ∀ {l : List α}, (l.map f).Nodup → ∀ {a b : α}, a ∈ l → b ∈ l → f a = f b → a = b
 | x :: r, h, a, b, ha, hb, e => by
  rw [List.map_cons, List.nodup_cons] at h
  rcases List.mem_cons.1 ha with ha1 | ha1 <;> rcases List.mem_cons.1 hb with hb1 | hb1
  · rw [ha1, hb1]
  · exact absurd (by rw [← ha1, e]; exact List.mem_map_of_mem hb1) h.1
  · exact absurd (by rw [← hb1, ← e]; exact List.mem_map_of_mem ha1) h.1
  · exact zGh h.2 ha1 hb1 e
section
variable {H : Hp} {x t : Nat} {hs : List (List UInt8)} {mp : List (Int × List UInt8)} {C : Nat → List (Nat × zA)} {nx : Nat}
theorem zJO {tb : Nat} (h : XIn H x t tb hs mp) {bk : Nat} (hnx : nx ≤ 20) : ∀ (l : List (Nat × zA)) (fuel sh so cnt : Nat) (Y : List zA), ChOk hs bk nx l → cnt + l.length ≤ 16384 → l.length < fuel → Y.length + l.length ≤ 4096 →
  zKE (some x) H (bk : Int) fuel (sh : Int) (so : Int) (hdC l : Int) (cnt : Int) Y = some ((⟨0, 0⟩, 0, ⟨⟨[], 0, 0, 0⟩, 0⟩, 35), Y ++ l.map (·.2))
 | [], fuel + 1, sh, so, cnt, Y, hc, hl, hf, hY => by
  unfold zKE
  rw [zX (by rfl), List.map_nil, List.append_nil]
 | y :: r, fuel + 1, sh, so, cnt, Y, hc, hl, hf, hY => by
  obtain ⟨b, k1, k2, k3, k4, k5⟩ := n_stepC h hnx hc
  rw [List.length_cons] at hl hf hY
  unfold zKE
  show (bif ((y.1 : Int) == 0) then _ else Option.bind (qJ (some x) (y.1 : Int) H) _) = _
  rw [zG (zDn (by omega)), k1, Option.bind_some, zG (zCT rfl), k2, Option.bind_some]
  show Option.bind (yQ y.2.Key) _ = _
  rw [k3, Option.bind_some, zG (by rfl), zG (zCT rfl), zBe (z := (cnt : Int) + 1) (by omega) (by omega), zG (yY (by omega))]
  show Option.bind (app1 Y y.2) _ = _
  rw [app1_ok _ (by omega), Option.bind_some]
  have ih := zJO h hnx r fuel y.1 0 (cnt + 1) (Y ++ [y.2]) hc.2.2.2.2.2 (by omega) (by omega) (by rw [List.length_append, List.length_singleton]; omega)
  refine Eq.trans ih ?_
  simp
theorem n_eachQ0 (h : XIn H x t 0 hs mp) (M : MOk hs C nx) {bk : Nat} (hb : bk < 64) (Y : List zA) (hY : Y.length ≤ 4000) : zJo (some x) (bk : Int) H Y = some ((⟨0, 0⟩, 0, ⟨⟨[], 0, 0, 0⟩, 0⟩, 35), Y ++ (C bk).map (·.2)) := by
 have hlen := M.len
 have hc := M.cnt _ hb
 have hi := M.hi
 have hh := zI2 h hb
 rw [Nat.zero_add] at hh
 unfold zJo
 rw [hh, Option.bind_some, zIb h (by omega) (by omega), Option.bind_some, zG (zCT rfl), M.head _ hb]
 exact zJO h M.hi (C bk) 16400 (bk / 16) (4 * (bk % 16)) 0 Y (M.ch _ hb) (by omega) (by omega) (by omega)
def allE (C : Nat → List (Nat × zA)) : List (Nat × zA) := (List.range 64).flatMap C
theorem zGH (C : Nat → List (Nat × zA)) (i : Nat) : (List.range (i + 1)).flatMap C = (List.range i).flatMap C ++ C i := by
 rw [List.range_succ, List.flatMap_append]
 simp
theorem zJJ (M : MOk hs C nx) : ∀ i, i ≤ 64 → ((List.range i).flatMap C).length ≤ i * 20
 | 0, _ => by simp
 | i + 1, h => by
  have := zJJ M i (by omega)
  have h2 := M.cnt i (by omega)
  have h3 := M.hi
  rw [zGH, List.length_append]
  omega
theorem n_allL (h : XIn H x t 0 hs mp) (M : MOk hs C nx) : ∀ (k i n : Nat), i + k = 64 → k < n → allL (some x) H n (i : Int) (((List.range i).flatMap C).map (·.2)) = bif ((allE C).map (·.2)).isEmpty then some ([], 0) else (Option.bind (yC ((allE C).map (·.2)) qP) fun z => Option.bind (lenI z.length ((allE C).map (·.2)).length) fun _ => some (z, 0))
 | _, _, 0, _, h => by omega
 | 0, i, n + 1, hi, hn => by
  have : i = 64 := by omega
  subst this
  unfold allL
  rw [zG (yY (by omega))]
  rfl
 | k + 1, i, n + 1, hi, hn => by
  have hl := zJJ M i (by omega)
  unfold allL
  rw [zX (zAe (by omega)), n_eachQ0 h M (by omega) _ (by rw [List.length_map]; omega), Option.bind_some, zX (by rfl), zAI (by omega)]
  have ih := n_allL h M k (i + 1) n (by omega) (by omega)
  rw [zGH, List.map_append] at ih
  exact ih
theorem zIc {y : Nat × zA} : y ∈ allE C ↔ ∃ bk, bk < 64 ∧ y ∈ C bk := by
 unfold allE
 rw [List.mem_flatMap]
 exact ⟨fun ⟨b, h1, h2⟩ => ⟨b, List.mem_range.1 h1, h2⟩, fun ⟨b, h1, h2⟩ => ⟨b, List.mem_range.2 h1, h2⟩⟩
theorem zHb (M : MOk hs C nx) {y : Nat × zA} (h : y ∈ allE C) : look C y.2.Key = some y := by
 obtain ⟨bk, h1, h2⟩ := zIc.1 h
 obtain ⟨_, hb, _⟩ := (M.ch bk h1).mem y h2
 subst hb
 cases e : look C y.2.Key with
 | none => exact absurd rfl (zET e y h2)
 | some z =>
  obtain ⟨q1, q2⟩ := zDT e
  rw [zGh (f := fun y : Nat × zA => y.2.Key) (M.keys _ h1) q1 h2 q2]
theorem look_all {key : List UInt8} {y : Nat × zA} (h : look C key = some y) : y ∈ allE C ∧ y.2.Key = key := by
 obtain ⟨q1, q2⟩ := zDT h
 exact ⟨zIc.2 ⟨_, zCr _, q1⟩, q2⟩
theorem zGb (M : MOk hs C nx) : ∀ i, i ≤ 64 → (((List.range i).flatMap C).map fun y => y.2.Key).Nodup
 | 0, _ => by simp
 | i + 1, h => by
  rw [zGH, List.map_append, List.nodup_append]
  refine ⟨zGb M i (by omega), M.keys i (by omega), fun a ha b hb e => ?_⟩
  obtain ⟨u, hu, rfl⟩ := List.mem_map.1 ha
  obtain ⟨v, hv, rfl⟩ := List.mem_map.1 hb
  obtain ⟨j, hj, hu⟩ := List.mem_flatMap.1 hu
  have hj := List.mem_range.1 hj
  obtain ⟨_, h1, _⟩ := (M.ch j (by omega)).mem u hu
  obtain ⟨_, h2, _⟩ := (M.ch i (by omega)).mem v hv
  rw [e, h2] at h1
  omega
theorem n_AllC (h : XIn H x t 0 hs mp) (M : MOk hs C nx) (hl : (allE C).length < 20) : ∃ z, yX (some x) H = some (z, 0) ∧ z.Perm ((allE C).map (·.2)) ∧ z.Pairwise eLt := by
 have hk : (((allE C).map (·.2)).map zA.Key).Nodup := by
  rw [List.map_map]
  exact zGb M 64 (Nat.le_refl _)
 obtain ⟨w, k1, k2, k3⟩ := n_sortE ((allE C).map (·.2)) (by rw [List.length_map]; exact hl) hk
 have e : yX (some x) H = _ := n_allL h M 64 0 66 rfl (by omega)
 rw [e]
 cases he : ((allE C).map (·.2)).isEmpty with
 | true =>
  have : (allE C).map (·.2) = [] := is_emptyE he
  rw [this]
  exact ⟨[], rfl, List.Perm.refl _, List.Pairwise.nil⟩
 | false =>
  rw [cond_false, k1, Option.bind_some, zIZ k2.length_eq, Option.bind_some]
  exact ⟨w, rfl, k2, k3⟩
end
end Go.Proofs.Ytjomnccladjpgaa

/-
 Plain: the law's maps against the index' entries, step by step.
-/
namespace Go.Proofs.Ytjomnccladjpgaa
open Go Go.RowKit
set_option linter.unusedVariables false
set_option linter.unusedSimpArgs false
section
variable {H : Hp} {x t : Nat} {hs : List (List UInt8)} {mp : List (Int × List UInt8)} {C : Nat → List (Nat × zA)} {nx : Nat}
theorem zHJ (C : Nat → List (Nat × zA)) (b : Nat) (l : List (Nat × zA)) (key : List UInt8) : look (updC C b l) key = if qS key = b then l.find? (fun y => y.2.Key == key) else look C key := by
 unfold look updC
 split <;> rfl
structure LM (C : Nat → List (Nat × zA)) (nx : Nat) (hv : List (List UInt8 × zA)) (at_ : List (List UInt8 × Int)) : Prop where
 fh : ∀ key, zY hv key = (look C key).map (·.2)
 fa : ∀ key, zY at_ key = (look C key).map (fun y => (y.1 : Int))
 nh : (hv.map (·.1)).Nodup
 na : (at_.map (·.1)).Nodup
 len : hv.length + 4 ≤ nx
variable {hv : List (List UInt8 × zA)} {at_ : List (List UInt8 × Int)}
theorem LM.isS (L : LM C nx hv at_) (key : List UInt8) : (zY at_ key).isSome = (look C key).isSome := by
 rw [L.fa]
 cases look C key <;> rfl
theorem LM.put (L : LM C nx hv at_) {e : zA} (hl : look C e.Key = none) : LM (updC C (qS e.Key) ((nx, e) :: C (qS e.Key))) (nx + 1) (mset hv e.Key e) (mset at_ e.Key (nx : Int)) := by
 have hk : ∀ key, look (updC C (qS e.Key) ((nx, e) :: C (qS e.Key))) key = if key = e.Key then Option.some (nx, e) else look C key := by
  intro key
  rw [zHJ]
  by_cases h : key = e.Key
  ·
   subst h
   rw [if_pos rfl, if_pos rfl, List.find?_cons_of_pos (by simp)]
  ·
   rw [if_neg h]
   split
   ·
    rename_i hb
    rw [List.find?_cons_of_neg (by simpa using fun e => h e.symm), ← hb]
    rfl
   · rfl
 refine ⟨fun key => ?_, fun key => ?_, zGJ _ _ _ L.nh, zGJ _ _ _ L.na, by have := ms_lenLeK hv e.Key e; have := L.len; omega⟩
 ·
  rw [mf_msK, hk]
  split
  · rfl
  · exact L.fh key
 ·
  rw [mf_msK, hk]
  split
  · rfl
  · exact L.fa key
theorem LM.set (L : LM C nx hv at_) (M : MOk hs C nx) {e e0 : zA} {a : Nat} {l1 l2 : List (Nat × zA)} (hC : C (qS e.Key) = l1 ++ (a, e0) :: l2) (h0 : e0.Key = e.Key) (hl : look C e.Key = Option.some (a, e0)) {hs' : List (List UInt8)} (M' : MOk hs' (updC C (qS e.Key) (l1 ++ (a, e) :: l2)) nx) : LM (updC C (qS e.Key) (l1 ++ (a, e) :: l2)) nx (mset hv e.Key e) at_ := by
 have hk : ∀ key, look (updC C (qS e.Key) (l1 ++ (a, e) :: l2)) key = if key = e.Key then Option.some (a, e) else look C key := by
  intro key
  by_cases h : key = e.Key
  ·
   subst h
   rw [if_pos rfl]
   refine zHb M' (y := (a, e)) (zIc.2 ⟨qS e.Key, zCr _, ?_⟩)
   rw [zAW]
   exact List.mem_append_right _ List.mem_cons_self
  ·
   rw [zHJ, if_neg h]
   split
   ·
    rename_i hb
    unfold look
    rw [hb, hC, List.find?_append, List.find?_append, List.find?_cons_of_neg (by simpa using fun e => h e.symm), List.find?_cons_of_neg (by simpa [h0] using fun e => h e.symm)]
   · rfl
 refine ⟨fun key => ?_, fun key => ?_, zGJ _ _ _ L.nh, L.na, ?_⟩
 ·
  rw [mf_msK, hk]
  split
  · rfl
  · exact L.fh key
 ·
  rw [hk, L.fa]
  split
  ·
   rename_i h
   rw [h, hl]
   rfl
  · rfl
 ·
  have h1 : zY hv e.Key = Option.some e0 := by rw [L.fh, hl]; rfl
  have : (mset hv e.Key e).length = hv.length := by
   unfold mset
   unfold zY at h1
   cases hp : mpos hv e.Key with
   | none => rw [hp] at h1; cases h1
   | some i => simp
  rw [this]
  exact L.len
theorem LM.drop (L : LM C nx hv at_) (M : MOk hs C nx) {key : List UInt8} {y : Nat × zA} {l1 l2 : List (Nat × zA)} (hC : C (qS key) = l1 ++ y :: l2) (hy : y.2.Key = key) : LM (updC C (qS key) (l1 ++ l2)) nx (mdel hv key) (mdel at_ key) := by
 have hk : ∀ q, look (updC C (qS key) (l1 ++ l2)) q = if q = key then none else look C q := by
  intro q
  rw [zHJ]
  by_cases h : q = key
  ·
   subst h
   rw [if_pos rfl, if_pos rfl]
   refine List.find?_eq_none.2 fun z hz hzk => ?_
   have hzk : z.2.Key = q := by simpa using hzk
   have hzm : z ∈ C (qS q) := by
    rw [hC]
    rcases List.mem_append.1 hz with h | h
    · exact List.mem_append_left _ h
    · exact List.mem_append_right _ (List.mem_cons_of_mem _ h)
   have hym : y ∈ C (qS q) := by rw [hC]; exact List.mem_append_right _ List.mem_cons_self
   have := zGh (f := fun y : Nat × zA => y.2.Key) (M.keys _ (zCr _)) hzm hym (hzk.trans hy.symm)
   exact M.alone (zCr _) hC z hz (by rw [this])
  ·
   rw [if_neg h]
   split
   ·
    rename_i hb
    unfold look
    rw [hb, hC, List.find?_append, List.find?_append, List.find?_cons_of_neg (by simpa [hy] using fun e => h e.symm)]
   · rfl
 refine ⟨fun q => ?_, fun q => ?_, zFK _ _ L.nh, zFK _ _ L.na, by have := zHy hv key; have := L.len; omega⟩
 ·
  rw [zJX _ _ _ L.nh, hk]
  split
  · rfl
  · exact L.fh q
 ·
  rw [zJX _ _ _ L.na, hk]
  split
  · rfl
  · exact L.fa q
theorem LM.drop0 (L : LM C nx hv at_) {key : List UInt8} (hl : look C key = none) : LM C nx (mdel hv key) (mdel at_ key) := by
 refine ⟨fun q => ?_, fun q => ?_, zFK _ _ L.nh, zFK _ _ L.na, by have := zHy hv key; have := L.len; omega⟩
 ·
  rw [zJX _ _ _ L.nh]
  split
  · rename_i h; rw [h, hl]; rfl
  · exact L.fh q
 ·
  rw [zJX _ _ _ L.na]
  split
  · rename_i h; rw [h, hl]; rfl
  · exact L.fa q
theorem LM.count (L : LM C nx hv at_) (M : MOk hs C nx) : (allE C).length = hv.length := by
 have h1 := zHI ((allE C).map fun y => y.2.Key) (hv.map (·.1)) (zGb M 64 (Nat.le_refl _)) (fun k hk => by
  obtain ⟨y, hy, rfl⟩ := List.mem_map.1 hk
  rw [zIw, L.fh, zHb M hy]
  simp)
 have h2 := zHI (hv.map (·.1)) ((allE C).map fun y => y.2.Key) L.nh (fun k hk => by
  rw [zIw, L.fh] at hk
  cases e : look C k with
  | none => rw [e] at hk; exact absurd rfl hk
  | some y =>
   obtain ⟨q1, q2⟩ := look_all e
   exact List.mem_map.2 ⟨y, q1, q2⟩)
 rw [List.length_map, List.length_map] at h1 h2
 omega
end
end Go.Proofs.Ytjomnccladjpgaa

/-
 Plain: IndexDoes is true.
-/
namespace Go.Proofs.Ytjomnccladjpgaa
open Go Go.RowKit
set_option linter.unusedVariables false
set_option linter.unusedSimpArgs false
theorem awake20 : (zDW Hp.e).map (·.1) = some true := by kernel_rfl
theorem n_awake20 : ∃ w1, zDW Hp.e = some (true, w1) := by
 have h := awake20
 cases hx : zDW Hp.e with
 | none => rw [hx] at h; cases h
 | some y =>
  obtain ⟨b, w1⟩ := y
  rw [hx] at h
  injection h with h
  exact ⟨w1, by rw [show b = true from h]⟩
theorem zGy {t : Nat} {y : (Option Nat) × Int × Hp} (hy : y.1 = some t) (p : List (List UInt8)) (hpl : p.length ≤ 20) (hp : ∀ r ∈ p, r.length = 64) : ∀ (n i : Nat) (H : Hp) (hs : List (List UInt8)) (mp : List (Int × List UInt8)), i ≤ p.length → p.length - i < n → TIn H t hs mp → hs.length = 20 → (∀ k, k < i → hs[k]? = p[k]?) →
  ∃ H' hs' mp', zCC p y n (i : Int) H = some (some t, H') ∧ TIn H' t hs' mp' ∧ hs'.length = 20 ∧ (∀ k, k < p.length → hs'[k]? = p[k]?) ∧ (∀ k, p.length ≤ k → hs'[k]? = hs[k]?)
 | 0, i, H, hs, mp, _, h, _, _, _ => by omega
 | n + 1, i, H, hs, mp, hi, h, hT, hl, hk => by
  unfold zCC
  by_cases hlt : i < p.length
  ·
   obtain ⟨H1, w1, w2, m, v, w3⟩ := zGE hT (k := i) (by omega) (x := p[i]) (hp _ (List.getElem_mem hlt))
   rw [zX (zAe (by omega)), zAj hlt, Option.bind_some, hy, w1, Option.bind_some, zAI (by omega)]
   obtain ⟨H', hs', mp', q1, q2, q3, q4, q5⟩ := zGy hy p hpl hp n (i + 1) H1 (hs.set i p[i]) _ (by omega) (by omega) w2 (by rw [List.length_set]; exact hl) (fun k hki => by
    by_cases e : k = i
    ·
     subst e
     rw [List.getElem?_set_self (by omega), List.getElem?_eq_getElem hlt]
    ·
     rw [List.getElem?_set_ne (by omega)]
     exact hk k (by omega))
   exact ⟨H', hs', mp', q1, q2, q3, q4, fun k hpk => by rw [q5 k hpk, List.getElem?_set_ne (by omega)]⟩
  ·
   have e : i = p.length := by omega
   subst e
   rw [zG (yY (by omega)), hy]
   exact ⟨H, hs, mp, rfl, hT, hl, hk, fun _ _ => rfl⟩
theorem n_Begun (p : List (List UInt8)) (hpl : p.length ≤ 20) (hp : ∀ r ∈ p, r.length = 64) (w1 : Hp) : ∃ t H' hs mp, zCn p w1 = some (some t, H') ∧ TIn H' t hs mp ∧ hs.length = 20 ∧ (∀ k, k < p.length → hs[k]? = p[k]?) ∧ (∀ k, p.length ≤ k → k < 20 → hs[k]? = some Z64) ∧ (p = [] → mp = []) := by
 obtain ⟨H1, H2, H3, i, j, d, e1, e2, e3, e4, e5, e6⟩ := open_new w1 (n := 30) (s := 8) (by omega) (by omega) (by omega)
 obtain ⟨H4, b1, b2, b3⟩ := n_Begin e4.toLIn
 have hl : d.now.length = 30 := by rw [e6]; simp
 have hz : ∀ k, k < 20 → (d.now.drop (2 + 8))[k]? = some Z64 := fun k hk => by
  rw [List.getElem?_drop, e6, List.getElem?_set_ne (by omega), List.getElem?_set_ne (by omega), List.getElem?_replicate, if_pos (by omega)]
 unfold zCn
 rw [show ((30 : Nat) : Int) = 30 from rfl] at e1
 rw [e1, Option.bind_some]
 show ∃ t H' hs mp, Option.bind (zCO (some i) ((8 : Nat) : Int) H1) _ = _ ∧ _
 rw [e2, Option.bind_some]
 show ∃ t H' hs mp, Option.bind (zDJ (some i) H2) _ = _ ∧ _
 rw [e3, Option.bind_some]
 show ∃ t H' hs mp, Option.bind (zBr (some j) H3) _ = _ ∧ _
 rw [b1, Option.bind_some]
 by_cases hp0 : p = []
 ·
  subst hp0
  exact ⟨H3.tx.length, H4, _, [], rfl, b2, by rw [List.length_drop, hl], fun k h => absurd h (Nat.not_lt_zero _), fun k _ h => hz k h, fun _ => rfl⟩
 ·
  obtain ⟨H', hs', mp', q1, q2, q3, q4, q5⟩ := zGy (t := H3.tx.length) (y := (some H3.tx.length, 0, H4)) rfl p hpl hp (p.length + 1) 0 H4 _ [] (by omega) (by omega) b2 (by rw [List.length_drop, hl]) (fun k h => absurd h (Nat.not_lt_zero _))
  exact ⟨H3.tx.length, H', hs', mp', q1, q2, q3, q4, fun k h1 h2 => by rw [q5 k h1, hz k h2], fun e => absurd e hp0⟩
theorem n_At {H : Hp} {t tb : Nat} {hs : List (List UInt8)} {mp : List (Int × List UInt8)} (h : TIn H t hs mp) (ht : tb + 4 ≤ hs.length) : ∃ H', zB3 (some t) (tb : Int) H = some (some H.ix.length, H') ∧ XIn H' H.ix.length t tb hs mp := by
 refine ⟨H.nw_ix ⟨some t, (tb : Int)⟩, rfl, h.tell rfl rfl rfl rfl rfl, ?_, ht⟩
 show (H.ix ++ [_])[H.ix.length]? = _
 exact List.getElem?_concat_length
theorem n_few20 (p : List zA4) (hp : p.length ≤ 9223372036854775807) : ∃ r, zGa p = some r ∧ (r = true → p.length ≤ 30) := by
 have key : ∀ (n i : Nat), i ≤ p.length → p.length - i < n → ∃ r, zCz p n (i : Int) = some r ∧ (r = true → p.length ≤ 30) := by
  intro n
  induction n with
  | zero => intro i _ h; omega
  | succ n ih =>
   intro i hi h
   unfold zCz
   by_cases hlt : i < p.length
   ·
    rw [zX (zAe (by omega)), zAj hlt, Option.bind_some]
    cases decide ((p[i].E.Key.length : Int) > 100) with
    | true => exact ⟨false, rfl, fun h => Bool.noConfusion h⟩
    | false =>
     rw [zG rfl, zAI (by omega)]
     exact ih (i + 1) (by omega) (by omega)
   ·
    rw [zG (yY (by omega))]
    exact ⟨_, rfl, fun h => by
     have := of_decide_eq_true h
     omega⟩
 exact key _ 0 (by omega) (by omega)
end Go.Proofs.Ytjomnccladjpgaa

/-
 Plain: the law IndexMap.
-/
namespace Go.Proofs.Ytjomnccladjpgaa
open Go Go.RowKit
set_option linter.unusedVariables false
set_option linter.unusedSimpArgs false
theorem st_find (w : Hp) : ∃ E a, yK none [97] w = some (E, a, 1) := ⟨_, _, by rfl⟩
theorem st_put (w : Hp) : yI none 1 (zA.mk [97] 0 0 0) w = some (1, w) := by rfl
theorem st_set (w : Hp) : yP none (zA.mk [97] 0 0 0) w = some (1, w) := by rfl
theorem st_drop (w : Hp) : ∃ a, yM none [97] w = some (a, 1, w) := ⟨_, by rfl⟩
theorem st_all (w : Hp) : ∃ x' w' z, zB3 none 0 w = some (x', w') ∧ yX x' w' = some (z, 1) := by
 refine ⟨some w.ln_ix, w.nw_ix ⟨none, 0⟩, [], rfl, ?_⟩
 have hg : (w.nw_ix ⟨none, 0⟩).ge_ix w.ln_ix = some ⟨none, 0⟩ := List.getElem?_concat_length
 generalize w.nw_ix ⟨none, 0⟩ = H at hg
 generalize w.ln_ix = i at hg
 have h1 : yL (some i) 0 H = some ⟨0, 0⟩ := by
  unfold yL
  show Option.bind (H.ge_ix i) _ = _
  rw [hg]
  rfl
 have h2 : ∀ z, qJ (some i) z H = some ([], 1) := by
  intro z
  unfold qJ
  show Option.bind (H.ge_ix i) _ = _
  rw [hg]
  rfl
 have h3 : yV (some i) ⟨0, 0⟩ H = some (0, 1) := by
  unfold yV
  rw [h2]
  rfl
 have h4 : zJo (some i) 0 H [] = some ((⟨0, 0⟩, 0, ⟨⟨[], 0, 0, 0⟩, 0⟩, 1), []) := by
  unfold zJo
  rw [h1, Option.bind_some, h3]
  rfl
 show allL (some i) H (65 + 1) 0 [] = _
 unfold allL
 rw [zX (by rfl), h4]
 rfl
section
variable {H : Hp} {x t : Nat} {hs : List (List UInt8)} {mp : List (Int × List UInt8)} {C : Nat → List (Nat × zA)} {nx : Nat} {hv : List (List UInt8 × zA)} {at_ : List (List UInt8 × Int)}
theorem n_l2M (h : XIn H x t 0 hs mp) (M : MOk hs C nx) (L : LM C nx hv at_) {z : List zA} (hp : z.Perm ((allE C).map (·.2))) (hz : z.Pairwise eLt) (hlen : z.length ≤ 64) (w : Hp) : ∀ (n i : Nat), i ≤ z.length → z.length - i < n → zAn (z, 0) (some x, w) H hv at_ n (i : Int) = some (true, H)
 | 0, i, _, hn => by omega
 | n + 1, i, hi, hn => by
  unfold zAn
  by_cases hlt : i < z.length
  ·
   have hm : z[i] ∈ (allE C).map (·.2) := hp.mem_iff.1 (List.getElem_mem hlt)
   obtain ⟨y, hy, e⟩ := List.mem_map.1 hm
   have hl := zHb M hy
   rw [e] at hl
   obtain ⟨E, a, er, k1, k2, _⟩ := n_FindC h M z[i].Key
   obtain ⟨rfl, rfl, rfl⟩ := k2 y hl
   have m1 : zY hv z[i].Key = some z[i] := by rw [L.fh, hl, ← e]; rfl
   have m2 : zY at_ z[i].Key = some (y.1 : Int) := by rw [L.fa, hl]; rfl
   rw [zX (zAe (by show (i : Int) < (z.length : Int); omega)), show idx (z, (0 : Int)).1 (i : Int) = some z[i] from zAj hlt, Option.bind_some]
   show Option.bind (yK (some x) z[i].Key H) _ = _
   rw [k1, Option.bind_some, m1, m2, Option.getD_some, Option.getD_some, e, zG (by simp), zG (zCT rfl), zG (by simp), zG (zCT rfl)]
   have ih := n_l2M h M L hp hz hlen w n (i + 1) (by omega) (by omega)
   cases i with
   | zero =>
    rw [zG (yY (by omega)), zAI (by omega)]
    exact ih
   | succ j =>
    have e1 : wi (((j + 1 : Nat) : Int) - 1) = (j : Int) := by rw [zBe (by omega) (by omega)]; omega
    have hj : j < z.length := by omega
    have hlt2 : sLt z[j].Key z[j + 1].Key = true := List.pairwise_iff_getElem.1 hz j (j + 1) (by omega) hlt (by omega)
    rw [zX (zAe (by omega)), e1, show idx (z, (0 : Int)).1 (j : Int) = some z[j] from zAj hj, Option.bind_some, hlt2, zG (by rfl), zAI (by omega)]
    exact ih
  · rw [zG (yY (by show ¬ (i : Int) < (z.length : Int); omega))]
theorem n_j1M (h : XIn H x t 0 hs mp) (M : MOk hs C nx) (L : LM C nx hv at_) (w : Hp) : zB2 (some x, w) hv at_ H = some (true, H) := by
 have hc := L.count M
 have hl := L.len
 have hi := M.hi
 obtain ⟨z, k1, k2, k3⟩ := n_AllC h M (by omega)
 have hz : z.length = hv.length := by rw [k2.length_eq, List.length_map, hc]
 unfold zB2
 show Option.bind (yX (some x) H) _ = _
 rw [k1, Option.bind_some, zG (zCT rfl), zG (zCT (by show (z.length : Int) = _; rw [hz]))]
 exact n_l2M h M L k2 k3 (by omega) w (z.length + 1) 0 (by omega) (by omega)
theorem zHL (p : List zA4) (hpl : p.length ≤ 30) (w : Hp) : ∀ (n i nx : Nat) (H : Hp) (hs : List (List UInt8)) (mp : List (Int × List UInt8)) (C : Nat → List (Nat × zA)) (hv : List (List UInt8 × zA)) (at_ : List (List UInt8 × Int)), i ≤ p.length → p.length - i < n → XIn H x t 0 hs mp → MOk hs C nx → LM C nx hv at_ →
  ∃ w', qD p (some x, w) n (nx : Int) (i : Int) hv at_ H = some (true, w')
 | 0, i, _, _, _, _, _, _, _, _, hn, _, _, _ => by omega
 | n + 1, i, nx, H, hs, mp, C, hv, at_, hi, hn, h, M, L => by
  have hnx := M.hi
  unfold qD
  by_cases hlt : i < p.length
  ·
   rw [zX (zAe (by omega)), zAj hlt, Option.bind_some, zAI (n := i) (by omega)]
   generalize p[i] = d
   by_cases c1 : d.Kind = 1
   ·
    rw [zX (by rw [c1]; rfl)]
    by_cases hn20 : nx < 20
    ·
     rw [zG (yY (by omega))]
     rcases n_PutC h M hn20 d.E with ⟨hor, r, hr, k⟩ | ⟨hm, hl, H', hs', mp', k, h', M'⟩
     ·
      rw [show yI (some x, w).1 (nx : Int) d.E H = _ from k, Option.bind_some, L.isS]
      have ih := zHL p hpl w n (i + 1) nx H hs mp C hv at_ (by omega) (by omega) h M L
      cases hl : look C d.E.Key with
      | none =>
       have hm : mayB d.E = false := hor.resolve_right fun h => h hl
       rw [zG (by rfl), zX (by rfl), zJL, Option.bind_some, hm, zG (by rw [zDn hr]; rfl)]
       unfold zAF
       rw [zG (zDn hr), zAI (n := i) (by omega)]
       exact ih
      | some y =>
       rw [zX (by rfl), zG (zDn hr), zG (by rfl)]
       unfold zAF
       rw [zG (zDn hr), zAI (n := i) (by omega)]
       exact ih
     ·
      rw [show yI (some x, w).1 (nx : Int) d.E H = _ from k, Option.bind_some, L.isS, hl, zG (by rfl), zX (by rfl), zJL, Option.bind_some, hm, zG (by rfl)]
      unfold zAF
      rw [zX (by rfl), zAI (n := nx) (by omega), zAI (n := i) (by omega)]
      exact zHL p hpl w n (i + 1) (nx + 1) H' hs' mp' _ _ _ (by omega) (by omega) h' M' (L.put hl)
    ·
     rw [zX (zAe (by omega))]
     exact zHL p hpl w n (i + 1) nx H hs mp C hv at_ (by omega) (by omega) h M L
   ·
    rw [zG (zDn c1)]
    by_cases c2 : d.Kind = 2
    ·
     rw [zX (by rw [c2]; rfl)]
     rcases n_SetC h M d.E with ⟨hor, r, hr, k⟩ | ⟨hm, l1, l2, a, e0, H', hs', mp', hC, h0, hl, k, h', M'⟩
     ·
      rw [show yP (some x, w).1 d.E H = _ from k, Option.bind_some, L.isS]
      have ih := zHL p hpl w n (i + 1) nx H hs mp C hv at_ (by omega) (by omega) h M L
      cases hl : look C d.E.Key with
      | none =>
       rw [zG (by rfl), zG (by rw [zDn hr]; rfl)]
       unfold zAm
       rw [zG (zDn hr), zAI (n := i) (by omega)]
       exact ih
      | some y =>
       have hm : mayB d.E = false := hor.resolve_right fun h => by rw [hl] at h; cases h
       rw [zX (by rfl), zJL, Option.bind_some, hm, zG (by rw [zDn hr]; rfl)]
       unfold zAm
       rw [zG (zDn hr), zAI (n := i) (by omega)]
       exact ih
     ·
      rw [show yP (some x, w).1 d.E H = _ from k, Option.bind_some, L.isS, hl, zX (by rfl), zJL, Option.bind_some, hm, zG (by rfl)]
      unfold zAm
      rw [zX (by rfl), zAI (n := i) (by omega)]
      exact zHL p hpl w n (i + 1) nx H' hs' mp' _ _ _ (by omega) (by omega) h' M' (L.set M hC h0 hl M')
    ·
     rw [zG (zDn c2)]
     by_cases c3 : d.Kind = 3
     ·
      rw [zX (by rw [c3]; rfl)]
      rcases n_DropC h M d.E.Key with ⟨hl, a, r, hr, k⟩ | ⟨l1, l2, y, H', hs', mp', hC, hy, hl, k, h', M'⟩
      ·
       rw [show yM (some x, w).1 d.E.Key H = _ from k, Option.bind_some, L.isS, hl, zG (by rw [zDn hr]; rfl), zG (by rfl)]
       unfold zBK
       rw [zAI (n := i) (by omega)]
       exact zHL p hpl w n (i + 1) nx H hs mp C _ _ (by omega) (by omega) h M (L.drop0 hl)
      ·
       have m2 : zY at_ d.E.Key = some (y.1 : Int) := by rw [L.fa, hl]; rfl
       rw [show yM (some x, w).1 d.E.Key H = _ from k, Option.bind_some, m2, zG (by rfl), zX (by rfl), Option.getD_some, zG (zCT rfl)]
       unfold zBK
       rw [zAI (n := i) (by omega)]
       exact zHL p hpl w n (i + 1) nx H' hs' mp' _ _ _ (by omega) (by omega) h' M' (L.drop M hC hy)
     ·
      rw [zG (zDn c3)]
      exact zHL p hpl w n (i + 1) nx H hs mp C hv at_ (by omega) (by omega) h M L
  ·
   rw [zG (yY (by omega))]
   exact ⟨_, n_j1M h M L w⟩
end
theorem ofBE_z : ∀ o : Nat, o ≤ 60 → ofBE ((Z64.drop o).take 4) = 0 := by
 have h : (List.range 61).all (fun o => ofBE ((Z64.drop o).take 4) == 0) = true := by kernel_rfl
 exact fun o ho => by simpa using List.all_eq_true.1 h o (List.mem_range.2 (by omega))
theorem zKA (p : List zA4) (hp : p.length ≤ 9223372036854775807) : ∃ w', zDq p Hp.e = some (true, w') := by
 unfold zDq
 obtain ⟨w1, ha⟩ := n_awake20
 rw [ha, Option.bind_some, zG (by rfl)]
 show ∃ w', Option.bind (yK none [97] w1) _ = _
 obtain ⟨E, a, hf⟩ := st_find w1
 rw [hf, Option.bind_some, zG (by rfl)]
 show ∃ w', Option.bind (yI none 1 (zA.mk [97] 0 0 0) w1) _ = _
 rw [st_put, Option.bind_some, zG (by rfl)]
 show ∃ w', Option.bind (yP none (zA.mk [97] 0 0 0) w1) _ = _
 rw [st_set, Option.bind_some, zG (by rfl)]
 show ∃ w', Option.bind (yM none [97] w1) _ = _
 obtain ⟨a2, hd⟩ := st_drop w1
 rw [hd, Option.bind_some, zG (by rfl)]
 show ∃ w', Option.bind (zB3 none 0 w1) _ = _
 obtain ⟨x', w', z, h1, h2⟩ := st_all w1
 rw [h1, Option.bind_some]
 show ∃ w2, Option.bind (yX x' w') _ = _
 rw [h2, Option.bind_some, zG (by rfl)]
 obtain ⟨r, k1, k2⟩ := n_few20 p hp
 rw [k1, Option.bind_some]
 cases r with
 | false => exact ⟨_, rfl⟩
 | true =>
  have hpl := k2 rfl
  rw [zG (by rfl)]
  show ∃ w2, Option.bind (zCn [] w') _ = _
  obtain ⟨t, H1, hs, mp, b1, b2, b3, b4, b5, b6⟩ := n_Begun [] (Nat.zero_le _) (fun _ h => nomatch h) w'
  rw [b1, Option.bind_some]
  show ∃ w2, Option.bind (zB3 (some t) 0 H1) _ = _
  obtain ⟨H2, c1, c2⟩ := n_At (tb := 0) b2 (by omega)
  rw [show zB3 (some t) 0 H1 = _ from c1, Option.bind_some]
  have hz : ∀ k, k < 20 → hs[k]? = some Z64 := fun k h => b5 k (Nat.zero_le _) h
  have hall : ∀ r ∈ hs, r = Z64 := fun r hr => by
   obtain ⟨k, hk⟩ := List.getElem?_of_mem hr
   have hk20 : k < 20 := by rw [← b3]; exact (List.getElem?_eq_some_iff.1 hk).1
   exact (Option.some.inj ((hz k hk20).symm.trans hk)).symm
  have M : MOk hs (fun _ => []) 4 := ⟨Nat.le_refl _, by omega, b3, fun r hr => by rw [hall r hr]; rfl, fun bk hb => by
   unfold num
   rw [List.getD_eq_getElem?_getD, hz _ (by omega)]
   show ofBE ((Z64.drop _).take 4) = 0
   exact ofBE_z _ (by omega), fun _ _ => trivial, fun _ _ => List.nodup_nil, fun _ _ => Nat.zero_le _⟩
  have L : LM (fun _ => []) 4 [] [] := ⟨fun _ => rfl, fun _ => rfl, List.nodup_nil, List.nodup_nil, Nat.le_refl _⟩
  exact zHL p hpl H2 (p.length + 1) 0 4 H2 hs mp (fun _ => []) [] [] (Nat.zero_le _) (by omega) c2 M L
end Go.Proofs.Ytjomnccladjpgaa

/-
 IndexMap's contract: it starts with no heap, and returns true.
-/
namespace Go.Proofs.Ytjomnccladjpgaa
open Go Go.RowKit
set_option linter.unusedVariables false
theorem lawIM (p : List zA4) (hp : p.length ≤ 9223372036854775807) : FC Try.prog 9 [.t (.d (.seq 6 (List.map zAQ p)))] [] (.t (.d (.lit (.bool true)))) := by
 obtain ⟨w', h⟩ := zKA p hp
 exact fc_of_h (zF5 p Hp.e (true, w') h) (fun c => hpA_e c) rfl (by show 1 ≤ OB; decide)
end Go.Proofs.Ytjomnccladjpgaa

/-
 What came in: from the reading of the arguments to data.
-/
namespace Go.Proofs.Ytjomnccladjpgaa
open Go Go.RowKit Go.ChangeShapes Go.WideShapes Go.ChangeAt
set_option linter.unusedVariables false
set_option maxRecDepth 20000
def memW (w : World) : Mem := fun b p => w.cell? ⟨b, p, none⟩
theorem memW_sat (w : World) : ∀ b p u, memW w b p = some u → w.cell? ⟨b, p, none⟩ = some u := fun _ _ _ h => h
def OpT {H : Type} (enc : TypeId × Value → H) (w : World) {α : Type} (t : TypeId) (c : α → List D) (ok : α → Prop) : Prop :=
 ∀ (base : Nat) (spare : Nat → Bool) (held : Bool) (fuel : Nat) (cs : List Value) (x : DataW H × List MemPlace), DataW.trod enc Try.prog w base spare held fuel t cs = some x → ∃ v : α, RepL (memW w) (c v) cs ∧ ok v
def OpF {H : Type} (enc : TypeId × Value → H) (w : World) {α : Type} (m : Nat) (t : TypeId) (c : α → List D) (ok : α → Prop) : Prop :=
 ∀ (base : Nat) (spare : Nat → Bool) (held : Bool) (fuel : Nat) (cs : List Value) (x : DataW H × List MemPlace), fuel < m → DataW.trod enc Try.prog w base spare held fuel t cs = some x → ∃ v : α, RepL (memW w) (c v) cs ∧ ok v
theorem OpT.lt {H : Type} {enc : TypeId × Value → H} {w : World} {α : Type} {t : TypeId} {c : α → List D} {ok : α → Prop} (h : OpT enc w t c ok) (m : Nat) : OpF enc w m t c ok := fun b s l f cs x _ k => h b s l f cs x k
theorem OpT.of {H : Type} {enc : TypeId × Value → H} {w : World} {α : Type} {t : TypeId} {c : α → List D} {ok : α → Prop} (h : ∀ m, OpF enc w m t c ok) : OpT enc w t c ok := fun b s l f cs x k => h (f + 1) b s l f cs x (Nat.lt_succ_self f) k
def zJz (k : IntKind) (n : Int) : Prop := (Lit.int k n).wf = true
def okLen {α : Type} (l : List α) : Prop := l.length ≤ 9223372036854775807
def okList {α : Type} (ok : α → Prop) (l : List α) : Prop := l.length ≤ 9223372036854775807 ∧ ∀ x ∈ l, ok x
theorem zFR {m : Mem} {d : D} {u : Value} (h : RepD m d u) : RepL m [d] [u] := by
 refine ⟨rfl, fun j e hj => ?_⟩
 match j, hj with
 | 0, hj => injection hj with hj; subst hj; exact ⟨u, rfl, h⟩
 | j + 1, hj => simp at hj
theorem zDS {m : Mem} {l1 l2 : List D} {cs : List Value} {o k : Nat} (h1 : RepL m l1 ((cs.drop o).take k)) (h2 : RepL m l2 (cs.drop (o + k))) : RepL m (l1 ++ l2) (cs.drop o) := by
 have e : cs.drop o = (cs.drop o).take k ++ cs.drop (o + k) := by rw [← List.drop_drop, List.take_append_drop]
 rw [e]
 refine ⟨by rw [List.length_append, List.length_append, h1.1, h2.1], fun j d hj => ?_⟩
 rcases Nat.lt_or_ge j l1.length with hl | hl
 ·
  rw [List.getElem?_append_left hl] at hj
  obtain ⟨u, a, b⟩ := h1.2 j d hj
  exact ⟨u, by rw [List.getElem?_append_left (by rw [h1.1]; exact hl)]; exact a, b⟩
 ·
  rw [List.getElem?_append_right hl] at hj
  obtain ⟨u, a, b⟩ := h2.2 _ d hj
  exact ⟨u, by rw [List.getElem?_append_right (by rw [h1.1]; exact hl), h1.1]; exact a, b⟩
theorem zI4 {m : Mem} {cs : List Value} {n : Nat} (h : cs.length = n) : RepL m [] (cs.drop n) := by
 rw [List.drop_of_length_le (by omega)]
 exact ⟨rfl, fun j d hj => by simp at hj⟩
section
variable {H : Type} {enc : TypeId × Value → H} {w : World}
theorem zH8 {t : TypeId} {k : IntKind} (ht : Try.prog.underlying t = some (.int k)) : OpT enc w t (cInt k) (zJz k) := fun b s l f cs x h => by
 obtain ⟨n, rfl, _, hw⟩ := DataW.trod_int ht h
 exact ⟨n, zFR (.lit _ rfl), hw⟩
theorem op_str {t : TypeId} (ht : Try.prog.underlying t = some .string) : OpT enc w t cStr okLen := fun b s l f cs x h => by
 obtain ⟨n, rfl, _, hs⟩ := DataW.trod_string ht h
 refine ⟨n.data.toList, zFR ?_, ?_⟩
 ·
  obtain ⟨⟨y⟩⟩ := n
  exact .lit _ rfl
 ·
  unfold maxLen at hs
  show n.data.toList.length ≤ _
  have : n.data.toList.length = n.size := by simp
  omega
theorem zH3 {α : Type} (P : Nat → α → Prop) : ∀ n : Nat, (∀ i, i < n → ∃ x, P i x) → ∃ l : List α, l.length = n ∧ ∀ i (h : i < l.length), P i l[i]
 | 0, _ => ⟨[], rfl, fun i h => absurd h (by simp)⟩
 | n + 1, h => by
  obtain ⟨l, hl, hp⟩ := zH3 P n fun i hi => h i (by omega)
  obtain ⟨x, hx⟩ := h n (by omega)
  refine ⟨l ++ [x], by simp [hl], fun i hi => ?_⟩
  by_cases h1 : i < l.length
  · rw [List.getElem_append_left h1]; exact hp i h1
  ·
   have : i = n := by simp at hi; omega
   subst this
   rw [List.getElem_append_right (by omega)]
   simpa [hl] using hx
theorem op_sliceF {α : Type} {t te : TypeId} {k m : Nat} {c : α → List D} {ok : α → Prop} (ht : Try.prog.underlying t = some (.slice te)) (hk : Try.prog.cellsOf te = k) (hk0 : 0 < k) (he : OpF enc w m te c ok) : OpF enc w (m + 1) t (cSl k c) (okList ok) := fun b s l f cs x hf h => by
 rcases DataW.trod_slice ht h with ⟨rfl, _⟩ | ⟨a, len, cap, elems, rest, n, hn, rfl, _, hba, hlc, hcm, hel, hev, _⟩
 · exact ⟨[], zFR (RepD.nilSeq _ _), by simp, fun x hx => by cases hx⟩
 ·
  have get : ∀ i, i < len → ∃ v : α, (∃ cs' : List Value, cs'.length = k ∧ (∀ j u, cs'[j]? = some u → w.cell? ((a.add (i * k)).add j) = some u) ∧ RepL (memW w) (c v) cs') ∧ ok v := by
   intro i hi
   have h1 := hev i hi
   obtain ⟨y, hy⟩ : ∃ y, elems[i]? = some y := ⟨elems[i], List.getElem?_eq_getElem (by omega)⟩
   rw [hy, hk] at h1
   obtain ⟨cs', hcs', ht'⟩ := Option.bind_eq_some_iff.1 h1
   obtain ⟨hc1, hc2, hc3⟩ := World.cells?_some hcs'
   obtain ⟨v, hrep, hok⟩ := he _ _ _ n cs' y (by omega) ht'
   refine ⟨v, ⟨cs', hc2, fun j u hu => ?_, hrep⟩, hok⟩
   have hjl : j < cs'.length := (List.getElem?_eq_some_iff.1 hu).1
   have hg := hc3 j (by omega)
   rw [hg, ← hu]
  by_cases h0 : len = 0
  ·
   subst h0
   exact ⟨[], zFR (.seq k [] _ cap 0 0 (fun _ _ => undef) (by simp) hcm (fun h => absurd rfl h) (fun i r h => by simp at h) (fun i r j d h => by simp at h) (fun i r j d h => by simp at h)), by simp, fun x hx => by cases hx⟩
  ·
   have hs : a.spot = none := by
    obtain ⟨v, ⟨cs', hl4, hcell, _⟩, _⟩ := get 0 (by omega)
    have := World.cell?_spot (hcell 0 _ (List.getElem?_eq_getElem (by omega)))
    simpa [Addr.add] using this
   obtain ⟨g, o, sp⟩ := a
   simp only at hs
   subst hs
   obtain ⟨l, hll, hlp⟩ := zH3 _ len get
   refine ⟨l, zFR ?_, by unfold maxLen at hcm; omega, fun x hx => ?_⟩
   ·
    have := RepD.seq (m := memW w) k (l.map c) (some ⟨g, o, none⟩) cap g o (fun i j => (memW w g (o + i * k + j)).getD undef) (by simp; omega) hcm (fun _ => rfl) (fun i r hi => ?_) (fun i r j d hi hj => ?_) (fun i r j d hi hj => ?_)
    · rwa [List.length_map, hll] at this
    all_goals
     rw [List.getElem?_map] at hi
     have hlt : i < l.length := by
      rcases Nat.lt_or_ge i l.length with g | g
      · exact g
      · rw [List.getElem?_eq_none g] at hi; cases hi
     rw [List.getElem?_eq_getElem hlt] at hi
     injection hi with hi
     subst hi
     obtain ⟨⟨cs', h1, h2, h3⟩, _⟩ := hlp i hlt
    ·
     have := h3.1
     omega
    all_goals
     obtain ⟨u, k1, k2⟩ := h3.2 j d hj
     have k3 := h2 j u k1
     rw [Addr.add_mid, Addr.add_mid] at k3
     have k4 : memW w g (o + i * k + j) = some u := k3
     rw [k4]
    · rfl
    · exact k2
   ·
    obtain ⟨i, hi, rfl⟩ := List.getElem_of_mem hx
    exact (hlp i hi).2
theorem op_slice {α : Type} {t te : TypeId} {k : Nat} {c : α → List D} {ok : α → Prop} (ht : Try.prog.underlying t = some (.slice te)) (hk : Try.prog.cellsOf te = k) (hk0 : 0 < k) (he : OpT enc w te c ok) : OpT enc w t (cSl k c) (okList ok) :=
 fun b s l f cs x h => op_sliceF ht hk hk0 (he.lt f) b s l f cs x (Nat.lt_succ_self f) h
end
theorem fc_law {f : FuncId} {args : List A} (h : FC Try.prog f args [] (.t (.d (.lit (.bool true))))) {w : World} {vals : Array Value} (hs : vals.size = args.length) (hsat : ∀ b p u, memW w b p = some u → w.cell? ⟨b, p, none⟩ = some u) (hr : ∀ s, RepA (memW w) w (fun _ => none) (argS args) s (argS args s) (vals.getD s undef)) (htbl : Mle TBL (memW w) := by intro b p u h; simp [TBL, TBLS] at h) :
    Calls Try.prog f vals w fun e w' => e = .returned (.bool true) ∧ Below w.heap.size w w' := by
  refine (h w (memW w) (fun _ => none) vals hsat htbl (fun _ _ h => by cases h) (fun _ _ _ h => by cases h) hs hr).mono ?_
  rintro e w' ⟨u, m', o', S', a', ρ, rfl, J, hu, _⟩
  have hS : Same (fun _ => False) w w' := J.same.weaken fun g h => h rfl
  have hu : RepD m' (.lit (.bool true)) u := hu
  cases hu
  exact ⟨rfl, hS.below⟩
theorem repl_head {m : Mem} {d : D} {cs : List Value} (h : RepL m [d] cs) : ∃ u, cs = [u] ∧ RepD m d u := by
 match cs, h.1 with
 | [u], _ =>
  obtain ⟨v, h1, h2⟩ := h.2 0 d rfl
  injection h1 with h1
  subst h1
  exact ⟨_, rfl, h2⟩
end Go.Proofs.Ytjomnccladjpgaa
