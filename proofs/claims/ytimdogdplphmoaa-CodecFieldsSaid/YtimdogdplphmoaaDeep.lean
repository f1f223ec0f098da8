/-
  The contracts of the document's 'Deep' and of codec's 'depth', 'Depth'.
-/
import Derived.Test.YtimdogdplphmoaaVal
import Derived.Test.YtimdogdplphmoaaProg
namespace Go.Proofs.Ytimdogdplphmoaa
open Go.RowKit

namespace V
/-- How deep a value is. -/
def deep : V → Nat
  | .mk k _ _ l => if k = 3 then dm l 1 else 0
where dm : List V → Nat → Nat
  | [], d => d
  | x :: r, d => dm r (max d (deep x + 1))
theorem dm_le : ∀ (l : List V) (d m : Nat), (∀ x ∈ l, deep x + 1 ≤ m) → d ≤ m → deep.dm l d ≤ m
  | [], _, _, _, h => h
  | x :: r, d, m, hl, h => by
    rw [deep.dm]
    exact dm_le r _ m (fun y hy => hl y (List.mem_cons_of_mem _ hy)) (Nat.max_le.2 ⟨h, hl x List.mem_cons_self⟩)
theorem deep_le_ht : ∀ (d : Nat) (v : V), v.ht ≤ d → v.deep ≤ v.ht
  | 0, v, h => absurd (ht_pos v) (by omega)
  | d + 1, .mk k n b l, h => by
    rw [deep]
    split
    · refine dm_le l 1 _ (fun x hx => ?_) (ht_pos _)
      have h1 := ht_item (.mk k n b l) x hx
      have h2 := deep_le_ht d x (by omega)
      omega
    · omega
theorem deep_item (v x : V) (h : x ∈ v.l) : x.deep + 1 ≤ v.ht := by
  have h1 := ht_item v x h
  have h2 := deep_le_ht _ x (Nat.le_refl _)
  omega
theorem deep_eq (v : V) (h : v.k = 3) : v.deep = deep.dm v.l 1 := by cases v; simp [V.k] at h; simp [deep, h, V.l]
theorem dm_drop (l : List V) (k d : Nat) (h : k < l.length) : deep.dm (l.drop k) d = deep.dm (l.drop (k + 1)) (max d (deep l[k] + 1)) := by
  rw [List.drop_eq_getElem_cons h, deep.dm]
/-- The depth, cut off behind m more levels. -/
def dn (m : Nat) : List V → Nat → Nat
  | [], d => d
  | x :: r, d => dn m r (max d (1 + min (deep x) m))
theorem dn_eq (m : Nat) : ∀ (l : List V) (d : Nat), dn m l (min d (m + 1)) = min (deep.dm l d) (m + 1)
  | [], d => rfl
  | x :: r, d => by
    rw [dn, deep.dm, ← dn_eq m r]
    congr 1
    omega
theorem dn_drop (m : Nat) (l : List V) (k d : Nat) (h : k < l.length) : dn m (l.drop k) d = dn m (l.drop (k + 1)) (max d (1 + min (deep l[k]) m)) := by
  rw [List.drop_eq_getElem_cons h, dn]
theorem deep_zero (v : V) (h : ¬ v.k = 3) : v.deep = 0 := by cases v; simp [k] at h; simp [deep, h]
end V

set_option maxHeartbeats 1000000 in
theorem rdeep_any : ∀ (d : Nat) (v : V) (A : Option Addr) (cb : Nat) (A' : Option Addr) (cl : Nat) (w : World), v.ht ≤ d → v.wt ≤ 1000000000000 → Rep w v A cb A' cl →
    Calls Try.prog 13 #[vv v A cb A' cl] w fun e w' => e = .returned (.int .i64 (v.deep : Int)) ∧ Below w.heap.size w w' := by
  intro d
  induction d with
  | zero => intro v _ _ _ _ _ hd; exact absurd (V.ht_pos v) (by omega)
  | succ d ih =>
    intro v A cb A' cl w hd hwt hr
    by_cases hk : v.k = 3
    · have hkb : (v.k != 3) = false := by simpa using hk
      have hht : v.ht ≤ 1000000000000 := Nat.le_trans v.ht_le_wt hwt
      have hll := v.len_l
      have HD := Lib.hid (V.deep_eq v hk)
      clear hk
      go_enter Try.func13, Try.ntmps13
      go_wp2_with fail
      go_loopw [3, 4] (fun x i wr => ∃ (k D : Nat), k ≤ v.l.length ∧ D ≤ v.ht ∧ i = .int .i64 k ∧ x = .int .i64 D ∧ Hid (V.deep.dm (v.l.drop k) D = V.deep.dm v.l 1) ∧
          Below (w.heap.size + 1) (w.alloc (.cells #[.int .i64 v.k, .int .i64 v.n, .slice A v.b.length cb, .slice A' v.l.length cl] 30)) wr) (fun _ i _ => v.l.length - (intOf i).toNat)
      case atStart => exact ⟨0, 1, Nat.zero_le _, v.ht_pos, rfl, rfl, Lib.hid rfl, Below.refl _ _⟩
      case round =>
        obtain ⟨k, D, hk, hD, rfl, rfl, HI, hB⟩ := hrel
        obtain ⟨q0, q1, q2, q3⟩ := box4 hB
        by_cases hlt : k < v.l.length
        · obtain ⟨g, o, B, c1, B', c2, rfl, h0, h1, h2, h3, hri⟩ := (hr.below (unbox hB)).item hlt
          have hx := List.getElem_mem hlt
          have hxw := v.wt_item _ hx
          have hxh := v.ht_item _ hx
          have hxd := v.deep_item _ hx
          have HN := Lib.hid (V.dm_drop v.l k D hlt)
          generalize v.l[k] = x at *
          clear hx
          go_wp2_with fail
          with_reducible refine (ih x B c1 B' c2 wr (by omega) (by omega) hri).mono ?_
          rintro e w2 ⟨rfl, hB2⟩
          have hB3 : Below (w.heap.size + 1) (w.alloc (.cells #[.int .i64 v.k, .int .i64 v.n, .slice A v.b.length cb, .slice (some ⟨g, o, none⟩) v.l.length cl] 30)) w2 :=
            hB.trans (hB2.mono (by have := hB.size; simpa using this))
          clear hri h0 h1 h2 h3 q0 q1 q2 q3
          obtain ⟨q0, q1, q2, q3⟩ := box4 hB3
          by_cases hmx : D < x.deep + 1
          · have hmx' : (D : Int) < (x.deep : Int) + 1 := by omega
            go_wp2_with fail
            go_roundw
            case rel => exact ⟨k + 1, x.deep + 1, by omega, by omega, by go_num, by go_num, by rw [← HI.out, HN.out, Nat.max_eq_right (by omega)]; exact Lib.hid rfl, hB3⟩
            case measure => simp [intOf]; omega
          · have hmx' : ¬ (D : Int) < (x.deep : Int) + 1 := by omega
            go_wp2_with fail
            go_roundw
            case rel => exact ⟨k + 1, D, by omega, by omega, by go_num, by go_num, by rw [← HI.out, HN.out, Nat.max_eq_left (by omega)]; exact Lib.hid rfl, hB3⟩
            case measure => simp [intOf]; omega
        · have hdr : v.l.drop k = [] := List.drop_of_length_le (by omega)
          have HE : Hid (v.deep = D) := by
            show _ = _
            rw [HD.out, ← HI.out, hdr, V.deep.dm]
          clear hdr HI HD
          go_wp2_with fail
          go_ret
          exact ⟨ret_int (by rw [HE.out]), unbox hB⟩
    · have hkb : (v.k != 3) = true := by simpa using hk
      go_enter Try.func13, Try.ntmps13
      go_wp2_with fail
      go_ret
      exact ⟨ret_int (by cases v; simp [V.k] at hk; simp [V.deep, hk]), (Below.refl _ _).alloc (Nat.le_refl _) _⟩
set_option maxHeartbeats 1000000 in
theorem depth_any : ∀ (m : Nat) (mi : Int) (v : V) (A : Option Addr) (cb : Nat) (A' : Option Addr) (cl : Nat) (w : World), mi = m → m ≤ 1000 → v.wt ≤ 1000000000000 → Rep w v A cb A' cl →
    Calls Try.prog 26 #[vv v A cb A' cl, .int .i64 mi] w fun e w' => e = .returned (.int .i64 (min v.deep m : Nat)) ∧ Below w.heap.size w w' := by
  intro m
  induction m with
  | zero =>
    intro mi v A cb A' cl w hmi _ _ _
    subst hmi
    by_cases hk : v.k = 3
    · have hkb : (v.k != 3) = false := by simpa using hk
      clear hk
      go_enter Try.func26, Try.ntmps26
      go_wp2_with fail
      go_ret
      exact ⟨ret_int (by simp), (Below.refl _ _).alloc (Nat.le_refl _) _⟩
    · have hkb : (v.k != 3) = true := by simpa using hk
      clear hk
      go_enter Try.func26, Try.ntmps26
      go_wp2_with fail
      go_ret
      exact ⟨ret_int (by simp), (Below.refl _ _).alloc (Nat.le_refl _) _⟩
  | succ m ih =>
    intro mi v A cb A' cl w hmi hm hwt hr
    have hmi1 : mi ≤ (m : Int) + 1 := by omega
    have hmi2 : (m : Int) + 1 ≤ mi := by omega
    clear hmi
    by_cases hk : v.k = 3
    · have hkb : (v.k != 3) = false := by simpa using hk
      have hmb : (mi == 0) = false := by rw [beq_eq_false_iff_ne]; omega
      have hll := v.len_l
      have HD : Hid (min v.deep (m + 1) = V.dn m v.l 1) := by
        show _ = _
        rw [V.deep_eq v hk, ← V.dn_eq, Nat.min_eq_left (by omega)]
      clear hk
      go_enter Try.func26, Try.ntmps26
      go_wp2_with fail
      go_loopw [5, 18] (fun x i wr => ∃ (k D : Nat), k ≤ v.l.length ∧ D ≤ m + 1 ∧ i = .int .i64 k ∧ x = .int .i64 D ∧ Hid (V.dn m (v.l.drop k) D = V.dn m v.l 1) ∧
          Below (w.heap.size + 1) (w.alloc (.cells #[.int .i64 v.k, .int .i64 v.n, .slice A v.b.length cb, .slice A' v.l.length cl] 30)) wr) (fun _ i _ => v.l.length - (intOf i).toNat)
      case atStart => exact ⟨0, 1, Nat.zero_le _, by omega, rfl, rfl, Lib.hid rfl, Below.refl _ _⟩
      case round =>
        obtain ⟨k, D, hk, hD, rfl, rfl, HI, hB⟩ := hrel
        have hsz := hB.size
        by_cases hlt : k < v.l.length
        · obtain ⟨g, o, B, c1, B', c2, rfl, h0, h1, h2, h3, hri⟩ := (hr.below (unbox hB)).item hlt
          have hx := List.getElem_mem hlt
          have hxw := v.wt_item _ hx
          have HN := Lib.hid (V.dn_drop m v.l k D hlt)
          generalize v.l[k] = x at *
          clear hx
          go_wp2_with fail
          with_reducible refine (ih (mi - 1) x B c1 B' c2 (wr.alloc _) (by omega) (by omega) (by omega) (hri.alloc _)).mono ?_
          rintro e w2 ⟨rfl, hB2⟩
          have hB3 : Below (w.heap.size + 1) (w.alloc (.cells #[.int .i64 v.k, .int .i64 v.n, .slice A v.b.length cb, .slice (some ⟨g, o, none⟩) v.l.length cl] 30)) w2 :=
            (hB.alloc (by simpa using hsz) _).trans (hB2.mono (by have := hB.size; simp at this ⊢; omega))
          clear hri h0 h1 h2 h3
          have hX : min x.deep m ≤ m := Nat.min_le_right _ _
          generalize min x.deep m = X at *
          by_cases hmx : D < 1 + X
          · have hmx' : (D : Int) < 1 + (X : Int) := by omega
            go_wp2_with fail
            go_roundw
            case rel => exact ⟨k + 1, 1 + X, by omega, by omega, by go_num, by go_num, by rw [← HI.out, HN.out, Nat.max_eq_right (by omega)]; exact Lib.hid rfl, hB3⟩
            case measure => simp [intOf]; omega
          · have hmx' : ¬ (D : Int) < 1 + (X : Int) := by omega
            go_wp2_with fail
            go_roundw
            case rel => exact ⟨k + 1, D, by omega, by omega, by go_num, by go_num, by rw [← HI.out, HN.out, Nat.max_eq_left (by omega)]; exact Lib.hid rfl, hB3⟩
            case measure => simp [intOf]; omega
        · have hdr : v.l.drop k = [] := List.drop_of_length_le (by omega)
          have HE : Hid (min v.deep (m + 1) = D) := by
            show _ = _
            rw [HD.out, ← HI.out, hdr, V.dn]
          clear hdr HI HD
          go_wp2_with fail
          go_ret
          exact ⟨ret_int (by rw [HE.out]), unbox hB⟩
    · have hkb : (v.k != 3) = true := by simpa using hk
      have HE := Lib.hid (V.deep_zero v hk)
      clear hk
      go_enter Try.func26, Try.ntmps26
      go_wp2_with fail
      go_ret
      exact ⟨ret_int (by rw [HE.out]; simp), (Below.refl _ _).alloc (Nat.le_refl _) _⟩
end Go.Proofs.Ytimdogdplphmoaa
