/-
  The laws' parts and Few: whatever the value, and what a value of few parts holds at most.
-/
import Derived.Test.YtimdogdplphmoaaVal
import Derived.Test.YtimdogdplphmoaaProg
namespace Go.Proofs.Ytimdogdplphmoaa
open Go.RowKit

def ploop (f : V → Int → Int) : List V → Int → Int
  | [], r => r
  | x :: xs, r => if r < 0 then -1 else ploop f xs (f x r)
def partsF : Nat → V → Int → Int
  | 0, _, _ => -1
  | d + 1, v, room => if 2000 < v.b.length then -1 else ploop (partsF d) v.l (room - 1)

theorem ploop_bd (f : V → Int → Int) (hf : ∀ x r, 0 ≤ r → -1 ≤ f x r ∧ f x r ≤ r - 1) : ∀ (l : List V) (r : Int), -1 ≤ r → -1 ≤ ploop f l r ∧ ploop f l r ≤ r
  | [], r, h => ⟨h, Int.le_refl _⟩
  | x :: xs, r, h => by
    rw [ploop]
    split
    · exact ⟨by omega, by omega⟩
    · have h1 := hf x r (by omega)
      have h2 := ploop_bd f hf xs (f x r) h1.1
      exact ⟨h2.1, by omega⟩
theorem partsF_bd : ∀ (d : Nat) (v : V) (room : Int), 0 ≤ room → -1 ≤ partsF d v room ∧ partsF d v room ≤ room - 1
  | 0, _, room, h => by rw [partsF]; omega
  | d + 1, v, room, h => by
    rw [partsF]
    split
    · omega
    · exact ploop_bd _ (partsF_bd d) v.l (room - 1) (by omega)
theorem ploop_neg (f : V → Int → Int) : ∀ (l : List V) (r : Int), r < 0 → ploop f l r < 0
  | [], _, h => h
  | x :: xs, r, h => by rw [ploop, if_pos h]; omega
theorem ploop_wt (f : V → Int → Int) (hf : ∀ x r, 0 ≤ r → 0 ≤ f x r → (x.wt : Int) ≤ 2001 * (r - f x r)) : ∀ (l : List V) (r : Int), 0 ≤ ploop f l r → (V.wt.wts l : Int) ≤ 2001 * (r - ploop f l r)
  | [], r, _ => by simp [V.wt.wts, ploop]
  | x :: xs, r, h => by
    rw [ploop] at h ⊢
    split at h
    · omega
    · rename_i hr
      rw [if_neg hr]
      have h0 : 0 ≤ f x r := by
        by_cases g : f x r < 0
        · have := ploop_neg f xs _ g; omega
        · omega
      have h1 := hf x r (by omega) h0
      have h2 := ploop_wt f hf xs (f x r) h
      simp only [V.wt.wts]
      omega
theorem partsF_wt : ∀ (d : Nat) (v : V) (room : Int), 0 ≤ room → 0 ≤ partsF d v room → (v.wt : Int) ≤ 2001 * (room - partsF d v room)
  | 0, _, _, _, h => by rw [partsF] at h; omega
  | d + 1, v, room, h, h0 => by
    rw [partsF] at h0 ⊢
    split at h0
    · omega
    · rename_i hb
      rw [if_neg hb]
      have h1 := ploop_wt _ (partsF_wt d) v.l (room - 1) h0
      rw [V.wt_eq]
      omega
def few (v : V) : Bool := decide (0 ≤ partsF 30 v 200)
theorem few_wt {v : V} (h : few v = true) : v.wt ≤ 400200 := by
  unfold few at h
  have h0 : 0 ≤ partsF 30 v 200 := by simpa using h
  have := partsF_wt 30 v 200 (by omega) h0
  omega
theorem ploop_drop (f : V → Int → Int) (l : List V) (k : Nat) (r : Int) (h : k < l.length) : ploop f (l.drop k) r = if r < 0 then -1 else ploop f (l.drop (k + 1)) (f l[k] r) := by
  rw [List.drop_eq_getElem_cons h, ploop]

set_option maxHeartbeats 2000000 in
theorem parts_any : ∀ (d : Nat) (di room : Int) (v : V) (A : Option Addr) (cb : Nat) (A' : Option Addr) (cl : Nat) (w : World), di = d → d ≤ 1000 → 0 ≤ room → room ≤ 1000000 → Rep w v A cb A' cl →
    Calls Try.prog 23 #[vv v A cb A' cl, .int .i64 room, .int .i64 di] w fun e w' => e = .returned (.int .i64 (partsF d v room)) ∧ Below w.heap.size w w' := by
  intro d
  induction d with
  | zero =>
    intro di room v A cb A' cl w hdi _ hr1 hr2 hr
    have hd0 : (di == 0) = true := by simp [hdi]
    clear hdi
    go_enter Try.func23, Try.ntmps23
    go_wp2_with fail
    go_ret
    exact ⟨rfl, (Below.refl _ _).alloc (Nat.le_refl _) _⟩
  | succ d ih =>
    intro di room v A cb A' cl w hdi hd hr1 hr2 hr
    have hd1 : di ≤ (d : Int) + 1 := by omega
    have hd2 : (d : Int) + 1 ≤ di := by omega
    have hd0 : (di == 0) = false := by rw [beq_eq_false_iff_ne]; omega
    clear hdi
    by_cases hb : 2000 < v.b.length
    · have HE : Hid (partsF (d + 1) v room = -1) := by show _ = _; rw [partsF, if_pos hb]
      have hb' : (2000 : Int) < (v.b.length : Int) := by omega
      go_enter Try.func23, Try.ntmps23
      go_wp2_with fail
      go_ret
      exact ⟨ret_int HE.out.symm, (Below.refl _ _).alloc (Nat.le_refl _) _⟩
    · have HE : Hid (partsF (d + 1) v room = ploop (partsF d) v.l (room - 1)) := by show _ = _; rw [partsF, if_neg hb]
      have hb' : (v.b.length : Int) ≤ 2000 := by omega
      have hlm := hr.lmax
      clear hb
      go_enter Try.func23, Try.ntmps23
      go_wp2_with fail
      go_loopw [1, 22] (fun x i wr => ∃ (k : Nat) (R : Int), k ≤ v.l.length ∧ i = .int .i64 k ∧ x = .int .i64 R ∧ -1 ≤ R ∧ R ≤ 1000000 ∧ Hid (ploop (partsF d) (v.l.drop k) R = ploop (partsF d) v.l (room - 1)) ∧
          Below (w.heap.size + 1) (w.alloc (.cells #[.int .i64 v.k, .int .i64 v.n, .slice A v.b.length cb, .slice A' v.l.length cl] 30)) wr) (fun _ i _ => v.l.length - (intOf i).toNat)
      case atStart => exact ⟨0, _, Nat.zero_le _, rfl, rfl, by omega, by omega, rfl, Below.refl _ _⟩
      case round =>
        obtain ⟨k, R, hk, rfl, rfl, hR1, hR2, HI, hB⟩ := hrel
        have hsz := hB.size
        by_cases hlt : k < v.l.length
        · obtain ⟨g, o, B, c1, B', c2, rfl, h0, h1, h2, h3, hri⟩ := (hr.below (unbox hB)).item hlt
          have HN := Lib.hid (ploop_drop (partsF d) v.l k R hlt)
          generalize v.l[k] = x at *
          by_cases hR : R < 0
          · go_wp2_with fail
            go_ret
            exact ⟨ret_int (by rw [HE.out, ← HI.out, HN.out, if_pos hR]), unbox (hB.alloc (by simpa using hsz) _)⟩
          · have hR0 : 0 ≤ R := by omega
            have hbd := partsF_bd d x R hR0
            have HN2 : Hid (ploop (partsF d) (v.l.drop k) R = ploop (partsF d) (v.l.drop (k + 1)) (partsF d x R)) := by show _ = _; rw [HN.out, if_neg hR]
            have HC := Lib.hid (ih (di - 1) R x B c1 B' c2 (wr.alloc (.cells #[.int .i64 x.k, .int .i64 x.n, .slice B x.b.length c1, .slice B' x.l.length c2] 30)) (by omega) (by omega) hR0 hR2 (hri.alloc _))
            generalize partsF d x R = R2 at *
            clear HN hR
            go_wp2_with fail
            refine HC.out.mono ?_
            rintro e w2 ⟨rfl, hB2⟩
            have hB3 : Below (w.heap.size + 1) (w.alloc (.cells #[.int .i64 v.k, .int .i64 v.n, .slice A v.b.length cb, .slice (some ⟨g, o, none⟩) v.l.length cl] 30)) w2 :=
              (hB.alloc (by simpa using hsz) _).trans (hB2.mono (by have := hB.size; simp at this ⊢; omega))
            go_wp2_with fail
            go_roundw
            case rel => exact ⟨k + 1, R2, by omega, by go_num, rfl, hbd.1, by omega, by show _ = _; rw [← HI.out, HN2.out], hB3⟩
            case measure => simp [intOf]; omega
        · have hdr : v.l.drop k = [] := List.drop_of_length_le (by omega)
          have HE2 : Hid (partsF (d + 1) v room = R) := by show _ = _; rw [HE.out, ← HI.out, hdr, ploop]
          clear hdr HI HE
          go_wp2_with fail
          go_ret
          exact ⟨ret_int HE2.out.symm, unbox hB⟩

set_option maxHeartbeats 1000000 in
theorem few_any (v : V) (A : Option Addr) (cb : Nat) (A' : Option Addr) (cl : Nat) (w : World) (hr : Rep w v A cb A' cl) :
    Calls Try.prog 9 #[vv v A cb A' cl] w fun e w' => e = .returned (.bool (few v)) ∧ Below w.heap.size w w' := by
  have HF : Hid (few v = decide (0 ≤ partsF 30 v 200)) := rfl
  have HC := Lib.hid (parts_any 30 30 200 v A cb A' cl (w.alloc (.cells #[.int .i64 v.k, .int .i64 v.n, .slice A v.b.length cb, .slice A' v.l.length cl] 30)) rfl (by omega) (by omega) (by omega) (hr.alloc _))
  generalize partsF 30 v 200 = R at *
  go_enter Try.func9, Try.ntmps9
  go_wp2_with fail
  refine HC.out.mono ?_
  rintro e w1 ⟨rfl, hB⟩
  simp only [World.size_alloc] at hB
  go_wp2_with fail
  go_ret
  exact ⟨ret_bool HF.out.symm, unbox hB⟩
end Go.Proofs.Ytimdogdplphmoaa
