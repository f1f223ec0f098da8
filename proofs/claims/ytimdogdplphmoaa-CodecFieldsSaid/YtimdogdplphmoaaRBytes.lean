/-
  The contract of the document's Bytes.
-/
import Derived.Test.YtimdogdplphmoaaRPure
namespace Go.Proofs.Ytimdogdplphmoaa
open Go.RowKit

theorem u8_small {n : Nat} (h : n < 256) : cb8 (UInt8.ofNat n) = .int .u8 (n : Int) := by
  unfold cb8
  rw [UInt8.toNat_ofNat', Nat.mod_eq_of_lt h]

set_option maxHeartbeats 2000000 in
theorem rbytes_num (v : V) (A : Option Addr) (cb : Nat) (A' : Option Addr) (cl : Nat) (w : World) (hk : v.k = 1) (n : Nat) (hn0 : v.n = n) (hn : n ≤ 4611686018427387904) :
    Calls Try.prog 15 #[vv v A cb A' cl] w (GivesB (V.enc v) w) := by
  have HE : Hid (V.enc v = [1, UInt8.ofNat (wid n)] ++ plainB n) := by show _ = _; rw [V.enc_eq, if_pos hk, hn0]; rfl
  have HN := Lib.hid hn0
  clear hn0
  have hk1 : (v.k == 1) = true := by simpa using hk
  clear hk
  have hw8 := wid_le8 hn
  go_enter Try.func15, Try.ntmps15
  go_wp2_with fail
  rw [HN.out]
  go_loop [3, 4] (fun x y => ∃ (k m : Nat), x = .int .i64 k ∧ y = .int .i64 m ∧ k ≤ 8 ∧ m ≤ n ∧ Hid (k + wid m = wid n)) (fun _ y => (intOf y).toNat)
  case atStart => exact ⟨0, n, rfl, rfl, by omega, Nat.le_refl _, Nat.zero_add _⟩
  case round =>
    obtain ⟨k, m, rfl, rfl, hk, hm, HW⟩ := hrel
    by_cases hm0 : 0 < m
    · have HW2 := Lib.hid (wid_pos hm0)
      have hq : m / 256 < m := Nat.div_lt_self hm0 (by decide)
      have hk7 : k + 1 ≤ 8 := by have h1 := HW.out; have h2 := HW2.out; omega
      go_wp2_with fail
      go_round
      case rel => exact ⟨k + 1, m / 256, by go_num, rfl, hk7, by omega, by have h1 := HW.out; have h2 := HW2.out; show _ = _; omega⟩
      case measure => simp [intOf]; omega
    · obtain rfl : m = 0 := by omega
      have hkw : k = wid n := by have h1 := HW.out; rw [wid_zero] at h1; omega
      clear HW hm
      subst hkw
      have HB := plainB_length n
      generalize hb : plainB n = bs at *
      have HPB := Lib.hid hb
      clear hb
      by_cases h0 : 0 < wid n
      · have hput := fun w' => rput_any n (wid n) w' hn h0 hw8 (Nat.le_refl _)
        generalize hww : wid n = ww at *
        have HWW := Lib.hid hww
        clear hww
        have HPUT := Lib.hid hput
        clear hput
        go_wp2_with fail
        have hO0 : Own ((w.alloc (.cells #[.int .i64 v.k, .int .i64 n, .slice A v.b.length cb, .slice A' v.l.length cl] 30)).alloc (.cells #[.int .u8 1, .int .u8 (ww : Int)] 5)) w.heap.size 5 1 (some ⟨w.heap.size + 1, 0, none⟩) 2 2 (u8s [1, UInt8.ofNat ww]) :=
          Own.litAt _ _ 1 2 _ (by simp) (by simp) (by decide) rfl (by rw [u8s_cons, u8s_cons, u8_small (n := ww) (by omega)]; rfl)
        have hB0 : Below w.heap.size w ((w.alloc (.cells #[.int .i64 v.k, .int .i64 n, .slice A v.b.length cb, .slice A' v.l.length cl] 30)).alloc (.cells #[.int .u8 1, .int .u8 (ww : Int)] 5)) :=
          ((Below.refl _ _).alloc (Nat.le_refl _) _).alloc (by simp) _
        refine (HPUT.out _).mono ?_
        rintro e w2 ⟨A2, c2, rfl, hb2, hc2, hB2⟩
        have hO2 := hO0.below hB2
        have hB3 := hB0.trans (hB2.mono hB0.size)
        clear hO0 hB0 hB2
        rw [be_length] at hc2 ⊢
        have hsz := hB3.size
        go_wp2_with (first | (at_builtin; go_loud (refine wpList_app _ el_u8 rfl _ _ rfl w.heap.size _ 2 2 _ rfl hO2 A2 ww c2 (u8s (be ww n)) rfl (by rw [u8s_length, be_length]; omega) hb2.1 (u8_one _) (by omega) hsz ?_)))
        intro A3 c3 w3 hO3 hg3 _
        have hB4 := hO2.belowOf hB3 hg3 hsz (Nat.le_refl _)
        go_wp2_with fail
        go_ret
        have he : V.enc v = [1, UInt8.ofNat ww] ++ be ww n := by rw [HE.out, ← HPB.out, plainB, HWW.out]
        rw [← u8s_append, ← he] at hO3
        obtain ⟨a1, a2, a3⟩ := hO3.byt
        exact ⟨A3, c3, by rw [a2]; rfl, a1, a3, hB4⟩
      · have hbs : bs = [] := by
          have h1 := HPB.out
          rw [plainB, show wid n = 0 by omega] at h1
          exact h1.symm
        subst hbs
        generalize hww : wid n = ww at *
        have HWW := Lib.hid hww
        clear hww
        go_wp2_with fail
        go_ret
        have hO0 : Own ((w.alloc (.cells #[.int .i64 v.k, .int .i64 n, .slice A v.b.length cb, .slice A' v.l.length cl] 30)).alloc (.cells #[.int .u8 1, .int .u8 (ww : Int)] 5)) w.heap.size 5 1 (some ⟨w.heap.size + 1, 0, none⟩) 2 2 (u8s [1, UInt8.ofNat ww]) :=
          Own.litAt _ _ 1 2 _ (by simp) (by simp) (by decide) rfl (by rw [u8s_cons, u8s_cons, u8_small (n := ww) (by omega)]; rfl)
        have he : V.enc v = [1, UInt8.ofNat ww] := HE.out
        rw [← he] at hO0
        obtain ⟨a1, a2, a3⟩ := hO0.byt
        exact ⟨_, _, by rw [a2]; rfl, a1, a3, ((Below.refl _ _).alloc (Nat.le_refl _) _).alloc (by simp) _⟩

theorem wid_le {k n : Nat} (h : n < 256 ^ k) : wid n ≤ k := (lt_wid k n).1 h

set_option maxHeartbeats 2000000 in
theorem rbytes_raw (v : V) (A : Option Addr) (cb : Nat) (A' : Option Addr) (cl : Nat) (w : World) (hk : v.k = 2) (hl : v.b.length ≤ 1048576) (hr : Byt w A v.b) :
    Calls Try.prog 15 #[vv v A cb A' cl] w (GivesB (V.enc v) w) := by
  have HE : Hid (V.enc v = [2] ++ (be 3 v.b.length ++ v.b)) := by show _ = _; rw [V.enc_eq, if_neg (by omega), if_pos hk]; rfl
  have hk1 : (v.k == 1) = false := by simp [hk]
  have hk2 : (v.k == 2) = true := by simp [hk]
  clear hk
  have hput := fun w' => rput_any v.b.length 3 w' (by omega) (by omega) (by omega) (wid_le (by omega))
  have HPUT := Lib.hid hput
  clear hput
  go_enter Try.func15, Try.ntmps15
  go_wp2_with fail
  refine (HPUT.out _).mono ?_
  rintro e w2 ⟨A2, c2, rfl, hb2, hc2, hB2⟩
  simp only [World.size_alloc] at hB2
  have hsz := (unbox hB2).size
  obtain ⟨q0, q1, q2, q3⟩ := box4 hB2
  rw [be_length] at hc2 ⊢
  go_wp2_with (first | (at_builtin; go_loud (refine wpList_app _ el_u8 rfl (.tmp 53) (.tmp 54) rfl w.heap.size _ 1 1 _ rfl (Own.litAt (B := w.heap.size) _ _ 1 1 (u8s [2]) rfl hsz (by decide) rfl rfl) A2 3 c2 (u8s (be 3 v.b.length)) rfl (by rw [u8s_length, be_length]) (hb2.1.alloc _) (u8_one _) (by omega) (by simp; omega) ?_)))
  intro A3 c3 w3 hO3 hg3 _
  have hB3 := (Own.litAt (B := w.heap.size) (w := w2) #[.int .u8 2] 5 1 1 (u8s [2]) rfl hsz (by decide) rfl rfl).belowOf ((unbox hB2).alloc hsz _) hg3 (by simp; omega) (Nat.le_refl _)
  have hb3 := hr.below hB3
  have hkeep : ∀ i x, w2.cell? ⟨w.heap.size, i, none⟩ = some x → w3.cell? ⟨w.heap.size, i, none⟩ = some x := by
    intro i x h
    have h1 := World.block_lt_of_cell? w2 _ h
    simp only at h1
    exact hg3.cell (by rw [World.cell?_alloc_lt _ _ _ h1]; exact h) (by simp [blk]; omega)
  have r2 := hkeep _ _ q2
  have hsz3 := hB3.size
  clear hkeep hg3 q0 q1 q2 q3
  go_wp2_with (first | (at_builtin; go_loud (refine wpList_app _ el_u8 rfl (.tmp 56) (.tmp 58) rfl w.heap.size _ 4 c3 _ rfl hO3 A v.b.length cb (u8s v.b) rfl (by rw [u8s_length]; omega) hb3 (u8_one _) (by omega) hsz3 ?_)))
  intro A4 c4 w4 hO4 hg4 _
  have hB4 := hO3.belowOf hB3 hg4 hsz3 (Nat.le_refl _)
  go_wp2_with fail
  go_ret
  rw [← u8s_append, ← u8s_append, ← HE.out] at hO4
  obtain ⟨a1, a2, a3⟩ := hO4.byt
  exact ⟨A4, c4, by rw [a2]; rfl, a1, a3, hB4⟩

theorem encs_take_le (l : List V) (h : V.rpure.all l = true) (k : Nat) : (V.enc.encs (l.take k)).length ≤ 10 * V.wt.wts l := by
  rw [V.enc_length.encs_length]
  have h1 : V.rpure.all (l.take k) = true := (V.all_iff _).2 fun x hx => (V.all_iff l).1 h x (List.mem_of_mem_take hx)
  have h2 := V.sz_le.szs_le _ h1
  have h3 : V.wt.wts (l.take k) ≤ V.wt.wts l := by
    have := V.wts_append (l.take k) (l.drop k)
    rw [List.take_append_drop] at this
    omega
  omega

set_option maxHeartbeats 4000000 in
theorem rbytes_any : ∀ (d : Nat) (v : V) (A : Option Addr) (cb : Nat) (A' : Option Addr) (cl : Nat) (w : World), v.ht ≤ d → v.wt ≤ 1000000 → v.rpure = true → Rep w v A cb A' cl →
    Calls Try.prog 15 #[vv v A cb A' cl] w (GivesB (V.enc v) w) := by
  intro d
  induction d with
  | zero => intro v _ _ _ _ _ hd; exact absurd (V.ht_pos v) (by omega)
  | succ d ih =>
    intro v A cb A' cl w hd hwt hp hr
    have hf := V.rpure_flat hp
    have hlb := v.len_b
    by_cases k1 : v.k = 1
    · have hn : 0 ≤ v.n ∧ v.n ≤ 4611686018427387904 := by
        unfold V.flat at hf
        rw [if_pos k1] at hf
        simp at hf
        exact ⟨hf.1.1.1, hf.1.1.2⟩
      obtain ⟨n, hn0⟩ := Int.eq_ofNat_of_zero_le hn.1
      exact rbytes_num v A cb A' cl w k1 n hn0 (by omega)
    · by_cases k2 : v.k = 2
      · exact rbytes_raw v A cb A' cl w k2 (by omega) hr.bytes
      · have k3 := (V.flat_kind hf k1 k2).1
        have hl4 := (V.flat_kind hf k1 k2).2.2.2
        have hits := V.rpure_items hp k3
        have HE : Hid (V.enc v = [3] ++ (be 2 v.l.length ++ V.enc.encs v.l)) := by show _ = _; rw [V.enc_eq, if_neg k1, if_neg k2]; rfl
        have hk1 : (v.k == 1) = false := by simp [k3]
        have hk2 : (v.k == 2) = false := by simp [k3]
        have hput := fun w' => rput_any v.l.length 2 w' (by omega) (by omega) (by omega) (wid_le (by omega))
        have HPUT := Lib.hid hput
        have HITS := Lib.hid hits
        have HP := Lib.hid hp
        clear hput k1 k2 k3 hits hf hp
        go_enter Try.func15, Try.ntmps15
        go_wp2_with fail
        refine (HPUT.out _).mono ?_
        rintro e w2 ⟨A2, c2, rfl, hb2, hc2, hB2⟩
        simp only [World.size_alloc] at hB2
        have hsz := (unbox hB2).size
        have hsz' := hB2.size
        rw [be_length] at hc2 ⊢
        go_wp2_with (first | (at_builtin; go_loud (refine wpList_app _ el_u8 rfl (.tmp 68) (.tmp 69) rfl (w.heap.size + 1) _ 1 1 _ rfl (Own.litAt (B := w.heap.size + 1) _ _ 1 1 (u8s [3]) rfl (by simpa using hsz') (by decide) rfl rfl) A2 2 c2 (u8s (be 2 v.l.length)) rfl (by rw [u8s_length, be_length]) (hb2.1.alloc _) (u8_one _) (by omega) (by simp at hsz' ⊢; omega) ?_)))
        intro A3 c3 w3 hO3 hg3 _
        have hB3 := (Own.litAt (B := w.heap.size + 1) (w := w2) #[.int .u8 3] 5 1 1 (u8s [3]) rfl (by simpa using hsz') (by decide) rfl rfl).belowOf (hB2.alloc (by simpa using hsz') _) hg3 (by simp at hsz' ⊢; omega) (Nat.le_refl _)
        rw [← u8s_append] at hO3
        clear hg3 hB2 hsz hsz' hb2 hc2
        have hall : V.rpure.all v.l = true := (V.all_iff _).2 HITS.out
        have hlen := fun k => encs_take_le v.l hall k
        have hwl : V.wt.wts v.l < v.wt := by rw [V.wt_eq]; omega
        have HLEN := Lib.hid hlen
        clear hall hlen
        go_wp2_with fail
        go_loopw [13, 14] (fun x i wr => ∃ (k n3 : Nat) (A3 : Option Addr) (c3 : Nat), k ≤ v.l.length ∧ i = .int .i64 k ∧ x = .slice A3 n3 c3 ∧ Own wr (w.heap.size + 1) 5 1 A3 n3 c3 (u8s ([3] ++ be 2 v.l.length ++ V.enc.encs (v.l.take k))) ∧
            Below (w.heap.size + 1) (w.alloc (.cells #[.int .i64 v.k, .int .i64 v.n, .slice A v.b.length cb, .slice A' v.l.length cl] 30)) wr) (fun _ i _ => v.l.length - (intOf i).toNat)
        case atStart => exact ⟨0, 3, A3, c3, Nat.zero_le _, rfl, rfl, by simpa [V.enc.encs] using hO3, hB3⟩
        case round =>
          obtain ⟨k, n3, A3, c3, hk, rfl, rfl, hO, hB⟩ := hrel
          obtain ⟨q0, q1, q2, q3⟩ := box4 hB
          have hn3 := hO.len
          rw [u8s_length, List.length_append, List.length_append, be_length] at hn3
          have hn3' : n3 ≤ 3 + 10 * v.wt := by have := HLEN.out k; simp at hn3; omega
          clear hn3
          by_cases hlt : k < v.l.length
          · obtain ⟨g, o, B, c1, B', c2, rfl, h0, h1, h2, h3, hri⟩ := (hr.below (unbox hB)).item hlt
            have hx := List.getElem_mem hlt
            have hxw := v.wt_item _ hx
            have hxh := v.ht_item _ hx
            have hpx := HITS.out _ hx
            have HT : Hid (V.enc.encs (v.l.take (k + 1)) = V.enc.encs (v.l.take k) ++ V.enc v.l[k]) := by show _ = _; rw [List.take_succ_eq_append_getElem hlt, V.encs_snoc]
            have hxs := V.sz_le _ (V.rpure_flat hpx) hpx
            rw [← V.enc_length] at hxs
            generalize v.l[k] = x at *
            clear hx
            have HC := Lib.hid (ih x B c1 B' c2 wr (by omega) (by omega) hpx hri)
            clear hpx
            go_wp2_with fail
            refine HC.out.mono ?_
            rintro e w4 ⟨A5, c5, rfl, hb5, hc5, hB5⟩
            have hsz := hB.size
            simp only [World.size_alloc] at hsz
            have hO4 := hO.below hB5
            have hB4 := hB.trans (hB5.mono hsz)
            have hsz4 := hB4.size
            simp only [World.size_alloc] at hsz4
            obtain ⟨q0, q1, q2, q3⟩ := box4 hB4
            generalize V.enc x = ex at *
            clear hO hri h0 h1 h2 h3
            generalize hpre : u8s ([3] ++ be 2 v.l.length ++ V.enc.encs (v.l.take k)) = pre at *
            have HPRE := Lib.hid hpre
            clear hpre
            go_wp2_with (first | (at_builtin; go_loud (refine wpList_app _ el_u8 rfl (.tmp 78) (.tmp 84) rfl (w.heap.size + 1) A3 n3 c3 pre rfl hO4 A5 ex.length c5 (u8s ex) rfl (by rw [u8s_length]; omega) hb5.1 (u8_one _) (by omega) hsz4 ?_)))
            intro A6 c6 w6 hO6 hg6 _
            have hB6 := hO4.belowOf hB4 hg6 hsz4 (Nat.le_refl _)
            have HO6 : Hid (Own w6 (w.heap.size + 1) 5 1 A6 (n3 + ex.length) c6 (u8s ([3] ++ be 2 v.l.length ++ V.enc.encs (v.l.take (k + 1))))) := by
              show Own _ _ _ _ _ _ _ _
              rw [HT.out, ← List.append_assoc, u8s_append, HPRE.out]
              exact hO6
            clear hO6 hg6 hO4 hB4 hB hB5
            go_wp2_with fail
            go_roundw
            case rel => exact ⟨k + 1, n3 + ex.length, A6, c6, by omega, by go_num, rfl, HO6.out, hB6⟩
            case measure => simp [intOf]; omega
          · have htk : v.l.take k = v.l := List.take_of_length_le (by omega)
            rw [htk, List.append_assoc, ← HE.out] at hO
            clear htk
            generalize hpre : u8s v.enc = pre at *
            have HPRE := Lib.hid hpre
            clear hpre
            go_wp2_with fail
            go_ret
            rw [← HPRE.out] at hO
            obtain ⟨a1, a2, a3⟩ := hO.byt
            exact ⟨A3, c3, by rw [a2]; rfl, ⟨a1.1, fun ad e => Nat.le_of_succ_le (a1.2 ad e)⟩, a3, unbox hB⟩
end Go.Proofs.Ytimdogdplphmoaa
