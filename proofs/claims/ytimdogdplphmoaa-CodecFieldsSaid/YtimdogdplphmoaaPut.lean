/-
  The contracts of codec's put and Encode.
-/
import Derived.Test.YtimdogdplphmoaaRight
namespace Go.Proofs.Ytimdogdplphmoaa
open Go.RowKit

/-- What put leaves: the slice that it was given, with bytes behind it. -/
def Puts (B : Nat) (xs : List UInt8) (w : World) (e : Ending) (w' : World) : Prop := ∃ A c, e = .returned (.slice A xs.length c) ∧ Own w' B 5 1 A xs.length c (u8s xs) ∧ Below B w w'

/-- Two bytes, laid just before they are appended. -/
theorem row_lit (w : World) (cs : Array Value) (xs : List Value) (t : TypeId) (h : cs.toList = xs) : Row (w.alloc (.cells cs t)) (some ⟨w.heap.size, 0, none⟩) xs :=
  Row.of_block (heap_alloc_new w _) (by rw [← h, List.take_length])

set_option maxHeartbeats 2000000 in
theorem put_num (B0 : Nat) (out : List UInt8) (O : Option Addr) (no c0 : Nat) (v : V) (A : Option Addr) (cb : Nat) (A' : Option Addr) (cl : Nat) (w : World) (hB0 : B0 ≤ w.heap.size) (hO : Own w B0 5 1 O no c0 (u8s out)) (hol : no ≤ 100000000000)
    (hk : v.k = 1) (n : Nat) (hn0 : v.n = n) (hn : n ≤ 4611686018427387904) :
    Calls Try.prog 25 #[.slice O no c0, vv v A cb A' cl] w (Puts B0 (out ++ V.enc v) w) := by
  have HE : Hid (V.enc v = [1, UInt8.ofNat (wid n)] ++ plainB n) := by show _ = _; rw [V.enc_eq, if_pos hk, hn0]; rfl
  have HN := Lib.hid hn0
  clear hn0
  have hk1 : (v.k == 1) = true := by simpa using hk
  clear hk
  have hw8 := wid_le8 hn
  go_enter Try.func25, Try.ntmps25
  go_wp2_with fail
  rw [HN.out]
  refine (plain_any n _ hn).mono ?_
  rintro e w2 ⟨A2, c2, rfl, hb2, hc2, hB2⟩
  have HPL := Lib.hid (plainB_length n)
  generalize plainB n = pb at *
  have hpb : pb.length ≤ 8 := by have := HPL.out; omega
  have hne : ∀ ad, A2 = some ad → some ad.block ≠ blk O := fun ad e => hO.older (by have := hb2.2 ad e; simp at this; omega)
  have hO2 := (hO.alloc (.cells #[.int .i64 v.k, .int .i64 n, .slice A v.b.length cb, .slice A' v.l.length cl] 30)).below hB2
  have hB3 : Below B0 w w2 := ((Below.refl _ _).alloc hB0 _).trans (hB2.mono (by simp; omega))
  have hsz := hB3.size
  clear hB2 hO
  generalize hou : u8s out = us at *
  have HOU := Lib.hid hou
  clear hou
  have hlit : (.int .u8 (pb.length : Int)) = cb8 (UInt8.ofNat pb.length) := (u8_small (by omega)).symm
  have HLIT := Lib.hid hlit
  clear hlit
  go_wp2_with (first
    | (at_builtin; go_loud (refine wpList_app _ el_u8 rfl (.tmp 19) (.tmp 23) rfl B0 O no c0 us rfl (hO2.alloc _) (some ⟨w2.heap.size, 0, none⟩) 2 2 [cb8 1, cb8 (UInt8.ofNat pb.length)] rfl rfl (row_lit _ _ _ _ (by rw [← HLIT.out]; rfl)) (by simp [cb8]; exact ⟨rfl, rfl⟩) (by omega) (by simp; omega) ?_)))
  intro A3 c3 w3 hO3 hg3 _
  have hB4 := (hO2.alloc (.cells #[.int .u8 1, .int .u8 (pb.length : Int)] 5)).belowOf (hB3.alloc (by omega) _) hg3 (by simp; omega) (Nat.le_refl _)
  have hb3 : Byt w3 A2 pb := Row.grown (Row.alloc hb2.1 _) hg3 hne
  have hsz3 := hB4.size
  clear hO2 hB3 hb2 hg3 hne
  go_wp2_with (first
    | (at_builtin; go_loud (refine wpList_app _ el_u8 rfl (.tmp 24) (.tmp 25) rfl B0 A3 (no + 2) c3 _ rfl hO3 A2 pb.length c2 (u8s pb) rfl (by rw [u8s_length]; omega) hb3 (u8_one _) (by omega) (by omega) ?_)))
  intro A4 c4 w4 hO4 hg4 _
  have hB5 := hO3.belowOf hB4 hg4 (by omega) (Nat.le_refl _)
  go_wp2_with fail
  go_ret
  have he : u8s (out ++ V.enc v) = us ++ ([cb8 1, cb8 (UInt8.ofNat pb.length)] ++ u8s pb) := by rw [u8s_append, HOU.out, HE.out, u8s_append, HPL.out]; rfl
  have he2 : us ++ [cb8 1, cb8 (UInt8.ofNat pb.length)] ++ u8s pb = u8s (out ++ V.enc v) := by rw [he, List.append_assoc]
  have hO5 : Own w4 B0 5 1 A4 (no + 2 + pb.length) c4 (u8s (out ++ V.enc v)) := by rw [← he2]; simpa using hO4
  have hl := hO5.byt.2.1
  rw [← hl] at hO5
  exact ⟨A4, c4, by rw [hl]; rfl, hO5, hB5⟩

theorem ne_step {m s : Nat} {r r' : Option Nat} (h : r' = r ∨ r' = some s) (h1 : some m ≠ r) (h2 : m < s) : some m ≠ r' := by
  rcases h with h | h
  · rw [h]; exact h1
  · rw [h]; intro e; injection e; omega
theorem grown_cell {w w' : World} {r : Option Nat} (hg : w.grownBy w' r) {g i : Nat} {x : Value} (h : w.cell? ⟨g, i, none⟩ = some x) (hne : some g ≠ r) : w'.cell? ⟨g, i, none⟩ = some x := hg.cell h hne

set_option maxHeartbeats 4000000 in
theorem put_raw (B0 : Nat) (out : List UInt8) (O : Option Addr) (no c0 : Nat) (v : V) (A : Option Addr) (cb : Nat) (A' : Option Addr) (cl : Nat) (w w0 : World) (hB0 : B0 ≤ w.heap.size) (hO : Own w B0 5 1 O no c0 (u8s out)) (hol : no ≤ 100000000000)
    (hk : v.k = 2) (hl : v.b.length ≤ 1048576) (hr : Byt w0 A v.b) (h00 : w0.heap.size ≤ B0) (h01 : Below w0.heap.size w0 w) :
    Calls Try.prog 25 #[.slice O no c0, vv v A cb A' cl] w (Puts B0 (out ++ V.enc v) w) := by
  have HE : Hid (V.enc v = [2] ++ (be 3 v.b.length ++ v.b)) := by show _ = _; rw [V.enc_eq, if_neg (by omega), if_pos hk]; rfl
  have hk1 : (v.k == 1) = false := by simp [hk]
  have hk2 : (v.k == 2) = true := by simp [hk]
  clear hk
  have hput := fun w' => put_any v.b.length 3 w' (by omega) (by omega) (by omega) (wid_le (by omega))
  have HPUT := Lib.hid hput
  clear hput
  go_enter Try.func25, Try.ntmps25
  go_wp2_with fail
  refine (HPUT.out _).mono ?_
  rintro e w2 ⟨A2, c2, rfl, hb2, hc2, hB2⟩
  have hne : ∀ ad, A2 = some ad → some ad.block ≠ blk O := fun ad e => hO.older (by have := hb2.2 ad e; simp at this; omega)
  have hnb : some w.heap.size ≠ blk O := hO.older (Nat.le_refl _)
  have hO2 := (hO.alloc (.cells #[.int .i64 v.k, .int .i64 v.n, .slice A v.b.length cb, .slice A' v.l.length cl] 30)).below hB2
  have hB3 : Below B0 w w2 := ((Below.refl _ _).alloc hB0 _).trans (hB2.mono (by simp; omega))
  have hsz := hB3.size
  simp only [World.size_alloc] at hB2
  obtain ⟨q0, q1, q2, q3⟩ := box4 hB2
  have hszb := hB2.size
  simp only [World.size_alloc] at hszb
  rw [be_length] at hc2 ⊢
  clear hO q0 q1 q3 hB2
  generalize hou : u8s out = us at *
  have HOU := Lib.hid hou
  clear hou
  go_wp2_with fail
  have kA : ∀ o, (w2.alloc o).drew.cell? ⟨w.heap.size, 2, none⟩ = some (.slice A v.b.length cb) := fun o => (World.cell?_alloc_lt w2 o ⟨w.heap.size, 2, none⟩ (by simp; omega)).trans q2
  have hl2 := be_length 3 v.b.length
  have HL2 := Lib.hid hl2
  clear hl2
  generalize hbe : be 3 v.b.length = bl at *
  have HBE := Lib.hid hbe
  clear hbe
  have hZ2 := h01.trans (hB3.mono h00)
  have hsz0 := hZ2.size
  go_region_held3 (fun w' => w'.cell? ⟨w.heap.size, 2, none⟩ = some (.slice A v.b.length cb)) (first | exact q2 | exact kA _ | exact q3 | exact q4 | exact q5) (first
    | (refine step_app _ el_u8 (by rfl) (.tmp 36) (.tmp 37) (by rfl) B0 O no c0 us (by rfl) (hO2.alloc _).drew (some ⟨w2.heap.size, 0, none⟩) 1 1 [cb8 2] (by rfl) rfl (by exact Row.drew (row_lit _ _ _ _ rfl)) (by simp [cb8]; rfl) (by omega) (by simp; omega) ?_; intro A3 c3 w3 hO3 hg3 hx3; have q3 := grown_cell hg3 (kA _) hnb; have hb3 : Byt w3 A2 bl := Row.grown (Row.drew (Row.alloc hb2.1 _)) hg3 hne; have hB4 := (hO2.alloc (.cells #[.int .u8 2] 5)).drew.belowOf (hB3.alloc (by omega) _).drew hg3 (by simp; omega) (Nat.le_refl _); have hsz4 := hB4.size)
    | (refine step_app _ el_u8 (by rfl) (.tmp 38) (.tmp 39) (by rfl) B0 A3 (no + 1) c3 _ (by rfl) hO3 A2 3 c2 (u8s bl) (by rfl) (by rw [u8s_length]; exact HL2.out) hb3 (u8_one _) (by omega) (by omega) ?_; intro A4 c4 w4 hO4 hg4 hx4; have n3 := ne_step hx3 hnb (by simp; omega); have q4 := grown_cell hg4 q3 n3; have hB5 := hO3.belowOf hB4 hg4 (by omega) (Nat.le_refl _); have hbr4 : Byt w4 A v.b := hr.below (h01.trans (hB5.mono h00)); have hsz5 := hB5.size; have hw3 := World.block_lt_of_cell? w3 _ q3; simp only at hw3)
    | (refine step_app _ el_u8 (by rfl) (.tmp 40) (.tmp 42) (by rfl) B0 A4 (no + 1 + 3) c4 _ (by rfl) hO4 A v.b.length cb (u8s v.b) (by rfl) (by rw [u8s_length]; omega) hbr4 (u8_one _) (by omega) (by omega) ?_; intro A5 c5 w5 hO5 hg5 hx5; have q5 := grown_cell hg5 q4 (ne_step hx4 n3 hw3); have hB6 := hO4.belowOf hB5 hg5 (by omega) (Nat.le_refl _)))
  go_wp2_with fail
  go_ret
  have he : u8s (out ++ V.enc v) = us ++ cb8 2 :: (u8s bl ++ u8s v.b) := by rw [u8s_append, HOU.out, HE.out, u8s_append, u8s_append]; rfl
  have hO6 : Own w5 B0 5 1 A5 (no + 1 + 3 + v.b.length) c5 (u8s (out ++ V.enc v)) := by rw [he]; simpa using hO5
  have hl6 := hO6.byt.2.1
  rw [← hl6] at hO6
  exact ⟨A5, c5, by rw [hl6]; rfl, hO6, hB6⟩

theorem szs_take_le : ∀ (l : List V) (k : Nat) (h : k < l.length), V.sz.szs (l.take k) + l[k].sz ≤ V.sz.szs l
  | x :: r, 0, _ => by simp [V.sz.szs]
  | x :: r, k + 1, h => by
    have := szs_take_le r k (by simpa using h)
    simp only [List.take_succ_cons, V.sz.szs, List.getElem_cons_succ]
    omega

set_option maxHeartbeats 4000000 in
theorem put_any_value (B0 : Nat) (w0 : World) : ∀ (d : Nat) (out : List UInt8) (O : Option Addr) (no c0 : Nat) (v : V) (A : Option Addr) (cb : Nat) (A' : Option Addr) (cl : Nat) (w : World), v.ht ≤ d → v.wt ≤ 1000000000 → v.rpure = true →
    v.sz ≤ 1048576 → B0 ≤ w.heap.size → Own w B0 5 1 O no c0 (u8s out) → no + v.sz ≤ 100000000000 → Rep w0 v A cb A' cl → w0.heap.size ≤ B0 → Below w0.heap.size w0 w →
    Calls Try.prog 25 #[.slice O no c0, vv v A cb A' cl] w (Puts B0 (out ++ V.enc v) w) := by
  intro d
  induction d with
  | zero => intro _ _ _ _ v _ _ _ _ _ hd; exact absurd (V.ht_pos v) (by omega)
  | succ d ih =>
    intro out O no c0 v A cb A' cl w hd hwt hp hsz1 hB0 hO hno hr h00 h01
    have hf := V.rpure_flat hp
    by_cases k1 : v.k = 1
    · have hn : 0 ≤ v.n ∧ v.n ≤ 4611686018427387904 := by
        unfold V.flat at hf
        rw [if_pos k1] at hf
        simp at hf
        exact ⟨hf.1.1.1, hf.1.1.2⟩
      obtain ⟨n, hn0⟩ := Int.eq_ofNat_of_zero_le hn.1
      exact put_num B0 out O no c0 v A cb A' cl w hB0 hO (by omega) k1 n hn0 (by omega)
    · by_cases k2 : v.k = 2
      · have hb : v.b.length ≤ 1048576 := by
          have h1 := V.enc_length v
          rw [V.enc_eq, if_neg k1, if_pos k2] at h1
          simp at h1
          omega
        exact put_raw B0 out O no c0 v A cb A' cl w w0 hB0 hO (by omega) k2 hb hr.bytes h00 h01
      · have k3 := (V.flat_kind hf k1 k2).1
        have hl4 := (V.flat_kind hf k1 k2).2.2.2
        have hits := V.rpure_items hp k3
        have HE : Hid (V.enc v = [3] ++ (be 2 v.l.length ++ V.enc.encs v.l)) := by show _ = _; rw [V.enc_eq, if_neg k1, if_neg k2]; rfl
        have hszs : v.sz = 3 + V.sz.szs v.l := by rw [← V.enc_length, HE.out]; simp [be_length, V.enc_length.encs_length]; omega
        have hk1 : (v.k == 1) = false := by simp [k3]
        have hk2 : (v.k == 2) = false := by simp [k3]
        have hput := fun w' => put_any v.l.length 2 w' (by omega) (by omega) (by omega) (wid_le (by omega))
        have HPUT := Lib.hid hput
        have HITS := Lib.hid hits
        have HSZ := Lib.hid hszs
        have hszl : V.sz.szs v.l ≤ 1048576 := by omega
        have hszn : no + 3 + V.sz.szs v.l ≤ 100000000000 := by omega
        clear hput k1 k2 k3 hits hf hp hszs hsz1 hno
        go_enter Try.func25, Try.ntmps25
        go_wp2_with fail
        refine (HPUT.out _).mono ?_
        rintro e w2 ⟨A2, c2, rfl, hb2, hc2, hB2⟩
        have hne : ∀ ad, A2 = some ad → some ad.block ≠ blk O := fun ad e => hO.older (by have := hb2.2 ad e; simp at this; omega)
        have hnb : some w.heap.size ≠ blk O := hO.older (Nat.le_refl _)
        have hO2 := (hO.alloc (.cells #[.int .i64 v.k, .int .i64 v.n, .slice A v.b.length cb, .slice A' v.l.length cl] 30)).below hB2
        have hB3 : Below B0 w w2 := ((Below.refl _ _).alloc hB0 _).trans (hB2.mono (by simp; omega))
        have hsz := hB3.size
        simp only [World.size_alloc] at hB2
        obtain ⟨q0, q1, q2, q3⟩ := box4 hB2
        have hszb := hB2.size
        simp only [World.size_alloc] at hszb
        rw [be_length] at hc2 ⊢
        clear hO q0 q1 q2 hB2
        generalize hou : u8s out = us at *
        have HOU := Lib.hid hou
        clear hou
        have hl2 := be_length 2 v.l.length
        have HL2 := Lib.hid hl2
        clear hl2
        generalize hbe : be 2 v.l.length = bl at *
        have HBE := Lib.hid hbe
        clear hbe
        go_wp2_with (first
          | (at_builtin; go_loud (refine wpList_app _ el_u8 rfl (.tmp 51) (.tmp 52) rfl B0 O no c0 us rfl (hO2.alloc _) (some ⟨w2.heap.size, 0, none⟩) 1 1 [cb8 3] rfl rfl (row_lit _ _ _ _ rfl) (by simp [cb8]; rfl) (by omega) (by simp; omega) ?_)))
        intro A3 c3 w3 hO3 hg3 hx3
        have kA := (World.cell?_alloc_lt w2 (.cells #[.int .u8 3] 5) ⟨w.heap.size, 3, none⟩ (by simp; omega)).trans q3
        have q3' := grown_cell hg3 kA hnb
        have n3 := ne_step hx3 hnb (by omega)
        have hb3 : Byt w3 A2 bl := Row.grown (Row.alloc hb2.1 _) hg3 hne
        have hB4 := (hO2.alloc (.cells #[.int .u8 3] 5)).belowOf (hB3.alloc (by omega) _) hg3 (by simp; omega) (Nat.le_refl _)
        have hsz4 := hB4.size
        clear hO2 hg3 hx3 kA q3 hb2 hne hnb hB3
        go_wp2_with (first
          | (at_builtin; go_loud (refine wpList_app _ el_u8 rfl (.tmp 53) (.tmp 54) rfl B0 A3 (no + 1) c3 _ rfl hO3 A2 2 c2 (u8s bl) rfl (by rw [u8s_length]; exact HL2.out) hb3 (u8_one _) (by omega) (by omega) ?_)))
        intro A4 c4 w4 hO4 hg4 hx4
        have q3 := grown_cell hg4 q3' n3
        have hB5 := hO3.belowOf hB4 hg4 (by omega) (Nat.le_refl _)
        have he : u8s (out ++ ([3] ++ bl)) = us ++ cb8 3 :: u8s bl := by rw [u8s_append, HOU.out, u8s_append]; rfl
        have hO5 : Own w4 B0 5 1 A4 (no + 1 + 2) c4 (u8s (out ++ ([3] ++ bl))) := by rw [he]; simpa using hO4
        clear hO4 hg4 hx4 he hO3 n3 q3' hb3 hB4 hsz4
        have HE2 : Hid (∀ k, out ++ ([3] ++ bl) ++ V.enc.encs (v.l.take k) = out ++ ([3] ++ (bl ++ V.enc.encs (v.l.take k)))) := by intro k; simp
        generalize hpre : out ++ ([3] ++ bl) = pre at *
        have HPRE := Lib.hid hpre
        clear hpre
        go_wp2_with fail
        go_loopw [0, 59] (fun x i wr => ∃ (k nk : Nat) (A4 : Option Addr) (c4 : Nat), k ≤ v.l.length ∧ i = .int .i64 k ∧ x = .slice A4 nk c4 ∧ Hid (nk = no + 3 + V.sz.szs (v.l.take k)) ∧ Own wr B0 5 1 A4 nk c4 (u8s (pre ++ V.enc.encs (v.l.take k))) ∧
            Below B0 w wr) (fun _ i _ => v.l.length - (intOf i).toNat)
        case atStart => exact ⟨0, no + 1 + 2, A4, c4, Nat.zero_le _, rfl, rfl, Lib.hid (by simp [V.sz.szs]), by simpa [V.enc.encs] using hO5, hB5⟩
        case round =>
          obtain ⟨k, nk, A4, c4, hk, rfl, rfl, HNK, hO, hB⟩ := hrel
          have hll := v.len_l
          have hsw := hB.size
          by_cases hlt : k < v.l.length
          · have hZ := h01.trans (hB.mono h00)
            obtain ⟨g, o, B, c1, B', c2, rfl, h0, h1, h2, h3, hri⟩ := hr.item hlt
            have kc : ∀ {a : Addr} {u : Value}, w0.cell? a = some u → wr.cell? a = some u := fun hc => (hZ.cell (World.block_lt_of_cell? w0 _ hc)).trans hc
            have h0 := kc h0
            have h1 := kc h1
            have h2 := kc h2
            have h3 := kc h3
            have hx := List.getElem_mem hlt
            have hxw := v.wt_item _ hx
            have hxh := v.ht_item _ hx
            have hpx := HITS.out _ hx
            have hst := szs_take_le v.l k hlt
            have HT : Hid (V.enc.encs (v.l.take (k + 1)) = V.enc.encs (v.l.take k) ++ V.enc v.l[k]) := by show _ = _; rw [List.take_succ_eq_append_getElem hlt, V.encs_snoc]
            have HZT := Lib.hid (V.szs_take v.l k hlt)
            have HXL := Lib.hid (V.enc_length v.l[k])
            generalize v.l[k] = x at *
            have hnk : nk + x.sz ≤ 100000000000 := by have := HNK.out; omega
            have HC := Lib.hid (ih (pre ++ V.enc.encs (v.l.take k)) A4 nk c4 x B c1 B' c2 (wr.alloc (.cells #[.int .i64 x.k, .int .i64 x.n, .slice B x.b.length c1, .slice B' x.l.length c2] 30)) (by omega) (by omega) hpx (by omega) (by simp; omega) (hO.alloc _) hnk hri h00 (hZ.alloc (by have := hZ.size; omega) _))
            clear hx hpx hst kc
            go_wp2_with fail
            refine HC.out.mono ?_
            rintro e w5 ⟨A5, c5, rfl, hO5, hB6⟩
            have HLN : Hid ((pre ++ V.enc.encs (v.l.take k) ++ x.enc).length = nk + x.sz) := by
              have hl := hO.byt.2.1
              show _ = _
              rw [List.length_append, hl, HXL.out]
            rw [HLN.out] at hO5 ⊢
            have hB7 := (hB.alloc (by omega) _).trans hB6
            have HO5 : Hid (Own w5 B0 5 1 A5 (nk + x.sz) c5 (u8s (pre ++ V.enc.encs (v.l.take (k + 1))))) := by
              show Own _ _ _ _ _ _ _ _
              rw [HT.out, ← List.append_assoc]; exact hO5
            clear hO5 hO hB hB6 hri h0 h1 h2 h3
            go_wp2_with fail
            go_roundw
            case rel => exact ⟨k + 1, nk + x.sz, A5, c5, by omega, by go_num, rfl, by have h1 := HNK.out; have h2 := HZT.out; exact Lib.hid (by omega), HO5.out, hB7⟩
            case measure => simp [intOf]; omega
          · have htk : v.l.take k = v.l := List.take_of_length_le (by omega)
            have HF : Hid (pre ++ V.enc.encs (v.l.take k) = out ++ V.enc v) := by
              show _ = _
              rw [HE2.out, htk, HE.out]
            clear htk
            have hO6 : Own wr B0 5 1 A4 nk c4 (u8s (out ++ V.enc v)) := by rw [← HF.out]; exact hO
            clear hO
            go_wp2_with fail
            go_ret
            have hl6 := hO6.byt.2.1
            rw [← hl6] at hO6
            exact ⟨A4, c4, by rw [hl6]; rfl, hO6, hB⟩
end Go.Proofs.Ytimdogdplphmoaa
