/-
  The contracts of codec's measure and Size.
-/
import Derived.Test.YtimdogdplphmoaaPure
namespace Go.Proofs.Ytimdogdplphmoaa
open Go.RowKit

/-- What measure and Size hand back. -/
def sizeV (o : Option Nat) : Value := .tuple #[.int .i64 ((o.getD 0 : Nat) : Int), .bool o.isSome]

namespace V
theorem wts_take : ∀ (l : List V) (k : Nat) (h : k < l.length), wt.wts (l.take k) + l[k].wt ≤ wt.wts l
  | x :: r, 0, _ => by simp [wt.wts]
  | x :: r, k + 1, h => by
    have := wts_take r k (by simpa using h)
    simp only [List.take_succ_cons, wt.wts, List.getElem_cons_succ]
    omega
theorem mloop_drop (l : List V) (room : Int) (d k s : Nat) (h : k < l.length) : mF.mloop (l.drop k) room d s = match mF l[k] (room - s) d with
    | none => none
    | some m => mF.mloop (l.drop (k + 1)) room d (s + m) := by
  rw [List.drop_eq_getElem_cons h, mF.mloop]
  cases mF l[k] (room - s) d <;> rfl
theorem szs_take (l : List V) (k : Nat) (h : k < l.length) : sz.szs (l.take (k + 1)) = sz.szs (l.take k) + sz l[k] := by
  rw [List.take_succ_eq_append_getElem h, szs_append]
  simp [sz.szs]
theorem wts_snoc : ∀ (l : List V) (x : V), wt.wts (l ++ [x]) = wt.wts l + x.wt
  | [], x => by simp [wt.wts]
  | y :: r, x => by simp only [List.cons_append, wt.wts, wts_snoc r x]; omega
theorem wts_append : ∀ a b : List V, wt.wts (a ++ b) = wt.wts a + wt.wts b
  | [], b => by simp [wt.wts]
  | x :: r, b => by simp only [List.cons_append, wt.wts, wts_append r b]; omega
theorem rpall_snoc : ∀ (l : List V) (x : V), rpure.all (l ++ [x]) = (rpure.all l && rpure x)
  | [], x => by simp [rpure.all]
  | y :: r, x => by simp only [List.cons_append, rpure.all, rpall_snoc r x, Bool.and_assoc]
end V

set_option maxHeartbeats 1000000 in
theorem measure_bad (d : Nat) (di room : Int) (v : V) (A : Option Addr) (cb : Nat) (A' : Option Addr) (cl : Nat) (w : World) (hp : v.pureB = false) :
    Calls Try.prog 24 #[vv v A cb A' cl, .int .i64 room, .int .i64 di] w fun e w' => e = .returned (sizeV (V.mF v room d)) ∧ Below w.heap.size w w' := by
  have HE : Hid (V.mF v room d = none) := by
    show _ = _
    rw [V.mF_eq, if_pos (Or.inl hp)]
  go_enter Try.func24, Try.ntmps24
  go_wp2_with fail
  refine (pure_any v A cb A' cl _).mono ?_
  rintro e w1 ⟨rfl, hB⟩
  simp only [World.size_alloc] at hB
  obtain ⟨q0, q1, q2, q3⟩ := box4 hB
  go_wp2_with fail
  go_ret2
  rw [HE.out]
  exact ⟨rfl, unbox hB⟩

set_option maxHeartbeats 1000000 in
theorem measure_neg (d : Nat) (di room : Int) (v : V) (A : Option Addr) (cb : Nat) (A' : Option Addr) (cl : Nat) (w : World) (hp : v.pureB = true) (hr : room < 0) :
    Calls Try.prog 24 #[vv v A cb A' cl, .int .i64 room, .int .i64 di] w fun e w' => e = .returned (sizeV (V.mF v room d)) ∧ Below w.heap.size w w' := by
  have HE : Hid (V.mF v room d = none) := by
    show _ = _
    rw [V.mF_eq, if_pos (Or.inr hr)]
  go_enter Try.func24, Try.ntmps24
  go_wp2_with fail
  refine (pure_any v A cb A' cl _).mono ?_
  rintro e w1 ⟨rfl, hB⟩
  simp only [World.size_alloc] at hB
  obtain ⟨q0, q1, q2, q3⟩ := box4 hB
  go_wp2_with fail
  go_ret2
  rw [HE.out]
  exact ⟨rfl, unbox hB⟩

set_option maxHeartbeats 1000000 in
theorem measure_num (d : Nat) (di room : Int) (v : V) (A : Option Addr) (cb : Nat) (A' : Option Addr) (cl : Nat) (w : World) (hd1 : 0 ≤ di) (hp : v.pureB = true) (hr : 0 ≤ room) (hk : v.k = 1) :
    Calls Try.prog 24 #[vv v A cb A' cl, .int .i64 room, .int .i64 di] w fun e w' => e = .returned (sizeV (V.mF v room d)) ∧ Below w.heap.size w w' := by
  have HE : Hid (V.mF v room d = some (2 + wid v.n.toNat)) := by
    show _ = _
    rw [V.mF_eq, if_neg (by rw [hp]; simp; omega), if_pos hk]
  have hn : 0 ≤ v.n ∧ v.n ≤ 4611686018427387904 := by
    unfold V.pureB at hp
    rw [if_pos hk] at hp
    simp at hp
    exact ⟨hp.1.1.1, hp.1.1.2⟩
  obtain ⟨n, hn0⟩ := Int.eq_ofNat_of_zero_le hn.1
  have hn2 : n ≤ 4611686018427387904 := by omega
  have hw8 := wid_le8 hn2
  rw [hn0, Int.toNat_natCast] at HE
  clear hn
  have HN := Lib.hid hn0
  clear hn0
  have hk1 : (v.k == 1) = true := by simpa using hk
  clear hk
  go_enter Try.func24, Try.ntmps24
  go_wp2_with fail
  refine (pure_any v A cb A' cl _).mono ?_
  rintro e w1 ⟨rfl, hB⟩
  simp only [World.size_alloc] at hB
  obtain ⟨q0, q1, q2, q3⟩ := box4 hB
  rw [HN.out] at q1
  go_wp2_with fail
  refine (plain_any n _ hn2).mono ?_
  rintro e w2 ⟨A2, c2, rfl, _, _, hB2⟩
  rw [plainB_length]
  go_wp2_with fail
  go_ret2
  rw [HE.out]
  exact ⟨by simp [sizeV], (unbox hB).trans (hB2.mono (by have := (unbox hB).size; omega))⟩

set_option maxHeartbeats 1000000 in
theorem measure_raw (d : Nat) (di room : Int) (v : V) (A : Option Addr) (cb : Nat) (A' : Option Addr) (cl : Nat) (w : World) (hd1 : 0 ≤ di) (hp : v.pureB = true) (hr : 0 ≤ room) (hk : v.k = 2) (hb : v.b.length ≤ 1000000000000) :
    Calls Try.prog 24 #[vv v A cb A' cl, .int .i64 room, .int .i64 di] w fun e w' => e = .returned (sizeV (V.mF v room d)) ∧ Below w.heap.size w w' := by
  have HE : Hid (V.mF v room d = some (4 + v.b.length)) := by
    show _ = _
    rw [V.mF_eq, if_neg (by rw [hp]; simp; omega), if_neg (by omega), if_pos hk]
  have hk1 : (v.k == 1) = false := by simp [hk]
  have hk2 : (v.k == 2) = true := by simp [hk]
  clear hk
  go_enter Try.func24, Try.ntmps24
  go_wp2_with fail
  refine (pure_any v A cb A' cl _).mono ?_
  rintro e w1 ⟨rfl, hB⟩
  simp only [World.size_alloc] at hB
  obtain ⟨q0, q1, q2, q3⟩ := box4 hB
  go_wp2_with fail
  go_ret2
  rw [HE.out]
  exact ⟨by simp [sizeV], unbox hB⟩

set_option maxHeartbeats 1000000 in
theorem measure_top (d : Nat) (di room : Int) (v : V) (A : Option Addr) (cb : Nat) (A' : Option Addr) (cl : Nat) (w : World) (hd1 : 0 ≤ di) (hp : v.pureB = true) (hr : 0 ≤ room) (hk : v.k = 3) (hd : d = 0) (hdi : (di == 0) = true) :
    Calls Try.prog 24 #[vv v A cb A' cl, .int .i64 room, .int .i64 di] w fun e w' => e = .returned (sizeV (V.mF v room d)) ∧ Below w.heap.size w w' := by
  have HE : Hid (V.mF v room d = none) := by
    show _ = _
    rw [V.mF_eq, if_neg (by rw [hp]; simp; omega), if_neg (by omega), if_neg (by omega), if_pos hd]
  have hk1 : (v.k == 1) = false := by simp [hk]
  have hk2 : (v.k == 2) = false := by simp [hk]
  clear hk hd
  go_enter Try.func24, Try.ntmps24
  go_wp2_with fail
  refine (pure_any v A cb A' cl _).mono ?_
  rintro e w1 ⟨rfl, hB⟩
  simp only [World.size_alloc] at hB
  obtain ⟨q0, q1, q2, q3⟩ := box4 hB
  go_wp2_with fail
  go_ret2
  rw [HE.out]
  exact ⟨rfl, unbox hB⟩


theorem pure_three {v : V} (h : v.pureB = true) (h1 : ¬ v.k = 1) (h2 : ¬ v.k = 2) : v.k = 3 := (V.flat_kind (V.flat_of_pure h) h1 h2).1

set_option maxHeartbeats 2000000 in
theorem measure_any : ∀ (d : Nat) (di room : Int) (v : V) (A : Option Addr) (cb : Nat) (A' : Option Addr) (cl : Nat) (w : World), di = d → d ≤ 1000 → v.wt ≤ 1000000000000 → room ≤ 1048576 → (10 * v.wt : Int) - 1000000000000000 ≤ room → Rep w v A cb A' cl →
    Calls Try.prog 24 #[vv v A cb A' cl, .int .i64 room, .int .i64 di] w fun e w' => e = .returned (sizeV (V.mF v room d)) ∧ Below w.heap.size w w' := by
  intro d
  induction d with
  | zero =>
    intro di room v A cb A' cl w hdi _ hwt hr1 hr2 hr
    by_cases hp : v.pureB = true
    · by_cases hneg : room < 0
      · exact measure_neg 0 di room v A cb A' cl w hp hneg
      · have h0 : 0 ≤ room := by omega
        by_cases k1 : v.k = 1
        · exact measure_num 0 di room v A cb A' cl w (by omega) hp h0 k1
        · by_cases k2 : v.k = 2
          · exact measure_raw 0 di room v A cb A' cl w (by omega) hp h0 k2 (by have := v.len_b; omega)
          · exact measure_top 0 di room v A cb A' cl w (by omega) hp h0 (pure_three hp k1 k2) rfl (by simp [hdi])
    · exact measure_bad 0 di room v A cb A' cl w (by simpa using hp)
  | succ d ih =>
    intro di room v A cb A' cl w hdi hd hwt hr1 hr2 hr
    by_cases hp : v.pureB = true
    · by_cases hneg : room < 0
      · exact measure_neg _ di room v A cb A' cl w hp hneg
      · have h0 : 0 ≤ room := by omega
        by_cases k1 : v.k = 1
        · exact measure_num _ di room v A cb A' cl w (by omega) hp h0 k1
        · by_cases k2 : v.k = 2
          · exact measure_raw _ di room v A cb A' cl w (by omega) hp h0 k2 (by have := v.len_b; omega)
          · have hd1 : di ≤ (d : Int) + 1 := by omega
            have hd2 : (d : Int) + 1 ≤ di := by omega
            have hk1 : (v.k == 1) = false := by simpa using k1
            have hk2 : (v.k == 2) = false := by simpa using k2
            have hd0 : (di == 0) = false := by rw [beq_eq_false_iff_ne]; omega
            have HE : Hid (V.mF v room (d + 1) = V.mF.mloop v.l room d 3) := by
              show _ = _
              rw [V.mF_eq, if_neg (by rw [hp]; simp; omega), if_neg k1, if_neg k2, if_neg (by omega)]
              rfl
            have hll := v.len_l
            have hwl : V.wt.wts v.l < v.wt := by rw [V.wt_eq]; omega
            clear hdi k1 k2 hneg
            go_enter Try.func24, Try.ntmps24
            go_wp2_with fail
            refine (pure_any v A cb A' cl _).mono ?_
            rintro e w1 ⟨rfl, hB⟩
            simp only [World.size_alloc] at hB
            obtain ⟨q0, q1, q2, q3⟩ := box4 hB
            go_wp2_with fail
            go_loopw [8, 44] (fun x i wr => ∃ (k S : Nat), k ≤ v.l.length ∧ i = .int .i64 k ∧ x = .int .i64 S ∧ Hid (S = 3 + V.sz.szs (v.l.take k)) ∧ Hid (V.rpure.all (v.l.take k) = true) ∧ S ≤ 3 + 10 * V.wt.wts (v.l.take k) ∧ Hid (V.mF.mloop (v.l.drop k) room d S = V.mF.mloop v.l room d 3) ∧
                Below (w.heap.size + 1) (w.alloc (.cells #[.int .i64 v.k, .int .i64 v.n, .slice A v.b.length cb, .slice A' v.l.length cl] 30)) wr) (fun _ i _ => v.l.length - (intOf i).toNat)
            case atStart => exact ⟨0, 3, Nat.zero_le _, rfl, rfl, rfl, rfl, by simp [V.wt.wts], rfl, hB⟩
            case round =>
              obtain ⟨k, S, hk, rfl, rfl, HS, HA, hS, HI, hB⟩ := hrel
              have hsz := hB.size
              by_cases hlt : k < v.l.length
              · obtain ⟨g, o, B, c1, B', c2, rfl, h0, h1, h2, h3, hri⟩ := (hr.below (unbox hB)).item hlt
                have hx := List.getElem_mem hlt
                have hxw := v.wt_item _ hx
                have hwk := V.wts_take v.l k hlt
                have HN := Lib.hid (V.mloop_drop v.l room d k S hlt)
                have HZ := Lib.hid (V.szs_take v.l k hlt)
                have hxS := fun m (hm : V.mF v.l[k] (room - S) d = some m) => V.mF_sound d v.l[k] (room - S) m hm
                have HT : Hid (v.l.take (k + 1) = v.l.take k ++ [v.l[k]]) := List.take_succ_eq_append_getElem hlt
                have HSL := fun (h : V.rpure v.l[k] = true) => V.sz_le v.l[k] (V.rpure_flat h) h
                have hwk2 : V.wt.wts (v.l.take (k + 1)) = V.wt.wts (v.l.take k) + v.l[k].wt := by rw [HT.out]; exact V.wts_snoc _ _
                generalize v.l[k] = x at *
                clear hx
                have hcall := ih (di - 1) (room - S) x B c1 B' c2 (wr.alloc (.cells #[.int .i64 x.k, .int .i64 x.n, .slice B x.b.length c1, .slice B' x.l.length c2] 30)) (by omega) (by omega) (by omega) (by omega) (by omega) (hri.alloc _)
                have HW2 := Lib.hid hwk2
                have HSL' := Lib.hid HSL
                clear hwk2 HSL
                cases hm : V.mF x (room - S) d with
                | none =>
                  rw [hm] at hcall
                  have HM := Lib.hid hm
                  have HCALL := Lib.hid hcall
                  clear hm hcall hxS
                  go_wp2_with fail
                  refine HCALL.out.mono ?_
                  rintro e w2 ⟨rfl, hB2⟩
                  unfold sizeV
                  simp only [Option.getD_none, Option.isSome_none]
                  go_wp2_with fail
                  go_ret2
                  rw [HE.out, ← HI.out, HN.out, HM.out]
                  exact ⟨rfl, unbox ((hB.alloc (by simpa using hsz) _).trans (hB2.mono (by have := hB.size; simp at this ⊢; omega)))⟩
                | some m =>
                  rw [hm] at hcall
                  obtain ⟨e1, e2, e3⟩ := hxS m hm
                  have hm10 := HSL'.out e2
                  have HM := Lib.hid hm
                  have HCALL := Lib.hid hcall
                  have HMZ := Lib.hid e1
                  have HPX := Lib.hid e2
                  have hmb : m ≤ 10 * x.wt := by omega
                  clear hm hcall hxS e1 e2 e3 hm10
                  go_wp2_with fail
                  refine HCALL.out.mono ?_
                  rintro e w2 ⟨rfl, hB2⟩
                  have hB3 : Below (w.heap.size + 1) (w.alloc (.cells #[.int .i64 v.k, .int .i64 v.n, .slice A v.b.length cb, .slice (some ⟨g, o, none⟩) v.l.length cl] 30)) w2 :=
                    (hB.alloc (by simpa using hsz) _).trans (hB2.mono (by have := hB.size; simp at this ⊢; omega))
                  unfold sizeV
                  simp only [Option.getD_some, Option.isSome_some]
                  go_wp2_with fail
                  go_roundw
                  case rel => exact ⟨k + 1, S + m, by omega, by go_num, by go_num, by show _ = _; rw [HZ.out, HS.out, HMZ.out]; omega, by show _ = _; rw [HT.out, V.rpall_snoc, HA.out, HPX.out]; rfl, by have := HW2.out; omega, by show _ = _; rw [← HI.out, HN.out, HM.out], hB3⟩
                  case measure => simp [intOf]; omega
              · have hdr : v.l.drop k = [] := List.drop_of_length_le (by omega)
                have HE2 : Hid (V.mF v room (d + 1) = some S) := by
                  show _ = _
                  rw [HE.out, ← HI.out, hdr, V.mF.mloop]
                clear hdr HI HE
                obtain ⟨q0, q1, q2, q3⟩ := box4 hB
                go_wp2_with fail
                go_ret2
                rw [HE2.out]
                exact ⟨rfl, unbox hB⟩
    · exact measure_bad _ di room v A cb A' cl w (by simpa using hp)
end Go.Proofs.Ytimdogdplphmoaa
