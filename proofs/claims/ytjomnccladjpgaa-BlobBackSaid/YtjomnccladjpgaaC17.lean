/-
  Texts joined: see the remark at the head of each part.
-/
import Derived.Test.YtjomnccladjpgaaC13
import Derived.Test.YtjomnccladjpgaaC16
set_option linter.unusedVariables false
set_option linter.unusedSimpArgs false
/-
  Walks of functions: each function does what its model tells. Printed by a program of this claim's own (gen.py) off the given translation.
-/
namespace Go.Proofs.Ytjomnccladjpgaa
open Go Go.RowKit
set_option linter.unusedVariables false
set_option maxHeartbeats 4000000
set_option maxRecDepth 20000
theorem fc_blob_may (p0 : Int) (r : Bool) (h : m_blob_may p0 = some r) : FC Try.prog 78 [.t (.d (.lit (.int .i64 p0)))] [] (.t (.d (.lit (.bool r)))) := by
 refine fc_mk (rs := [.tmp 2]) (n := 9) Try.func78 rfl rfl (Nat.le_of_ble_eq_true rfl) rfl (pins := []) rfl (L := [(0, .i p0)]) rfl ?_
 refine c_sr ?_
 refine o_1 (.b false) rfl ?_
 refine o_nil (c_sr ?_)
 refine o_m3 (.i p0) (.b (decide (p0 ≥ 0))) (.b (decide (p0 ≥ 0))) rfl ?_
 rcases bif_some h with ⟨h1, h⟩ | ⟨h1, h⟩
 ·
  refine o_s (.i p0) (gy rfl rfl rfl h1) rfl rfl rfl ?_
  refine o_s (.b (decide (p0 ≤ 1024))) (gy rfl rfl rfl h1) rfl rfl rfl ?_
  refine o_pk (.b (decide (p0 ≤ 1024))) (b := true) h1 (g0 rfl) rfl rfl rfl rfl rfl ?_
  refine o_1 (.b (decide (p0 ≤ 1024))) rfl ?_
  refine o_nil (c_ret ?_)
  obtain rfl := Option.some.inj h
  exact end0 rfl .r
 refine o_skip rfl rfl rfl h1 rfl rfl ?_
 refine o_skip rfl rfl rfl h1 rfl rfl ?_
 refine o_pk (.b false) (b := false) h1 (g0 rfl) rfl rfl rfl rfl rfl ?_
 refine o_1 (.b false) rfl ?_
 refine o_nil (c_ret ?_)
 obtain rfl := Option.some.inj h
 exact end0 rfl .r
theorem fc_blob_Count (p0 : Int) (r : Int) (h : m_blob_Count p0 = some r) : FC Try.prog 35 [.t (.d (.lit (.int .i64 p0)))] [] (.t (.d (.lit (.int .i64 r)))) := by
 refine fc_mk (rs := [.tmp 2]) (n := 10) Try.func35 rfl rfl (Nat.le_of_ble_eq_true rfl) rfl (pins := []) rfl (L := [(0, .i p0)]) rfl ?_
 refine c_sr ?_
 refine o_1 (.i 0) rfl ?_
 refine o_nil (c_seq (c_sr ?_))
 refine o_1 (.i p0) rfl ?_
 obtain ⟨x1, h2, h⟩ := bind_some h
 refine o_ca (fc_blob_may _ _ h2) (g0 rfl) rfl rfl rfl rfl rfl rfl rfl (.cons .r .nil) rfl rfl ?_
 refine o_1 (.b (!x1)) rfl ?_
 refine o_nil ?_
 rcases bif_some h with ⟨h3, h⟩ | ⟨h3, h⟩
 ·
  refine c_t h3 rfl ?_
  refine c_sr ?_
  refine o_1 (.i 0) rfl ?_
  refine o_nil (c_ret ?_)
  obtain rfl := Option.some.inj h
  exact end0 rfl .r
 refine c_f h3 rfl ?_
 refine c_skip (c_sr ?_)
 refine o_m5 (.i p0) (.i (wi (p0 + 60))) (.i (wi ((wi (p0 + 60)) - 1))) (.i (wi (Int.tdiv (wi ((wi (p0 + 60)) - 1)) 60))) (.i (wi (Int.tdiv (wi ((wi (p0 + 60)) - 1)) 60))) rfl ?_
 refine o_nil (c_ret ?_)
 obtain rfl := Option.some.inj h
 exact end0 rfl .r
theorem fc_slices_Index_int (p0 : (List Int)) (p1 : Int) (r : Int) (h : m_slices_Index_int p0 p1 = some r) : FC Try.prog 132 [.t (.d (.seq 1 (List.map cI64 p0))), .t (.d (.lit (.int .i64 p1)))] [] (.t (.d (.lit (.int .i64 r)))) := by
 refine fc_mk (rs := [.tmp 4]) (n := 19) Try.func132 rfl rfl (Nat.le_of_ble_eq_true rfl) rfl (pins := []) rfl (L := [(0, .t (.d (.seq 1 (List.map cI64 p0)))), (1, .i p1)]) rfl ?_
 refine c_sr ?_
 refine o_1 (.i 0) rfl ?_
 refine o_nil (c_seq (c_sr ?_))
 refine o_1 (.t (.d (.seq 1 (List.map cI64 p0)))) rfl ?_
 refine o_c (g0 rfl) rfl rfl rfl (lenE _ _) trivial ?_
 refine o_1 (.i 0) rfl ?_
 refine o_nil (c_block ?_)
 refine c_fuel (fun (z1 : Int) => [(0, .t (.d (.seq 1 (List.map cI64 p0)))), (1, .i p1), (7, .i (p0.length : Int)), (8, .i z1)]) (fun nl1 => (fun (z1 : Int) => m_slices_Index_int_l1 p0 p1 nl1 z1 = some r)) (p0.length + 1) 0 h ⟨.r, .r, .r, .r, trivial⟩ rfl ?_
 rintro nl1 z1 h
 cases nl1 with
 | zero => exact none_ne h
 | succ nl1 =>
  refine c_sr ?_
  refine o_1 (.b (decide (z1 < (p0.length : Int)))) rfl ?_
  refine o_nil (c_seq ?_)
  rcases bif_some h with ⟨h2, h⟩ | ⟨h2, h⟩
  ·
   refine c_t h2 rfl ?_
   refine c_skip (c_seq (c_block (c_sr ?_)))
   refine o_m2 (.i z1) (.i z1) rfl ?_
   refine o_nil (c_sr ?_)
   refine o_m3 (.i p1) (.t (.d (.seq 1 (List.map cI64 p0)))) (.i z1) rfl ?_
   obtain ⟨x3, h4, h⟩ := bind_some h
   refine o_c (g0 rfl) rfl rfl rfl (idxE h4) (idxC h4) ?_
   refine o_m2 (.i x3) (.b (p1 == x3)) rfl ?_
   refine o_nil ?_
   rcases bif_some h with ⟨h5, h⟩ | ⟨h5, h⟩
   ·
    refine c_t h5 rfl ?_
    refine c_sr ?_
    refine o_m2 (.i z1) (.i z1) rfl ?_
    refine o_nil (c_ret ?_)
    obtain rfl := Option.some.inj h
    exact end0 rfl .r
   refine c_f h5 rfl ?_
   refine c_skip (c_region ?_)
   refine o_m2 (.i (wi (z1 + 1))) (.i (wi (z1 + 1))) rfl ?_
   refine o_nil ?_
   exact ⟨nl1, (wi (z1 + 1)), Nat.lt_succ_self nl1, h, ⟨.r, .r, .r, .r, trivial⟩, rfl⟩
  refine c_f h2 rfl ?_
  refine c_exit (c_sr ?_)
  refine o_1 (.i (-1)) rfl ?_
  refine o_nil (c_ret ?_)
  obtain rfl := Option.some.inj h
  exact end0 rfl .r
theorem fc_slices_Contains_int (p0 : (List Int)) (p1 : Int) (r : Bool) (h : m_slices_Contains_int p0 p1 = some r) : FC Try.prog 113 [.t (.d (.seq 1 (List.map cI64 p0))), .t (.d (.lit (.int .i64 p1)))] [] (.t (.d (.lit (.bool r)))) := by
 refine fc_mk (rs := [.tmp 4]) (n := 9) Try.func113 rfl rfl (Nat.le_of_ble_eq_true rfl) rfl (pins := []) rfl (L := [(0, .t (.d (.seq 1 (List.map cI64 p0)))), (1, .i p1)]) rfl ?_
 refine c_sr ?_
 refine o_1 (.b false) rfl ?_
 refine o_nil (c_sr ?_)
 refine o_m2 (.t (.d (.seq 1 (List.map cI64 p0)))) (.i p1) rfl ?_
 obtain ⟨x1, h2, h⟩ := bind_some h
 refine o_ca (fc_slices_Index_int _ _ _ h2) (g0 rfl) rfl rfl rfl rfl rfl rfl rfl (.cons .r (.cons .r .nil)) rfl rfl ?_
 refine o_m2 (.b (decide (x1 ≥ 0))) (.b (decide (x1 ≥ 0))) rfl ?_
 refine o_nil (c_ret ?_)
 obtain rfl := Option.some.inj h
 exact end0 rfl .r
theorem fc_blob_right (p0 : (List Int)) (r : Bool) (h : m_blob_right p0 = some r) : FC Try.prog 79 [.t (.d (.seq 1 (List.map cI64 p0)))] [] (.t (.d (.lit (.bool r)))) := by
 refine fc_mk (rs := [.tmp 2]) (n := 26) Try.func79 rfl rfl (Nat.le_of_ble_eq_true rfl) rfl (pins := []) rfl (L := [(0, .t (.d (.seq 1 (List.map cI64 p0))))]) rfl ?_
 refine c_sr ?_
 refine o_1 (.b false) rfl ?_
 refine o_nil (c_seq (c_sr ?_))
 refine o_1 (.t (.d (.seq 1 (List.map cI64 p0)))) rfl ?_
 refine o_c (g0 rfl) rfl rfl rfl (lenE _ _) trivial ?_
 refine o_1 (.i 0) rfl ?_
 refine o_nil (c_block ?_)
 refine c_fuel (fun (z1 : Int) => [(0, .t (.d (.seq 1 (List.map cI64 p0)))), (5, .t (.d (.seq 1 (List.map cI64 p0)))), (6, .i (p0.length : Int)), (7, .i z1)]) (fun nl1 => (fun (z1 : Int) => m_blob_right_l1 p0 nl1 z1 = some r)) (p0.length + 1) 0 h ⟨.r, .r, .r, .r, trivial⟩ rfl ?_
 rintro nl1 z1 h
 cases nl1 with
 | zero => exact none_ne h
 | succ nl1 =>
  refine c_sr ?_
  refine o_1 (.b (decide (z1 < (p0.length : Int)))) rfl ?_
  refine o_nil (c_seq ?_)
  rcases bif_some h with ⟨h2, h⟩ | ⟨h2, h⟩
  ·
   refine c_t h2 rfl ?_
   refine c_skip (c_seq (c_block (c_sr ?_)))
   refine o_1 (.i z1) rfl ?_
   obtain ⟨x3, h4, h⟩ := bind_some h
   refine o_c (g0 rfl) rfl rfl rfl (idxE h4) (idxC h4) ?_
   refine o_m3 (.i x3) (.i z1) (.i x3) rfl ?_
   refine o_nil (c_sr ?_)
   refine o_m3 (.i x3) (.b (decide (x3 < 1))) (.b (decide (x3 < 1))) rfl ?_
   rcases bif_some h with ⟨h5, h⟩ | ⟨h5, h⟩
   ·
    refine o_skip rfl rfl rfl h5 rfl rfl ?_
    refine o_skip rfl rfl rfl h5 rfl rfl ?_
    refine o_pk (.b true) (b := true) h5 (g0 rfl) rfl rfl rfl rfl rfl ?_
    refine o_1 (.b true) rfl ?_
    refine o_skip rfl rfl rfl rfl rfl rfl ?_
    refine o_skip rfl rfl rfl rfl rfl rfl ?_
    refine o_skip rfl rfl rfl rfl rfl rfl ?_
    refine o_skip rfl rfl rfl rfl rfl rfl ?_
    refine o_skip rfl rfl rfl rfl rfl rfl ?_
    refine o_pk (.b true) (b := true) rfl (g0 rfl) rfl rfl rfl rfl rfl ?_
    refine o_nil ?_
    refine c_t rfl rfl ?_
    refine c_sr ?_
    refine o_1 (.b false) rfl ?_
    refine o_nil (c_ret ?_)
    obtain rfl := Option.some.inj h
    exact end0 rfl .r
   refine o_s (.i x3) (gy rfl rfl rfl h5) rfl rfl rfl ?_
   refine o_s (.b (decide (x3 > 16384))) (gy rfl rfl rfl h5) rfl rfl rfl ?_
   refine o_pk (.b (decide (x3 > 16384))) (b := false) h5 (g0 rfl) rfl rfl rfl rfl rfl ?_
   refine o_1 (.b (decide (x3 > 16384))) rfl ?_
   rcases bif_some h with ⟨h6, h⟩ | ⟨h6, h⟩
   ·
    refine o_skip rfl rfl rfl h6 rfl rfl ?_
    refine o_skip rfl rfl rfl h6 rfl rfl ?_
    refine o_skip rfl rfl rfl h6 rfl rfl ?_
    refine o_skip rfl rfl rfl h6 rfl rfl ?_
    refine o_skip rfl rfl rfl h6 rfl rfl ?_
    refine o_pk (.b true) (b := true) h6 (g0 rfl) rfl rfl rfl rfl rfl ?_
    refine o_nil ?_
    refine c_t rfl rfl ?_
    refine c_sr ?_
    refine o_1 (.b false) rfl ?_
    refine o_nil (c_ret ?_)
    obtain rfl := Option.some.inj h
    exact end0 rfl .r
   refine o_s (.t (.d (.seq 1 (List.map cI64 p0)))) (gy rfl rfl rfl h6) rfl rfl rfl ?_
   refine o_s (.i z1) (gy rfl rfl rfl h6) rfl rfl rfl ?_
   obtain ⟨x7, h8, h⟩ := bind_some h
   refine o_c (gy rfl rfl rfl h6) rfl rfl rfl (cutEh (c := cI64) h8) (cutCh (c := cI64) h8) ?_
   refine o_s (.i x3) (gy rfl rfl rfl h6) rfl rfl rfl ?_
   obtain ⟨x9, h10, h⟩ := bind_some h
   refine o_ca (fc_slices_Contains_int _ _ _ h10) (gy rfl rfl rfl h6) rfl rfl rfl rfl rfl rfl rfl (.cons .r (.cons .r .nil)) rfl rfl ?_
   refine o_pk (.b x9) (b := false) h6 (g0 rfl) rfl rfl rfl rfl rfl ?_
   refine o_nil ?_
   rcases bif_some h with ⟨h11, h⟩ | ⟨h11, h⟩
   ·
    refine c_t h11 rfl ?_
    refine c_sr ?_
    refine o_1 (.b false) rfl ?_
    refine o_nil (c_ret ?_)
    obtain rfl := Option.some.inj h
    exact end0 rfl .r
   refine c_f h11 rfl ?_
   refine c_skip (c_region ?_)
   refine o_m2 (.i (wi (z1 + 1))) (.i (wi (z1 + 1))) rfl ?_
   refine o_nil ?_
   exact ⟨nl1, (wi (z1 + 1)), Nat.lt_succ_self nl1, h, ⟨.r, .r, .r, .r, trivial⟩, rfl⟩
  refine c_f h2 rfl ?_
  refine c_exit (c_sr ?_)
  refine o_1 (.b true) rfl ?_
  refine o_nil (c_ret ?_)
  obtain rfl := Option.some.inj h
  exact end0 rfl .r
theorem it_slices_Chunk_byte_c1 (c1 : (List UInt8)) (c2 : Int) : ITR Try.prog 114 [[.d (.seq 1 (bytesD c1))], [.d (.lit (.int .i64 c2))]] hpA (fun a : (List UInt8) => [.t (.d (.seq 1 (bytesD a)))]) (fun X yld q => m_slices_Chunk_byte_c1 yld c1 c2 q) := by
 intro X l zf hz' yld hy w0 r h
 replace h : m_slices_Chunk_byte_c1 yld c1 c2 w0 = some r := h
 refine ⟨.tup [], FCH.im (args := [.t (.d (.lit (yv l))), .imm [.y c1], .imm [.i c2]]) rfl rfl ?_⟩
 refine fch_mk (rs := []) (n := 31) [] Try.func114 rfl rfl (Nat.le_of_ble_eq_true rfl) rfl (pins := []) rfl (L := [(HK, .hp (hzP hpA zf w0)), (0, .t (.d (.lit (yv l)))), (1, .imm [.y c1]), (2, .imm [.i c2])]) rfl ?_
 refine c_sr ?_
 refine o_1 (.i 0) rfl ?_
 refine o_nil (c_block ?_)
 refine c_fuelH (fun (q : Int × (X × Hp)) => [(0, .t (.d (.lit (yv l)))), (1, .imm [.y c1]), (2, .imm [.i c2]), (4, .i q.1), (HK, .hp (hzP hpA zf q.2))]) (fun nl1 => (fun (q : Int × (X × Hp)) => m_slices_Chunk_byte_c1_l1 c1 c2 yld nl1 q.1 q.2 = some r)) (c1.length + 1) (0, w0) [] h rfl ⟨.inr ⟨_, rfl, pure_hzP pure_hpA hz' _⟩, by (repeat (first | exact ObP.nil | refine ObP.cons (.inl rfl) ?_ | refine ObP.cons (.inr (fun _ => rfl)) ?_ | refine ObP.cons (.inr (ob_box (fl_noPt _ _))) ?_ | refine ObP.cons (.inr (ob_gb _ _)) ?_))⟩ ⟨.r, .r, .r, .r, .r, trivial⟩ rfl ?_
 rintro nl1 ⟨z1, z2⟩ h
 cases nl1 with
 | zero => exact none_ne h
 | succ nl1 =>
  refine c_seq (c_sr ?_)
  refine o_m2 (.i z1) (.y c1) rfl ?_
  refine o_c (g0 rfl) rfl rfl rfl (lenE _ _) trivial ?_
  refine o_1 (.b (decide (z1 < (c1.length : Int)))) rfl ?_
  refine o_nil ?_
  rcases bif_some h with ⟨h3, h⟩ | ⟨h3, h⟩
  ·
   refine c_t h3 rfl ?_
   refine c_skip (c_seq (c_block (c_seq ?_)))
   refine c_draw mixed (by kernel_rfl) ?_
   refine d_s (.i c2) rfl (dg0 rfl) rfl rfl rfl rfl ?_
   refine d_s (.y c1) rfl (dg0 rfl) rfl rfl rfl rfl ?_
   refine d_s (.i z1) rfl (dg0 rfl) rfl rfl rfl rfl ?_
   obtain ⟨x4, h5, h⟩ := bind_some h
   refine d_c rfl (dg0 rfl) rfl rfl rfl rfl (cutEl (c := cU8) h5) (cutCl (c := cU8) h5) ?_
   refine d_c rfl (dg0 rfl) rfl rfl rfl rfl (lenE _ _) trivial ?_
   refine d_h0 [] (e := [(18, .i (if (x4.length : Int) < c2 then (x4.length : Int) else c2))]) (ks := [18]) rfl (dg0 rfl) rfl rfl (fun S' hM hok => h_min hM rfl rfl rfl rfl (hok _ rfl rfl)) rfl ?_
   refine d_s (.i (if (x4.length : Int) < c2 then (x4.length : Int) else c2)) rfl (dg0 rfl) rfl rfl rfl rfl ?_
   refine d_nil (by kernel_rfl) ?_
   refine c_sr ?_
   refine o_m8 (.t (.d (.lit (yv l)))) (.y c1) (.i z1) (.i z1) (.i (if (x4.length : Int) < c2 then (x4.length : Int) else c2)) (.i (wi (z1 + (if (x4.length : Int) < c2 then (x4.length : Int) else c2)))) (.i z1) (.i (if (x4.length : Int) < c2 then (x4.length : Int) else c2)) rfl ?_
   refine o_1 (.i (wi (z1 + (if (x4.length : Int) < c2 then (x4.length : Int) else c2)))) rfl ?_
   obtain ⟨x6, h7, h⟩ := bind_some h
   refine o_c (g0 rfl) rfl rfl rfl (cutE (c := cU8) h7) (cutC3 (c := cU8) h7) ?_
   obtain ⟨x8, h9, h⟩ := bind_some h
   refine o_yld (f := hzP hpA zf z2) (f' := hzP hpA zf x8.2) (b := x8.1) (l := l) (g0 rfl) rfl rfl rfl rfl rfl (hy _ _ x8.1 x8.2 h9) (pure_hzP pure_hpA hz' _) (pure_hzP pure_hpA hz' _) (.cons (.plain .r rfl) .nil) rfl ?_
   refine o_1 (.b (!x8.1)) rfl ?_
   refine o_nil ?_
   rcases bif_some h with ⟨h10, h⟩ | ⟨h10, h⟩
   ·
    refine c_t h10 rfl ?_
    refine c_ret ?_
    obtain rfl := Option.some.inj h
    exact ⟨⟨_, rfl, .r⟩, trivial, rfl⟩
   refine c_f h10 rfl ?_
   refine c_skip (c_region ?_)
   refine o_m4 (.i z1) (.i c2) (.i (wi (z1 + c2))) (.i (wi (z1 + c2))) rfl ?_
   refine o_nil ?_
   exact ⟨nl1, ((wi (z1 + c2)), x8.2), [], Nat.lt_succ_self nl1, h, rfl, ⟨.inr ⟨_, rfl, pure_hzP pure_hpA hz' _⟩, by (repeat (first | exact ObP.nil | refine ObP.cons (.inl rfl) ?_ | refine ObP.cons (.inr (fun _ => rfl)) ?_ | refine ObP.cons (.inr (ob_box (fl_noPt _ _))) ?_ | refine ObP.cons (.inr (ob_gb _ _)) ?_))⟩, ⟨.r, .r, .r, .r, .r, trivial⟩, rfl⟩
  refine c_f h3 rfl ?_
  refine c_exit ?_
  obtain rfl := Option.some.inj h
  exact ⟨⟨_, rfl, .r⟩, trivial, rfl⟩
theorem fch_slices_Chunk_byte (p0 : (List UInt8)) (p1 : Int) (w0 : Hp) (r : ((List UInt8) × Int)) (h : m_slices_Chunk_byte p0 p1 = some r) : FCH Try.prog 80 [.t (.d (.seq 1 (bytesD p0))), .t (.d (.lit (.int .i64 p1)))] [] [] (hpA w0) (hpA w0) (.cl 114 [[.d (.seq 1 (bytesD r.1))], [.d (.lit (.int .i64 r.2))]]) := by
 refine fch_mk (rs := [.tmp 4]) (n := 9) [] Try.func80 rfl rfl (Nat.le_of_ble_eq_true rfl) rfl (pins := []) rfl (L := [(HK, .hp (hpA w0)), (0, .y p0), (1, .i p1)]) rfl ?_
 refine c_sr ?_
 refine o_m3 (.box [.y p0]) (.box [.i p1]) (.t (.d (.lit .nilFunc))) rfl ?_
 refine o_nil (c_seq (c_sr ?_))
 refine o_m2 (.i p1) (.b (decide (p1 < 1))) rfl ?_
 refine o_nil ?_
 rcases bif_some h with ⟨h1, h⟩ | ⟨h1, h⟩
 ·
  refine c_t h1 rfl ?_
  refine c_region ?_
  exact none_ne h
 refine c_f h1 rfl ?_
 refine c_skip (c_seq ?_)
 refine c_fzT 2 rfl rfl rfl ?_
 refine c_fzT 3 rfl rfl rfl ?_
 refine c_region ?_
 refine o_of (e := [(8, .cl 114 [[.y p0], [.i p1]])]) (g0 rfl) (h_mfT mR rfl rfl rfl rfl rfl) rfl ?_
 refine o_1 (.cl 114 [[.y p0], [.i p1]]) rfl ?_
 refine o_nil (c_ret ?_)
 obtain rfl := Option.some.inj h
 exact ⟨⟨_, rfl, .r⟩, trivial, rfl⟩
theorem fch_blob_Put (p0 : (Option Nat)) (p1 : (List Int)) (p2 : (List UInt8)) (w0 : Hp) (r : (Int × Int × Hp)) (h : m_blob_Put p0 p1 p2 w0 = some r) : FCH Try.prog 26 [.t ((ptT 5 p0)), .t (.d (.seq 1 (List.map cI64 p1))), .t (.d (.seq 1 (bytesD p2)))] [] [] (hpA w0) (hpA r.2.2) (.tup [.d (.lit (.int .i64 r.1)), .d (.lit (.int .i64 r.2.1))]) := by
 refine fch_mkR (rs := [.cell 6 3, .cell 7 27]) (n := 75) [0] Try.func26 rfl rfl (Nat.le_of_ble_eq_true rfl) rfl (pins := [DK]) rfl (L := [(HK, .hp (hpA w0)), (OB + 0, .free), (0, .t ((ptT 5 p0))), (1, .t (.d (.seq 1 (List.map cI64 p1)))), (2, .y p2)]) rfl ?_
 rcases ptM_some h with ⟨h1, hk⟩ | ⟨i2, h1, hk⟩
 ·
  exact none_ne hk
 clear h
 subst h1
 have h := hk
 clear hk
 refine c_sr ?_
 refine o_of (e := [(3, .box [.hpt (cd 5 i2) 0])]) (g0 rfl) (h_boxp mR rfl rfl rfl rfl) rfl ?_
 refine o_m3 (.box [.d (.seq 1 (List.map cI64 p1))]) (.box [.i 0]) (.box [.i 0]) rfl ?_
 refine o_nil (c_seq (c_block (c_sr ?_)))
 refine o_1 (.y p2) rfl ?_
 refine o_c (g0 rfl) rfl rfl rfl (lenE _ _) trivial ?_
 obtain ⟨x3, h4, h⟩ := bind_some h
 refine o_ca (fc_blob_may _ _ h4) (g0 rfl) rfl rfl rfl rfl rfl rfl rfl (.cons .r .nil) rfl rfl ?_
 refine o_m2 (.b (!x3)) (.b (!x3)) rfl ?_
 refine o_nil ?_
 rcases bif_some h with ⟨h5, h⟩ | ⟨h5, h⟩
 ·
  refine c_t h5 rfl ?_
  refine c_sr ?_
  refine o_st (.box [.i 0]) (g0 rfl) rfl rfl rfl ?_
  refine o_st (.box [.i 3]) (g0 rfl) rfl rfl rfl ?_
  refine o_nil (c_ret ?_)
  obtain rfl := Option.some.inj h
  exact ⟨⟨_, rfl, (.tup (.cons .r (.cons .r .nil)))⟩, trivial, rfl⟩
 refine c_f h5 rfl ?_
 refine c_seq ?_
 refine c_draw mixed (by kernel_rfl) ?_
 refine d_s (.t (.d (.seq 1 (List.map cI64 p1)))) rfl (dg0 rfl) rfl rfl rfl rfl ?_
 refine d_c rfl (dg0 rfl) rfl rfl rfl rfl (lenE _ _) trivial ?_
 refine d_s (.y p2) rfl (dg0 rfl) rfl rfl rfl rfl ?_
 refine d_c rfl (dg0 rfl) rfl rfl rfl rfl (lenE _ _) trivial ?_
 obtain ⟨x6, h7, h⟩ := bind_some h
 refine d_ca (fc_blob_Count _ _ h7) rfl (dg0 rfl) rfl rfl rfl rfl rfl rfl rfl rfl (.cons .r .nil) rfl rfl ?_
 refine d_s (.b ((p1.length : Int) != x6)) rfl (dg0 rfl) rfl rfl rfl rfl ?_
 refine d_s (.b ((p1.length : Int) != x6)) rfl (dg0 rfl) rfl rfl rfl rfl ?_
 rcases bif_some h with ⟨h8, h⟩ | ⟨h8, h⟩
 ·
  refine d_skip rfl rfl rfl rfl rfl h8 rfl rfl rfl ?_
  refine d_skip rfl rfl rfl rfl rfl h8 rfl rfl rfl ?_
  refine d_skip rfl rfl rfl rfl rfl h8 rfl rfl rfl ?_
  refine d_pk (.b true) (b := true) h8 rfl (dg0 rfl) rfl rfl rfl rfl rfl rfl ?_
  refine d_s (.b true) rfl (dg0 rfl) rfl rfl rfl rfl ?_
  refine d_nil (by kernel_rfl) ?_
  refine c_t rfl rfl ?_
  refine c_sr ?_
  refine o_st (.box [.i 0]) (g0 rfl) rfl rfl rfl ?_
  refine o_st (.box [.i 2]) (g0 rfl) rfl rfl rfl ?_
  refine o_nil (c_ret ?_)
  obtain rfl := Option.some.inj h
  exact ⟨⟨_, rfl, (.tup (.cons .r (.cons .r .nil)))⟩, trivial, rfl⟩
 refine d_s (.t (.d (.seq 1 (List.map cI64 p1)))) rfl (dgy rfl rfl rfl rfl h8) rfl rfl rfl rfl ?_
 obtain ⟨x9, h10, h⟩ := bind_some h
 refine d_ca (fc_blob_right _ _ h10) rfl (dgy rfl rfl rfl rfl h8) rfl rfl rfl rfl rfl rfl rfl rfl (.cons .r .nil) rfl rfl ?_
 refine d_s (.b (!x9)) rfl (dgy rfl rfl rfl rfl h8) rfl rfl rfl rfl ?_
 refine d_pk (.b (!x9)) (b := false) h8 rfl (dg0 rfl) rfl rfl rfl rfl rfl rfl ?_
 refine d_s (.b (!x9)) rfl (dg0 rfl) rfl rfl rfl rfl ?_
 refine d_nil (by kernel_rfl) ?_
 rcases bif_some h with ⟨h11, h⟩ | ⟨h11, h⟩
 ·
  refine c_t h11 rfl ?_
  refine c_sr ?_
  refine o_st (.box [.i 0]) (g0 rfl) rfl rfl rfl ?_
  refine o_st (.box [.i 2]) (g0 rfl) rfl rfl rfl ?_
  refine o_nil (c_ret ?_)
  obtain rfl := Option.some.inj h
  exact ⟨⟨_, rfl, (.tup (.cons .r (.cons .r .nil)))⟩, trivial, rfl⟩
 refine c_f h11 rfl ?_
 refine c_sr ?_
 refine o_1 (.y p2) rfl ?_
 refine o_c (g0 rfl) rfl rfl rfl (lenE _ _) trivial ?_
 refine o_m2 (.b ((p2.length : Int) == 0)) (.b ((p2.length : Int) == 0)) rfl ?_
 refine o_nil ?_
 rcases bif_some h with ⟨h12, h⟩ | ⟨h12, h⟩
 ·
  refine c_t h12 rfl ?_
  refine c_sr ?_
  refine o_st (.box [.i 0]) (g0 rfl) rfl rfl rfl ?_
  refine o_st (.box [.i 0]) (g0 rfl) rfl rfl rfl ?_
  refine o_nil (c_ret ?_)
  obtain rfl := Option.some.inj h
  exact ⟨⟨_, rfl, (.tup (.cons .r (.cons .r .nil)))⟩, trivial, rfl⟩
 refine c_f h12 rfl ?_
 refine c_skip (c_sr ?_)
 refine o_1 (.box [.i 0]) rfl ?_
 refine o_st (.box [.i 0]) (g0 rfl) rfl rfl rfl ?_
 refine o_nil ?_
 refine c_seqR ?_
 refine c_region ?_
 refine o_1 (.y p2) rfl ?_
 obtain ⟨x13, h14, h⟩ := bind_some h
 refine o_of (e := [(36, .cl 114 [[.y x13.1], [.i x13.2]])]) (g0 rfl) (h_callR mR rfl (σ := []) (fr := []) rfl rfl rfl rfl rfl rfl rfl (fch_slices_Chunk_byte _ _ w0 _ h14) (pure_hpA _) rfl rfl rfl rfl (.cons (.plain .r rfl) (.cons (.plain .r rfl) .nil)) rfl (.cl (all_cons (all_cons (.flat rfl) all_nil) (all_cons (all_cons (.flat rfl) all_nil) all_nil)))) rfl ?_
 refine o_nil ?_
 obtain ⟨x42, h43, h⟩ := bind_some h
 refine c_itr (bs := [3, 4, 6, 7, 8]) (ps := [37]) [(OB + 0, .free)] (fun b : (Int × Int) => [[.hpt (cd 5 i2) 0], [.d (.seq 1 (List.map cI64 p1))], [.i 0], [.i b.1], [.i b.2]]) (it_slices_Chunk_byte_c1 x13.1 x13.2) h43 nc_hpA rfl (by decide) (by decide) (fun _ => rfl) (fun b => (all_cons (p := nzC) (nzC_hpc (by decide) nzC_nil) (all_cons (p := nzC) (nzC_d nzC_nil) (all_cons (p := nzC) (nzC_d nzC_nil) (all_cons (p := nzC) (nzC_d nzC_nil) (all_cons (p := nzC) (nzC_d nzC_nil) all_nil)))))) (fun _ => ⟨rfl, rfl⟩) (all_cons (p := capC) (capC_d capC_nil) (all_cons (p := capC) (capC_d capC_nil) all_nil)) ⟨.inr ⟨rfl, rfl⟩, trivial⟩ Try.func114 rfl rfl ⟨.r, .r, .r, .r, .r, .r, .r, .r, trivial⟩ rfl ?_ ?_ ?_
 ·
  rintro a17 ⟨z15, z16⟩ w18 r h
  replace h : m_blob_Put_r1 p1 i2 a17 z15 z16 w18 = some r := h
  show CodeOK _ _ _ _ _ [(37, .y a17), (HK, .hp (hpA w18)), (3, .box [.hpt (cd 5 i2) 0]), (4, .box [.d (.seq 1 (List.map cI64 p1))]), (6, .box [.i 0]), (7, .box [.i z15]), (8, .box [.i z16]), (OB + 0, .free)]
  refine c_region ?_
  refine o_1 (.y a17) rfl ?_
  refine o_nil ?_
  refine ⟨rfl, ?_⟩
  refine c_block (c_sr ?_)
  obtain ⟨x19, h20, h⟩ := bind_some h
  refine o_of (e := [((OB + 0), .box (fl (dT cU8) (List.replicate x19 (0 : UInt8)))), (38, .t (.view 0 0 5 1 x19))]) (g0 rfl) (h_mkl mR rfl rfl rfl rfl rfl rfl rfl (by kernel_rfl) rfl h20 (fl_rep (c := cU8) (z := (0 : UInt8)) (by kernel_rfl) x19) rfl rfl rfl rfl) rfl ?_
  refine o_1 (.t (.view 0 0 5 1 x19)) rfl ?_
  refine o_nil ?_
  refine c_cutH (fun (y21 : (List UInt8)) => [(3, .box [.hpt (cd 5 i2) 0]), (4, .box [.d (.seq 1 (List.map cI64 p1))]), (6, .box [.i 0]), (7, .box [.i z15]), (8, .box [.i z16]), (9, .y a17), (10, .t (.view 0 0 5 1 y21.length)), ((OB + 0), .box (fl (dT cU8) y21)), (HK, .hp (hpA w18))]) (fun (y21 : (List UInt8)) => m_blob_Put_j2 a17 p1 z16 i2 w18 z15 y21 = some r) ?_ ?_
  ·
   refine c_sr ?_
   refine o_m3 (.i z16) (.i (wi (z16 + 1))) (.t (.d (.seq 1 (List.map cI64 p1)))) rfl ?_
   refine o_c (g0 rfl) rfl rfl rfl (lenE _ _) trivial ?_
   refine o_1 (.b (decide ((wi (z16 + 1)) < (p1.length : Int)))) rfl ?_
   refine o_nil ?_
   rcases bif_some h with ⟨h33, h⟩ | ⟨h33, h⟩
   ·
    refine c_t h33 rfl ?_
    refine c_sr ?_
    refine o_m3 (.t (.d (.seq 1 (List.map cI64 p1)))) (.i z16) (.i (wi (z16 + 1))) rfl ?_
    obtain ⟨x34, h35, h⟩ := bind_some h
    refine o_c (g0 rfl) rfl rfl rfl (idxE h35) (idxC h35) ?_
    refine o_1 (.i x34) rfl ?_
    obtain ⟨x36, h37, h⟩ := bind_some h
    refine o_ca (fc_word_Put _ _ _ h37) (g0 rfl) rfl rfl rfl rfl rfl rfl rfl (.cons .r (.cons .r .nil)) rfl rfl ?_
    refine o_m5 (.tup [.y x36.1, .i x36.2]) (.y x36.1) (.i x36.2) (.y x36.1) (.i x36.2) rfl ?_
    refine o_nil (c_region ?_)
    refine o_m2 (.t (.view 0 0 5 1 x19)) (.y x36.1) rfl ?_
    obtain ⟨x38, h39, h⟩ := bind_some h
    refine o_of (e := [((OB + 0), .box (fl (dT cU8) x38)), (55, .i ((min x36.1.length x19 : Nat) : Int))]) (g0 rfl) (h_cpy (cc := cU8) (yl := x36.1) mR rfl rfl rfl rfl rfl rfl (fun _ => rfl) rfl h39 rfl rfl rfl) rfl ?_
    obtain ⟨x40, h41, h⟩ := bind_some h
    have h41 : x38.length = (List.replicate x19 (0 : UInt8)).length := lenI_eq h41; simp only [List.length_set, List.length_replicate] at h41
    refine o_nil ?_
    exact ⟨x38, [], h, rfl, ⟨.inr ⟨_, rfl, pure_hpA _⟩, by (repeat (first | exact ObP.nil | refine ObP.cons (.inl rfl) ?_ | refine ObP.cons (.inr (fun _ => rfl)) ?_ | refine ObP.cons (.inr (ob_box (fl_noPt _ _))) ?_ | refine ObP.cons (.inr (ob_gb _ _)) ?_))⟩, ⟨.r, .r, .r, .r, .r, .r, (.vwn (by first | rfl | omega | (simp; done) | (dsimp only; omega) | (simp; omega))), .r, .r, trivial⟩, rfl⟩
   refine c_f h33 rfl ?_
   refine c_skip ?_
   exact ⟨(List.replicate x19 (0 : UInt8)), [], h, rfl, ⟨.inr ⟨_, rfl, pure_hpA _⟩, by (repeat (first | exact ObP.nil | refine ObP.cons (.inl rfl) ?_ | refine ObP.cons (.inr (fun _ => rfl)) ?_ | refine ObP.cons (.inr (ob_box (fl_noPt _ _))) ?_ | refine ObP.cons (.inr (ob_gb _ _)) ?_))⟩, ⟨.r, .r, .r, .r, .r, .r, (.vwn (by first | rfl | omega | (simp; done) | (dsimp only; omega) | (simp; omega))), .r, .r, trivial⟩, rfl⟩
  rintro y21 h
  refine c_sr ?_
  refine o_1 (.t (.view 0 0 5 1 y21.length)) rfl ?_
  obtain ⟨x22, h23, h⟩ := bind_some h
  refine o_of (e := [(57, .t (.view 0 (0 + Int.toNat 4 * 1) 5 1 (Int.toNat (y21.length : Int) - Int.toNat 4)))]) (g0 rfl) (h_lsl mR rfl rfl rfl rfl rfl rfl rfl (vcut_iff h23) rfl rfl rfl rfl) rfl ?_
  refine o_1 (.y a17) rfl ?_
  obtain ⟨x24, h25, h⟩ := bind_some h
  refine o_of (e := [((OB + 0), .box (fl (dT cU8) x24)), (59, .i ((min a17.length (Int.toNat (y21.length : Int) - Int.toNat 4) : Nat) : Int))]) (g0 rfl) (h_cpy (cc := cU8) (yl := a17) mR rfl rfl rfl rfl rfl rfl (fun _ => rfl) rfl h25 rfl rfl rfl) rfl ?_
  obtain ⟨x26, h27, h⟩ := bind_some h
  have h27 : x24.length = y21.length := lenI_eq h27
  refine o_nil (c_seq (c_seq ?_))
  refine c_frz 10 0 rfl rfl (by first | (simp; done) | (rw [List.length_map]; omega)) (fl_flat _ _) (map_row (c := cU8) (fun _ => rfl) _) rfl ⟨.inr ⟨_, rfl, pure_hpA _⟩, by (repeat (first | exact ObP.nil | refine ObP.cons (.inl rfl) ?_ | refine ObP.cons (.inr (fun _ => rfl)) ?_ | refine ObP.cons (.inr (ob_box (fl_noPt _ _))) ?_ | refine ObP.cons (.inr (ob_gb _ _)) ?_))⟩ rfl ?_
  refine c_draw mixed (by kernel_rfl) ?_
  refine d_s (.t (.hpt (cd 5 i2) 0)) rfl (dg0 rfl) rfl rfl rfl rfl ?_
  refine d_s (.t (.d (.seq 1 (List.map cI64 p1)))) rfl (dg0 rfl) rfl rfl rfl rfl ?_
  refine d_s (.i z16) rfl (dg0 rfl) rfl rfl rfl rfl ?_
  obtain ⟨x28, h29, h⟩ := bind_some h
  refine d_c rfl (dg0 rfl) rfl rfl rfl rfl (idxE h29) (idxC h29) ?_
  refine d_s (.i x28) rfl (dg0 rfl) rfl rfl rfl rfl ?_
  refine d_s (.y x24) rfl (dg0 rfl) rfl rfl rfl rfl ?_
  obtain ⟨x30, h31, h⟩ := bind_some h
  refine d_h (e := [(HK, .hp (hpA x30.2)), (66, .i x30.1)]) (ks := [HK, 66]) rfl (dg0 rfl) rfl rfl (fun S' hM hk hok => h_call hM hk (σ := []) (fr := []) rfl rfl rfl (hok _ rfl rfl) rfl rfl rfl (fch_wal_Txn_Write _ _ _ w18 _ h31) (pure_hpA _) (pure_hpA _) rfl rfl rfl rfl (.cons (.hpt _ _) (.cons (.plain .r rfl) (.cons (.plain .r rfl) .nil))) rfl (.t (.flat rfl))) rfl ?_
  refine d_s (.i x30.1) rfl (dg0 rfl) rfl rfl rfl rfl ?_
  refine d_nil (by kernel_rfl) ?_
  refine c_sr ?_
  refine o_m2 (.i x30.1) (.b (x30.1 != 0)) rfl ?_
  refine o_nil ?_
  rcases bif_some h with ⟨h32, h⟩ | ⟨h32, h⟩
  ·
   refine c_t h32 rfl ?_
   refine c_sr ?_
   refine o_1 (.i x30.1) rfl ?_
   refine o_st (.box [.i 0]) (g0 rfl) rfl rfl rfl ?_
   refine o_st (.box [.i x30.1]) (g0 rfl) rfl rfl rfl ?_
   refine o_nil (c_ret ?_)
   obtain rfl := Option.some.inj h
   exact ⟨.inr ⟨rfl, rfl⟩, rfl, ⟨rfl, rfl, rfl, rfl, rfl, trivial⟩⟩
  refine c_f h32 rfl ?_
  refine c_skip (c_region ?_)
  refine o_m2 (.i z16) (.i (wi (z16 + 1))) rfl ?_
  refine o_st (.box [.i (wi (z16 + 1))]) (g0 rfl) rfl rfl rfl ?_
  refine o_nil ?_
  obtain rfl := Option.some.inj h
  exact ⟨.inl ⟨rfl, rfl⟩, rfl, ⟨rfl, rfl, rfl, rfl, rfl, trivial⟩⟩
 ·
  intro h46
  replace h := bif_f h46 h
  show endH _ _ _ _ _ _ [(HK, .hp (hpA x42.2)), (3, .box [.hpt (cd 5 i2) 0]), (4, .box [.d (.seq 1 (List.map cI64 p1))]), (6, .box [.i 0]), (7, .box [.i x42.1.2.1]), (8, .box [.i x42.1.2.2]), (OB + 0, .free)]
  obtain rfl := Option.some.inj h
  exact ⟨⟨_, rfl, (.tup (.cons .r (.cons .r .nil)))⟩, trivial, rfl⟩
 intro h46
 replace h := bif_t h46 h
 show CodeOK _ _ _ _ _ [(HK, .hp (hpA x42.2)), (3, .box [.hpt (cd 5 i2) 0]), (4, .box [.d (.seq 1 (List.map cI64 p1))]), (6, .box [.i 0]), (7, .box [.i x42.1.2.1]), (8, .box [.i x42.1.2.2]), (OB + 0, .free)]
 refine c_sr ?_
 refine o_1 (.t (.d (.seq 1 (List.map cI64 p1)))) rfl ?_
 obtain ⟨x44, h45, h⟩ := bind_some h
 refine o_c (g0 rfl) rfl rfl rfl (idxE h45) (idxC h45) ?_
 refine o_1 (.i x44) rfl ?_
 refine o_st (.box [.i x44]) (g0 rfl) rfl rfl rfl ?_
 refine o_st (.box [.i 0]) (g0 rfl) rfl rfl rfl ?_
 refine o_nil (c_ret ?_)
 refine ⟨rfl, ?_⟩
 obtain rfl := Option.some.inj h
 exact ⟨⟨_, rfl, (.tup (.cons .r (.cons .r .nil)))⟩, trivial, rfl⟩
theorem it_blob_chain_c1 (c1 : Int) (c2 : Int) (c3 : Nat) : ITR Try.prog 119 [[.d (.lit (.int .i64 c1))], [.d (.lit (.int .i64 c2))], [.hpt (cd 5 c3) 0]] hpA (fun a : (S_blob_link × Int) => [.t (.agg [.lit (.int .i64 a.1.home_), .seq 1 (bytesD a.1.data_)]), .t (.d (.lit (.int .i64 a.2)))]) (fun X yld q => m_blob_chain_c1 yld c1 c2 c3 q) := by
 intro X l zf hz' yld hy w0 r h
 replace h : m_blob_chain_c1 yld c1 c2 c3 w0 = some r := h
 refine ⟨.tup [], FCH.im (args := [.t (.d (.lit (yv l))), .imm [.i c1], .imm [.i c2], .imt [.hpt (cd 5 c3) 0]]) rfl rfl ?_⟩
 refine fch_mk (rs := []) (n := 54) [] Try.func119 rfl rfl (Nat.le_of_ble_eq_true rfl) rfl (pins := []) rfl (L := [(HK, .hp (hzP hpA zf w0)), (0, .t (.d (.lit (yv l)))), (1, .imm [.i c1]), (2, .imm [.i c2]), (3, .imt [.hpt (cd 5 c3) 0])]) rfl ?_
 refine c_sr ?_
 refine o_m2 (.i c1) (.i c1) rfl ?_
 refine o_nil ?_
 refine c_cutH (fun (q : Int × (X × Hp)) => [(0, .t (.d (.lit (yv l)))), (5, .i q.1), (HK, .hp (hzP hpA zf q.2))]) (fun (q : Int × (X × Hp)) => m_blob_chain_c1_j1 yld q.1 q.2 = some r) ?_ ?_
 ·
  refine c_sr ?_
  refine o_1 (.i c2) rfl ?_
  obtain ⟨x6, h7, h⟩ := bind_some h
  refine o_ca (fc_blob_Count _ _ h7) (g0 rfl) rfl rfl rfl rfl rfl rfl rfl (.cons .r .nil) rfl rfl ?_
  refine o_1 (.i 0) rfl ?_
  refine o_nil (c_block ?_)
  refine c_fuelH (fun (q : Int × Int × (X × Hp)) => [(0, .t (.d (.lit (yv l)))), (3, .imt [.hpt (cd 5 c3) 0]), (5, .i q.1), (10, .i x6), (11, .i q.2.1), (HK, .hp (hzP hpA zf q.2.2))]) (fun nl2 => (fun (q : Int × Int × (X × Hp)) => m_blob_chain_c1_l2 x6 c3 yld nl2 q.1 q.2.1 q.2.2 = some r)) (Int.toNat x6 + 1) (c1, 0, w0) [] h rfl ⟨.inr ⟨_, rfl, pure_hzP pure_hpA hz' _⟩, by (repeat (first | exact ObP.nil | refine ObP.cons (.inl rfl) ?_ | refine ObP.cons (.inr (fun _ => rfl)) ?_ | refine ObP.cons (.inr (ob_box (fl_noPt _ _))) ?_ | refine ObP.cons (.inr (ob_gb _ _)) ?_))⟩ ⟨.r, .r, .r, .r, .r, .r, trivial⟩ rfl ?_
  rintro nl2 ⟨z8, z9, z10⟩ h
  cases nl2 with
  | zero => exact none_ne h
  | succ nl2 =>
   refine c_sr ?_
   refine o_1 (.b (decide (z9 < x6))) rfl ?_
   refine o_nil (c_seq ?_)
   rcases bif_some h with ⟨h11, h⟩ | ⟨h11, h⟩
   ·
    refine c_t h11 rfl ?_
    refine c_skip (c_seq (c_block (c_sr ?_)))
    refine o_of (e := [(14, .t (.hpt (cd 5 c3) 0))]) (g0 rfl) (h_ldT mR rfl rfl rfl rfl rfl rfl rfl) rfl ?_
    refine o_1 (.i z8) rfl ?_
    obtain ⟨x12, h13, h⟩ := bind_some h
    refine o_of (e := [(16, .tup [.y x12.1, .i x12.2])]) (g0 rfl) (h_callR mR rfl (σ := []) (fr := []) rfl rfl rfl rfl rfl rfl rfl (FCH.more (fch_wal_Txn_Read _ _ z10.2 _ h13) (nc_hpA _).toNZ (nc_hpA _).toNZ (by simp [nzA, nzT, ptT, cd_mod]) (Nat.le_of_ble_eq_true rfl) (zf z10.1)) (pure_hzP pure_hpA hz' _) rfl rfl rfl rfl (.cons (.hpt _ _) (.cons (.plain .r rfl) .nil)) rfl (.tup (.cons (.flat rfl) (.cons (.flat rfl) .nil)))) rfl ?_
    refine o_m5 (.tup [.y x12.1, .i x12.2]) (.y x12.1) (.i x12.2) (.y x12.1) (.i x12.2) rfl ?_
    refine o_nil ?_
    refine c_cutH (fun (y14 : Int) => [(0, .t (.d (.lit (yv l)))), (3, .imt [.hpt (cd 5 c3) 0]), (5, .i z8), (6, .y x12.1), (7, .i y14), (10, .i x6), (11, .i z9), (HK, .hp (hzP hpA zf z10))]) (fun (y14 : Int) => m_blob_chain_c1_j3 (m_blob_chain_c1_l2 x6 c3 yld nl2) yld z10 x12 z8 z9 y14 = some r) ?_ ?_
    ·
     refine c_sr ?_
     refine o_m3 (.i x12.2) (.b (x12.2 == 31)) (.b (x12.2 == 31)) rfl ?_
     rcases bif_some h with ⟨h27, h⟩ | ⟨h27, h⟩
     ·
      refine o_skip rfl rfl rfl h27 rfl rfl ?_
      refine o_skip rfl rfl rfl h27 rfl rfl ?_
      refine o_skip rfl rfl rfl h27 rfl rfl ?_
      refine o_un rfl rfl rfl rfl rfl ?_
      refine o_un rfl rfl rfl rfl rfl ?_
      refine o_skip rfl rfl rfl h27 rfl rfl ?_
      refine o_pk (.b true) (b := true) h27 (g0 rfl) rfl rfl rfl rfl rfl ?_
      refine o_nil ?_
      refine c_t rfl rfl ?_
      refine c_region ?_
      refine o_1 (.i 11) rfl ?_
      refine o_nil ?_
      exact ⟨11, [], h, rfl, ⟨.inr ⟨_, rfl, pure_hzP pure_hpA hz' _⟩, by (repeat (first | exact ObP.nil | refine ObP.cons (.inl rfl) ?_ | refine ObP.cons (.inr (fun _ => rfl)) ?_ | refine ObP.cons (.inr (ob_box (fl_noPt _ _))) ?_ | refine ObP.cons (.inr (ob_gb _ _)) ?_))⟩, ⟨.r, .r, .r, .r, .r, .r, .r, .r, trivial⟩, rfl⟩
     refine o_s (.i x12.2) (gy rfl rfl rfl h27) rfl rfl rfl ?_
     refine o_s (.b (x12.2 == 0)) (gy rfl rfl rfl h27) rfl rfl rfl ?_
     refine o_s (.b (x12.2 == 0)) (gy rfl rfl rfl h27) rfl rfl rfl ?_
     rcases bif_some h with ⟨h28, h⟩ | ⟨h28, h⟩
     ·
      refine o_s (.i z8) (gy rfl rfl rfl h28) rfl rfl rfl ?_
      refine o_s (.b (z8 == 0)) (gy rfl rfl rfl h28) rfl rfl rfl ?_
      refine o_pk (.b (z8 == 0)) (b := true) h28 (gy rfl rfl rfl h27) rfl rfl rfl rfl rfl ?_
      refine o_pk (.b (z8 == 0)) (b := false) h27 (g0 rfl) rfl rfl rfl rfl rfl ?_
      refine o_nil ?_
      rcases bif_some h with ⟨h29, h⟩ | ⟨h29, h⟩
      ·
       refine c_t h29 rfl ?_
       refine c_region ?_
       refine o_1 (.i 11) rfl ?_
       refine o_nil ?_
       exact ⟨11, [], h, rfl, ⟨.inr ⟨_, rfl, pure_hzP pure_hpA hz' _⟩, by (repeat (first | exact ObP.nil | refine ObP.cons (.inl rfl) ?_ | refine ObP.cons (.inr (fun _ => rfl)) ?_ | refine ObP.cons (.inr (ob_box (fl_noPt _ _))) ?_ | refine ObP.cons (.inr (ob_gb _ _)) ?_))⟩, ⟨.r, .r, .r, .r, .r, .r, .r, .r, trivial⟩, rfl⟩
      refine c_f h29 rfl ?_
      refine c_skip ?_
      exact ⟨x12.2, [], h, rfl, ⟨.inr ⟨_, rfl, pure_hzP pure_hpA hz' _⟩, by (repeat (first | exact ObP.nil | refine ObP.cons (.inl rfl) ?_ | refine ObP.cons (.inr (fun _ => rfl)) ?_ | refine ObP.cons (.inr (ob_box (fl_noPt _ _))) ?_ | refine ObP.cons (.inr (ob_gb _ _)) ?_))⟩, ⟨.r, .r, .r, .r, .r, .r, .r, .r, trivial⟩, rfl⟩
     refine o_skip rfl rfl rfl h28 rfl rfl ?_
     refine o_skip rfl rfl rfl h28 rfl rfl ?_
     refine o_pk (.b false) (b := false) h28 (gy rfl rfl rfl h27) rfl rfl rfl rfl rfl ?_
     refine o_pk (.b false) (b := false) h27 (g0 rfl) rfl rfl rfl rfl rfl ?_
     refine o_nil ?_
     refine c_f rfl rfl ?_
     refine c_skip ?_
     exact ⟨x12.2, [], h, rfl, ⟨.inr ⟨_, rfl, pure_hzP pure_hpA hz' _⟩, by (repeat (first | exact ObP.nil | refine ObP.cons (.inl rfl) ?_ | refine ObP.cons (.inr (fun _ => rfl)) ?_ | refine ObP.cons (.inr (ob_box (fl_noPt _ _))) ?_ | refine ObP.cons (.inr (ob_gb _ _)) ?_))⟩, ⟨.r, .r, .r, .r, .r, .r, .r, .r, trivial⟩, rfl⟩
    rintro y14 h
    refine c_seq (c_sr ?_)
    refine o_m2 (.i y14) (.b (y14 != 0)) rfl ?_
    refine o_nil ?_
    rcases bif_some h with ⟨h15, h⟩ | ⟨h15, h⟩
    ·
     refine c_t h15 rfl ?_
     refine c_sr ?_
     refine o_m3 (.t (.d (.lit (yv l)))) (.t (.agg [.i 0, .n])) (.i y14) rfl ?_
     obtain ⟨x16, h17, h⟩ := bind_some h
     refine o_yld (f := hzP hpA zf z10) (f' := hzP hpA zf x16.2) (b := x16.1) (l := l) (g0 rfl) rfl rfl rfl rfl rfl (hy _ _ x16.1 x16.2 h17) (pure_hzP pure_hpA hz' _) (pure_hzP pure_hpA hz' _) (.cons (.plain (.t (.agg (.cons .r (.cons (.nil _) .nil)))) rfl) (.cons (.plain .r rfl) .nil)) rfl ?_
     refine o_nil (c_ret ?_)
     obtain rfl := Option.some.inj h
     exact ⟨⟨_, rfl, .r⟩, trivial, rfl⟩
    refine c_f h15 rfl ?_
    refine c_skip (c_seq (c_sr ?_))
    refine o_m3 (.t (.d (.lit (yv l)))) (.i z8) (.y x12.1) rfl ?_
    obtain ⟨x18, h19, h⟩ := bind_some h
    refine o_c (g0 rfl) rfl rfl rfl (cutEl (c := cU8) h19) (cutCl (c := cU8) h19) ?_
    refine o_1 (.t (.agg [.i z8, .y x18])) rfl ?_
    obtain ⟨x20, h21, h⟩ := bind_some h
    refine o_yld (f := hzP hpA zf z10) (f' := hzP hpA zf x20.2) (b := x20.1) (l := l) (g0 rfl) rfl rfl rfl rfl rfl (hy _ _ x20.1 x20.2 h21) (pure_hzP pure_hpA hz' _) (pure_hzP pure_hpA hz' _) (.cons (.plain .r rfl) (.cons (.plain .r rfl) .nil)) rfl ?_
    refine o_1 (.b (!x20.1)) rfl ?_
    refine o_nil ?_
    rcases bif_some h with ⟨h22, h⟩ | ⟨h22, h⟩
    ·
     refine c_t h22 rfl ?_
     refine c_ret ?_
     obtain rfl := Option.some.inj h
     exact ⟨⟨_, rfl, .r⟩, trivial, rfl⟩
    refine c_f h22 rfl ?_
    refine c_skip (c_region ?_)
    refine o_1 (.y x12.1) rfl ?_
    obtain ⟨x23, h24, h⟩ := bind_some h
    refine o_c (g0 rfl) rfl rfl rfl (cutEh (c := cU8) h24) (cutCh (c := cU8) h24) ?_
    obtain ⟨x25, h26, h⟩ := bind_some h
    refine o_ca (fc_word_Get _ _ h26) (g0 rfl) rfl rfl rfl rfl rfl rfl rfl (.cons .r .nil) rfl rfl ?_
    refine o_m4 (.tup [.i x25.1, .i x25.2]) (.i x25.1) (.i x25.2) (.i x25.1) rfl ?_
    refine o_nil (c_region ?_)
    refine o_m2 (.i (wi (z9 + 1))) (.i (wi (z9 + 1))) rfl ?_
    refine o_nil ?_
    exact ⟨nl2, (x25.1, (wi (z9 + 1)), x20.2), [], Nat.lt_succ_self nl2, h, rfl, ⟨.inr ⟨_, rfl, pure_hzP pure_hpA hz' _⟩, by (repeat (first | exact ObP.nil | refine ObP.cons (.inl rfl) ?_ | refine ObP.cons (.inr (fun _ => rfl)) ?_ | refine ObP.cons (.inr (ob_box (fl_noPt _ _))) ?_ | refine ObP.cons (.inr (ob_gb _ _)) ?_))⟩, ⟨.r, .r, .r, .r, .r, .r, trivial⟩, rfl⟩
   refine c_f h11 rfl ?_
   refine c_exit ?_
   exact ⟨(z8, z10), [], h, rfl, ⟨.inr ⟨_, rfl, pure_hzP pure_hpA hz' _⟩, by (repeat (first | exact ObP.nil | refine ObP.cons (.inl rfl) ?_ | refine ObP.cons (.inr (fun _ => rfl)) ?_ | refine ObP.cons (.inr (ob_box (fl_noPt _ _))) ?_ | refine ObP.cons (.inr (ob_gb _ _)) ?_))⟩, ⟨.r, .r, .r, trivial⟩, rfl⟩
 rintro ⟨y1, y2⟩ h
 refine c_sr ?_
 refine o_m2 (.i y1) (.b (y1 != 0)) rfl ?_
 refine o_nil ?_
 rcases bif_some h with ⟨h3, h⟩ | ⟨h3, h⟩
 ·
  refine c_t h3 rfl ?_
  refine c_region ?_
  refine o_m2 (.t (.d (.lit (yv l)))) (.t (.agg [.i 0, .n])) rfl ?_
  obtain ⟨x4, h5, h⟩ := bind_some h
  refine o_yld (f := hzP hpA zf y2) (f' := hzP hpA zf x4.2) (b := x4.1) (l := l) (g0 rfl) rfl rfl rfl rfl rfl (hy _ _ x4.1 x4.2 h5) (pure_hzP pure_hpA hz' _) (pure_hzP pure_hpA hz' _) (.cons (.plain (.t (.agg (.cons .r (.cons (.nil _) .nil)))) rfl) (.cons (.plain .r rfl) .nil)) rfl ?_
  refine o_nil ?_
  obtain rfl := Option.some.inj h
  exact ⟨⟨_, rfl, .r⟩, trivial, rfl⟩
 refine c_f h3 rfl ?_
 refine c_skip ?_
 obtain rfl := Option.some.inj h
 exact ⟨⟨_, rfl, .r⟩, trivial, rfl⟩
theorem fch_blob_chain (p0 : (Option Nat)) (p1 : Int) (p2 : Int) (w0 : Hp) (r : (Int × Int × Nat)) (h : m_blob_chain p0 p1 p2 w0 = some r) : FCH Try.prog 85 [.t ((ptT 5 p0)), .t (.d (.lit (.int .i64 p1))), .t (.d (.lit (.int .i64 p2)))] [] [] (hpA w0) (hpA w0) (.cl 119 [[.d (.lit (.int .i64 r.1))], [.d (.lit (.int .i64 r.2.1))], [.hpt (cd 5 r.2.2) 0]]) := by
 refine fch_mk (rs := [.tmp 6]) (n := 8) [] Try.func85 rfl rfl (Nat.le_of_ble_eq_true rfl) rfl (pins := []) rfl (L := [(HK, .hp (hpA w0)), (0, .t ((ptT 5 p0))), (1, .i p1), (2, .i p2)]) rfl ?_
 rcases ptM_some h with ⟨h1, hk⟩ | ⟨i2, h1, hk⟩
 ·
  exact none_ne hk
 clear h
 subst h1
 have h := hk
 clear hk
 refine c_sr ?_
 refine o_of (e := [(3, .box [.hpt (cd 5 i2) 0])]) (g0 rfl) (h_boxp mR rfl rfl rfl rfl) rfl ?_
 refine o_m3 (.box [.i p1]) (.box [.i p2]) (.t (.d (.lit .nilFunc))) rfl ?_
 refine o_nil (c_seq ?_)
 refine c_fzT 4 rfl rfl rfl ?_
 refine c_fzT 5 rfl rfl rfl ?_
 refine c_fzT 3 rfl rfl rfl ?_
 refine c_region ?_
 refine o_of (e := [(7, .cl 119 [[.i p1], [.i p2], [.hpt (cd 5 i2) 0]])]) (g0 rfl) (h_mfT mR rfl rfl rfl rfl rfl) rfl ?_
 refine o_1 (.cl 119 [[.i p1], [.i p2], [.hpt (cd 5 i2) 0]]) rfl ?_
 refine o_nil (c_ret ?_)
 obtain rfl := Option.some.inj h
 exact ⟨⟨_, rfl, .r⟩, trivial, rfl⟩
theorem fch_blob_Homes (p0 : (Option Nat)) (p1 : Int) (p2 : Int) (w0 : Hp) (r : ((List Int) × Int × Hp)) (h : m_blob_Homes p0 p1 p2 w0 = some r) : FCH Try.prog 33 [.t ((ptT 5 p0)), .t (.d (.lit (.int .i64 p1))), .t (.d (.lit (.int .i64 p2)))] [] [] (hpA w0) (hpA r.2.2) (.tup [.d (.seq 1 (List.map cI64 r.1)), .d (.lit (.int .i64 r.2.1))]) := by
 refine fch_mkR (rs := [.cell 6 52, .cell 7 27]) (n := 29) [] Try.func33 rfl rfl (Nat.le_of_ble_eq_true rfl) rfl (pins := [DK]) rfl (L := [(HK, .hp (hpA w0)), (0, .t ((ptT 5 p0))), (1, .i p1), (2, .i p2)]) rfl ?_
 rcases ptM_some h with ⟨h1, hk⟩ | ⟨i2, h1, hk⟩
 ·
  exact none_ne hk
 clear h
 subst h1
 have h := hk
 clear hk
 refine c_sr ?_
 refine o_m2 (.box [.n]) (.box [.i 0]) rfl ?_
 refine o_nil (c_seq (c_sr ?_))
 refine o_1 (.i p2) rfl ?_
 obtain ⟨x3, h4, h⟩ := bind_some h
 refine o_ca (fc_blob_may _ _ h4) (g0 rfl) rfl rfl rfl rfl rfl rfl rfl (.cons .r .nil) rfl rfl ?_
 refine o_1 (.b (!x3)) rfl ?_
 refine o_nil ?_
 rcases bif_some h with ⟨h5, h⟩ | ⟨h5, h⟩
 ·
  refine c_t h5 rfl ?_
  refine c_sr ?_
  refine o_st (.box [.n]) (g0 rfl) rfl rfl rfl ?_
  refine o_st (.box [.i 2]) (g0 rfl) rfl rfl rfl ?_
  refine o_nil (c_ret ?_)
  obtain rfl := Option.some.inj h
  exact ⟨⟨_, rfl, (.tup (.cons (.d (.nil _)) (.cons .r .nil)))⟩, trivial, rfl⟩
 refine c_f h5 rfl ?_
 refine c_skip (c_sr ?_)
 refine o_1 (.box [.n]) rfl ?_
 refine o_nil ?_
 refine c_seqR ?_
 refine c_region ?_
 refine o_of (e := [(14, .t (.hpt (cd 5 i2) 0))]) (g0 rfl) (h_mv mR (.inl rfl) rfl rfl rfl) rfl ?_
 refine o_m2 (.i p1) (.i p2) rfl ?_
 obtain ⟨x6, h7, h⟩ := bind_some h
 refine o_of (e := [(17, .cl 119 [[.i x6.1], [.i x6.2.1], [.hpt (cd 5 x6.2.2) 0]])]) (g0 rfl) (h_callR mR rfl (σ := []) (fr := []) rfl rfl rfl rfl rfl rfl rfl (fch_blob_chain _ _ _ w0 _ h7) (pure_hpA _) rfl rfl rfl rfl (.cons (.hpt _ _) (.cons (.plain .r rfl) (.cons (.plain .r rfl) .nil))) rfl (.cl (all_cons (all_cons (.flat rfl) all_nil) (all_cons (all_cons (.flat rfl) all_nil) (all_cons (all_cons (.hpt _ _) all_nil) all_nil))))) rfl ?_
 refine o_nil ?_
 obtain ⟨x16, h17, h⟩ := bind_some h
 refine c_itr (bs := [6, 7, 8]) (ps := [18, 19]) [] (fun b : (Int × (List Int)) => [[.n], [.i b.1], [.own 3 1 (List.map cI64 b.2)]]) (it_blob_chain_c1 x6.1 x6.2.1 x6.2.2) h17 nc_hpA rfl (by decide) (by decide) (fun _ => rfl) (fun b => (all_cons (p := nzC) (nzC_d nzC_nil) (all_cons (p := nzC) (nzC_d nzC_nil) (all_cons (p := nzC) (nzC_own nzC_nil) all_nil)))) (fun _ => ⟨rfl, rfl⟩) (all_cons (p := capC) (capC_d capC_nil) (all_cons (p := capC) (capC_d capC_nil) (all_cons (p := capC) (capC_hpt (by decide) capC_nil) all_nil))) trivial Try.func119 rfl rfl ⟨.r, .r, .r, .r, (.box (.cons (.nilOwn _ _) .nil) rfl), trivial⟩ rfl ?_ ?_ ?_
 ·
  rintro ⟨a10, a11⟩ ⟨z8, z9⟩ w12 r h
  replace h : m_blob_Homes_r1 a10 a11 z8 z9 w12 = some r := h
  show CodeOK _ _ _ _ _ [(18, .t (.agg [.i a10.home_, .y a10.data_])), (19, .i a11), (HK, .hp (hpA w12)), (6, .box [.n]), (7, .box [.i z8]), (8, .box [.own 3 1 (List.map cI64 z9)])]
  refine c_sr ?_
  refine o_1 (.box [.i 0, .n]) rfl ?_
  refine o_st (.box [.i a10.home_, .y a10.data_]) (g0 rfl) rfl rfl rfl ?_
  refine o_nil (c_region ?_)
  refine o_1 (.i a11) rfl ?_
  refine o_nil ?_
  refine ⟨rfl, ?_⟩
  refine c_block (c_seq (c_sr ?_))
  refine o_m2 (.i a11) (.b (a11 != 0)) rfl ?_
  refine o_nil ?_
  rcases bif_some h with ⟨h13, h⟩ | ⟨h13, h⟩
  ·
   refine c_t h13 rfl ?_
   refine c_sr ?_
   refine o_1 (.i a11) rfl ?_
   refine o_st (.box [.n]) (g0 rfl) rfl rfl rfl ?_
   refine o_st (.box [.i a11]) (g0 rfl) rfl rfl rfl ?_
   refine o_nil (c_ret ?_)
   obtain rfl := Option.some.inj h
   exact ⟨.inr ⟨rfl, rfl⟩, rfl, ⟨rfl, rfl, rfl, trivial⟩⟩
  refine c_f h13 rfl ?_
  refine c_skip (c_region ?_)
  refine o_2 (.box [.d (.seq 1 (List.map cI64 z9))]) (.t (.own 3 1 (List.map cI64 z9))) (g0 rfl) rfl rfl rfl ?_
  refine o_m3 (.ref 9 0) (.i a10.home_) (.t (.own 3 1 (List.map cI64 [a10.home_]))) rfl ?_
  obtain ⟨x14, h15, h⟩ := bind_some h
  refine o_2c (g0 rfl) rfl rfl rfl (appE (c := cI64) h15) (appC (c := cI64) h15) ?_
  refine o_st2 (.t (.d (.seq 1 (List.map cI64 x14)))) (.box [.own 3 1 (List.map cI64 x14)]) (g0 rfl) rfl rfl rfl ?_
  refine o_nil ?_
  obtain rfl := Option.some.inj h
  exact ⟨.inl ⟨rfl, rfl⟩, rfl, ⟨rfl, rfl, rfl, trivial⟩⟩
 ·
  intro h18
  replace h := bif_f h18 h
  show endH _ _ _ _ _ _ [(HK, .hp (hpA x16.2)), (6, .box [.n]), (7, .box [.i x16.1.2.1]), (8, .box [.own 3 1 (List.map cI64 x16.1.2.2)])]
  obtain rfl := Option.some.inj h
  exact ⟨⟨_, rfl, (.tup (.cons (.d (.nil _)) (.cons .r .nil)))⟩, trivial, rfl⟩
 intro h18
 replace h := bif_t h18 h
 show CodeOK _ _ _ _ _ [(HK, .hp (hpA x16.2)), (6, .box [.n]), (7, .box [.i x16.1.2.1]), (8, .box [.own 3 1 (List.map cI64 x16.1.2.2)])]
 refine c_sr ?_
 refine o_1 (.t (.d (.seq 1 (List.map cI64 x16.1.2.2)))) rfl ?_
 refine o_st (.box [.d (.seq 1 (List.map cI64 x16.1.2.2))]) (g0 rfl) rfl rfl rfl ?_
 refine o_st (.box [.i 0]) (g0 rfl) rfl rfl rfl ?_
 refine o_nil (c_ret ?_)
 refine ⟨rfl, ?_⟩
 obtain rfl := Option.some.inj h
 exact ⟨⟨_, rfl, (.tup (.cons .r (.cons .r .nil)))⟩, trivial, rfl⟩
theorem fch_blob_Get (p0 : (Option Nat)) (p1 : Int) (p2 : Int) (w0 : Hp) (r : ((List UInt8) × Int × Hp)) (h : m_blob_Get p0 p1 p2 w0 = some r) : FCH Try.prog 34 [.t ((ptT 5 p0)), .t (.d (.lit (.int .i64 p1))), .t (.d (.lit (.int .i64 p2)))] [] [] (hpA w0) (hpA r.2.2) (.tup [.d (.seq 1 (bytesD r.1)), .d (.lit (.int .i64 r.2.1))]) := by
 refine fch_mkR (rs := [.cell 6 41, .cell 7 27]) (n := 46) [] Try.func34 rfl rfl (Nat.le_of_ble_eq_true rfl) rfl (pins := [DK]) rfl (L := [(HK, .hp (hpA w0)), (0, .t ((ptT 5 p0))), (1, .i p1), (2, .i p2)]) rfl ?_
 rcases ptM_some h with ⟨h1, hk⟩ | ⟨i2, h1, hk⟩
 ·
  exact none_ne hk
 clear h
 subst h1
 have h := hk
 clear hk
 refine c_sr ?_
 refine o_m2 (.box [.n]) (.box [.i 0]) rfl ?_
 refine o_nil (c_seq (c_sr ?_))
 refine o_1 (.i p2) rfl ?_
 obtain ⟨x3, h4, h⟩ := bind_some h
 refine o_ca (fc_blob_may _ _ h4) (g0 rfl) rfl rfl rfl rfl rfl rfl rfl (.cons .r .nil) rfl rfl ?_
 refine o_1 (.b (!x3)) rfl ?_
 refine o_nil ?_
 rcases bif_some h with ⟨h5, h⟩ | ⟨h5, h⟩
 ·
  refine c_t h5 rfl ?_
  refine c_sr ?_
  refine o_st (.box [.n]) (g0 rfl) rfl rfl rfl ?_
  refine o_st (.box [.i 2]) (g0 rfl) rfl rfl rfl ?_
  refine o_nil (c_ret ?_)
  obtain rfl := Option.some.inj h
  exact ⟨⟨_, rfl, (.tup (.cons (.d (.nil _)) (.cons .r .nil)))⟩, trivial, rfl⟩
 refine c_f h5 rfl ?_
 refine c_skip (c_sr ?_)
 refine o_1 (.box [.n]) rfl ?_
 refine o_nil ?_
 refine c_seqR ?_
 refine c_region ?_
 refine o_of (e := [(16, .t (.hpt (cd 5 i2) 0))]) (g0 rfl) (h_mv mR (.inl rfl) rfl rfl rfl) rfl ?_
 refine o_m2 (.i p1) (.i p2) rfl ?_
 obtain ⟨x6, h7, h⟩ := bind_some h
 refine o_of (e := [(19, .cl 119 [[.i x6.1], [.i x6.2.1], [.hpt (cd 5 x6.2.2) 0]])]) (g0 rfl) (h_callR mR rfl (σ := []) (fr := []) rfl rfl rfl rfl rfl rfl rfl (fch_blob_chain _ _ _ w0 _ h7) (pure_hpA _) rfl rfl rfl rfl (.cons (.hpt _ _) (.cons (.plain .r rfl) (.cons (.plain .r rfl) .nil))) rfl (.cl (all_cons (all_cons (.flat rfl) all_nil) (all_cons (all_cons (.flat rfl) all_nil) (all_cons (all_cons (.hpt _ _) all_nil) all_nil))))) rfl ?_
 refine o_nil ?_
 obtain ⟨x16, h17, h⟩ := bind_some h
 refine c_itr (bs := [6, 7, 8]) (ps := [20, 21]) [(2, .i p2)] (fun b : (Int × (List UInt8)) => [[.n], [.i b.1], [.own 5 1 (bytesD b.2)]]) (it_blob_chain_c1 x6.1 x6.2.1 x6.2.2) h17 nc_hpA rfl (by decide) (by decide) (fun _ => rfl) (fun b => (all_cons (p := nzC) (nzC_d nzC_nil) (all_cons (p := nzC) (nzC_d nzC_nil) (all_cons (p := nzC) (nzC_own nzC_nil) all_nil)))) (fun _ => ⟨rfl, rfl⟩) (all_cons (p := capC) (capC_d capC_nil) (all_cons (p := capC) (capC_d capC_nil) (all_cons (p := capC) (capC_hpt (by decide) capC_nil) all_nil))) ⟨.inl ⟨rfl, rfl⟩, trivial⟩ Try.func119 rfl rfl ⟨.r, .r, .r, .r, (.box (.cons (.nilOwn _ _) .nil) rfl), .r, trivial⟩ rfl ?_ ?_ ?_
 ·
  rintro ⟨a10, a11⟩ ⟨z8, z9⟩ w12 r h
  replace h : m_blob_Get_r1 a10 a11 z8 z9 w12 = some r := h
  show CodeOK _ _ _ _ _ [(20, .t (.agg [.i a10.home_, .y a10.data_])), (21, .i a11), (HK, .hp (hpA w12)), (6, .box [.n]), (7, .box [.i z8]), (8, .box [.own 5 1 (bytesD z9)]), (2, .i p2)]
  refine c_sr ?_
  refine o_1 (.box [.i 0, .n]) rfl ?_
  refine o_st (.box [.i a10.home_, .y a10.data_]) (g0 rfl) rfl rfl rfl ?_
  refine o_nil (c_region ?_)
  refine o_1 (.i a11) rfl ?_
  refine o_nil ?_
  refine ⟨rfl, ?_⟩
  refine c_block (c_seq (c_sr ?_))
  refine o_m2 (.i a11) (.b (a11 != 0)) rfl ?_
  refine o_nil ?_
  rcases bif_some h with ⟨h13, h⟩ | ⟨h13, h⟩
  ·
   refine c_t h13 rfl ?_
   refine c_sr ?_
   refine o_1 (.i a11) rfl ?_
   refine o_st (.box [.n]) (g0 rfl) rfl rfl rfl ?_
   refine o_st (.box [.i a11]) (g0 rfl) rfl rfl rfl ?_
   refine o_nil (c_ret ?_)
   obtain rfl := Option.some.inj h
   exact ⟨.inr ⟨rfl, rfl⟩, rfl, ⟨rfl, rfl, rfl, trivial⟩⟩
  refine c_f h13 rfl ?_
  refine c_skip (c_region ?_)
  refine o_2 (.box [.y z9]) (.t (.own 5 1 (bytesD z9))) (g0 rfl) rfl rfl rfl ?_
  refine o_m2 (.ref 9 1) (.y a10.data_) rfl ?_
  obtain ⟨x14, h15, h⟩ := bind_some h
  refine o_2c (g0 rfl) rfl rfl rfl (appE (c := cU8) h15) (appC (c := cU8) h15) ?_
  refine o_st2 (.y x14) (.box [.own 5 1 (bytesD x14)]) (g0 rfl) rfl rfl rfl ?_
  refine o_nil ?_
  obtain rfl := Option.some.inj h
  exact ⟨.inl ⟨rfl, rfl⟩, rfl, ⟨rfl, rfl, rfl, trivial⟩⟩
 ·
  intro h27
  replace h := bif_f h27 h
  show endH _ _ _ _ _ _ [(HK, .hp (hpA x16.2)), (6, .box [.n]), (7, .box [.i x16.1.2.1]), (8, .box [.own 5 1 (bytesD x16.1.2.2)]), (2, .i p2)]
  obtain rfl := Option.some.inj h
  exact ⟨⟨_, rfl, (.tup (.cons (.d (.nil _)) (.cons .r .nil)))⟩, trivial, rfl⟩
 intro h27
 replace h := bif_t h27 h
 show CodeOK _ _ _ _ _ [(HK, .hp (hpA x16.2)), (6, .box [.n]), (7, .box [.i x16.1.2.1]), (8, .box [.own 5 1 (bytesD x16.1.2.2)]), (2, .i p2)]
 refine c_cutH (fun (_ : Unit) => [(2, .i p2), (6, .box [.n]), (7, .box [.i x16.1.2.1]), (8, .box [.own 5 1 (bytesD x16.1.2.2)]), (HK, .hp (hpA x16.2))]) (fun (_ : Unit) => m_blob_Get_j2 x16 p2 = some r) ?_ ?_
 ·
  refine c_sr ?_
  refine o_m3 (.y x16.1.2.2) (.i p2) (.y x16.1.2.2) rfl ?_
  refine o_c (g0 rfl) rfl rfl rfl (lenE _ _) trivial ?_
  refine o_of (e := [(33, .i (if (x16.1.2.2.length : Int) < p2 then (x16.1.2.2.length : Int) else p2))]) (g0 rfl) (h_min mR rfl rfl rfl rfl rfl) rfl ?_
  obtain ⟨x20, h21, h⟩ := bind_some h
  refine o_c (g0 rfl) rfl rfl rfl (cutEl (c := cU8) h21) (cutCl (c := cU8) h21) ?_
  refine o_c (g0 rfl) rfl rfl rfl (lenE _ _) trivial ?_
  refine o_1 (.i 0) rfl ?_
  refine o_nil (c_block ?_)
  refine c_fuelH (fun (z22 : Int) => [(2, .i p2), (6, .box [.n]), (7, .box [.i x16.1.2.1]), (8, .box [.own 5 1 (bytesD x16.1.2.2)]), (34, .y x20), (35, .i (x20.length : Int)), (36, .i z22), (HK, .hp (hpA x16.2))]) (fun nl3 => (fun (z22 : Int) => m_blob_Get_l3 x20 x16 p2 nl3 z22 = some r)) (x20.length + 1) 0 [] h rfl ⟨.inr ⟨_, rfl, pure_hpA _⟩, by (repeat (first | exact ObP.nil | refine ObP.cons (.inl rfl) ?_ | refine ObP.cons (.inr (fun _ => rfl)) ?_ | refine ObP.cons (.inr (ob_box (fl_noPt _ _))) ?_ | refine ObP.cons (.inr (ob_gb _ _)) ?_))⟩ ⟨.r, .r, .r, .r, .r, .r, .r, .r, trivial⟩ rfl ?_
  rintro nl3 z22 h
  cases nl3 with
  | zero => exact none_ne h
  | succ nl3 =>
   refine c_sr ?_
   refine o_1 (.b (decide (z22 < (x20.length : Int)))) rfl ?_
   refine o_nil (c_seq ?_)
   rcases bif_some h with ⟨h23, h⟩ | ⟨h23, h⟩
   ·
    refine c_t h23 rfl ?_
    refine c_skip (c_seq (c_block (c_sr ?_)))
    obtain ⟨x24, h25, h⟩ := bind_some h
    refine o_c (g0 rfl) rfl rfl rfl (idxE h25) (idxC h25) ?_
    refine o_m2 (.t (.d (.lit (.int .u8 (x24.toNat : Int))))) (.t (.d (.lit (.int .u8 (x24.toNat : Int))))) rfl ?_
    refine o_nil (c_sr ?_)
    refine o_m2 (.t (.d (.lit (.int .u8 (x24.toNat : Int))))) (.b ((x24.toNat : Int) != 0)) rfl ?_
    refine o_nil ?_
    rcases bif_some h with ⟨h26, h⟩ | ⟨h26, h⟩
    ·
     refine c_t h26 rfl ?_
     refine c_sr ?_
     refine o_st (.box [.n]) (g0 rfl) rfl rfl rfl ?_
     refine o_st (.box [.i 11]) (g0 rfl) rfl rfl rfl ?_
     refine o_nil (c_ret ?_)
     refine ⟨rfl, ?_⟩
     obtain rfl := Option.some.inj h
     exact ⟨⟨_, rfl, (.tup (.cons (.d (.nil _)) (.cons .r .nil)))⟩, trivial, rfl⟩
    refine c_f h26 rfl ?_
    refine c_skip (c_region ?_)
    refine o_m2 (.i (wi (z22 + 1))) (.i (wi (z22 + 1))) rfl ?_
    refine o_nil ?_
    exact ⟨nl3, (wi (z22 + 1)), [], Nat.lt_succ_self nl3, h, rfl, ⟨.inr ⟨_, rfl, pure_hpA _⟩, by (repeat (first | exact ObP.nil | refine ObP.cons (.inl rfl) ?_ | refine ObP.cons (.inr (fun _ => rfl)) ?_ | refine ObP.cons (.inr (ob_box (fl_noPt _ _))) ?_ | refine ObP.cons (.inr (ob_gb _ _)) ?_))⟩, ⟨.r, .r, .r, .r, .r, .r, .r, .r, trivial⟩, rfl⟩
   refine c_f h23 rfl ?_
   refine c_exit ?_
   exact ⟨(), [], h, rfl, ⟨.inr ⟨_, rfl, pure_hpA _⟩, by (repeat (first | exact ObP.nil | refine ObP.cons (.inl rfl) ?_ | refine ObP.cons (.inr (fun _ => rfl)) ?_ | refine ObP.cons (.inr (ob_box (fl_noPt _ _))) ?_ | refine ObP.cons (.inr (ob_gb _ _)) ?_))⟩, ⟨.r, .r, .r, .r, .r, trivial⟩, rfl⟩
 rintro ⟨⟩ h
 refine c_sr ?_
 refine o_m2 (.y x16.1.2.2) (.i p2) rfl ?_
 obtain ⟨x18, h19, h⟩ := bind_some h
 refine o_c (g0 rfl) rfl rfl rfl (cutEh (c := cU8) h19) (cutCh (c := cU8) h19) ?_
 refine o_st (.box [.y x18]) (g0 rfl) rfl rfl rfl ?_
 refine o_st (.box [.i 0]) (g0 rfl) rfl rfl rfl ?_
 refine o_nil (c_ret ?_)
 refine ⟨rfl, ?_⟩
 obtain rfl := Option.some.inj h
 exact ⟨⟨_, rfl, (.tup (.cons .r (.cons .r .nil)))⟩, trivial, rfl⟩
end Go.Proofs.Ytjomnccladjpgaa

/-
  Walks of functions: each function does what its model tells. Printed by a program of this claim's own (gen.py) off the given translation.
-/
namespace Go.Proofs.Ytjomnccladjpgaa
open Go Go.RowKit
set_option linter.unusedVariables false
set_option maxHeartbeats 4000000
set_option maxRecDepth 20000
theorem fch_L21_awake (w0 : Hp) (r : (Bool × Hp)) (h : m_L21_awake w0 = some r) : FCH Try.prog 24 [] [] [] (hpA w0) (hpA r.2) (.t (.d (.lit (.bool r.1)))) := by
 refine fch_mk (rs := [.tmp 0]) (n := 38) [] Try.func24 rfl rfl (Nat.le_of_ble_eq_true rfl) rfl (pins := []) rfl (L := [(HK, .hp (hpA w0))]) rfl ?_
 refine c_sr ?_
 refine o_1 (.b false) rfl ?_
 refine o_nil (c_sr ?_)
 obtain ⟨x1, h2, h⟩ := bind_some h
 refine o_of (e := [(HK, .hp (hpA x1.2)), (6, .t ((ptT 5 x1.1)))]) (g0 rfl) (h_call mR rfl (σ := []) (fr := []) rfl rfl rfl rfl rfl rfl rfl (fch_L20_Begun _ w0 _ h2) (pure_hpA _) (pure_hpA _) rfl rfl rfl rfl (.cons (.plain (.t (.d (.nil _))) rfl) .nil) rfl (.t (ptT_pt _ _))) rfl ?_
 refine o_of (e := [(1, .t ((ptT 5 x1.1)))]) (g0 rfl) (h_mv mR (.inr rfl) (cpO_pt rfl) rfl rfl) rfl ?_
 refine o_nil (c_sr ?_)
 refine o_of (e := [(8, .t ((ptT 5 x1.1)))]) (g0 rfl) (h_mv mR (.inl rfl) (cpO_pt rfl) rfl rfl) rfl ?_
 refine o_m2 (.t (.own 3 1 (List.map cI64 [7]))) (.t (.own 5 1 (bytesD [1, 2]))) rfl ?_
 obtain ⟨x3, h4, h⟩ := bind_some h
 refine o_of (e := [(HK, .hp (hpA x3.2.2)), (11, .tup [.i x3.1, .i x3.2.1])]) (g0 rfl) (h_call mR rfl (σ := []) (fr := []) rfl rfl rfl rfl rfl rfl rfl (fch_blob_Put _ _ _ x1.2 _ h4) (pure_hpA _) (pure_hpA _) rfl rfl rfl rfl (.cons (argPt rfl) (.cons (.plain .r rfl) (.cons (.plain .r rfl) .nil))) rfl (.tup (.cons (.flat rfl) (.cons (.flat rfl) .nil)))) rfl ?_
 refine o_m5 (.tup [.i x3.1, .i x3.2.1]) (.i x3.1) (.i x3.2.1) (.i x3.1) (.i x3.2.1) rfl ?_
 refine o_nil (c_sr ?_)
 refine o_of (e := [(15, .t ((ptT 5 x1.1)))]) (g0 rfl) (h_mv mR (.inl rfl) (cpO_pt rfl) rfl rfl) rfl ?_
 obtain ⟨x5, h6, h⟩ := bind_some h
 refine o_of (e := [(HK, .hp (hpA x5.2.2)), (16, .tup [.y x5.1, .i x5.2.1])]) (g0 rfl) (h_call mR rfl (σ := []) (fr := []) rfl rfl rfl rfl rfl rfl rfl (fch_blob_Get _ _ _ x3.2.2 _ h6) (pure_hpA _) (pure_hpA _) rfl rfl rfl rfl (.cons (argPt rfl) (.cons (.plain .r rfl) (.cons (.plain .r rfl) .nil))) rfl (.tup (.cons (.flat rfl) (.cons (.flat rfl) .nil)))) rfl ?_
 refine o_m5 (.tup [.y x5.1, .i x5.2.1]) (.y x5.1) (.i x5.2.1) (.y x5.1) (.i x5.2.1) rfl ?_
 refine o_nil (c_sr ?_)
 refine o_m3 (.i x3.2.1) (.b (x3.2.1 == 0)) (.b (x3.2.1 == 0)) rfl ?_
 rcases bif_some h with ⟨h7, h⟩ | ⟨h7, h⟩
 ·
  refine o_s (.i x5.2.1) (gy rfl rfl rfl h7) rfl rfl rfl ?_
  refine o_s (.b (x5.2.1 == 0)) (gy rfl rfl rfl h7) rfl rfl rfl ?_
  refine o_pk (.b (x5.2.1 == 0)) (b := true) h7 (g0 rfl) rfl rfl rfl rfl rfl ?_
  refine o_1 (.b (x5.2.1 == 0)) rfl ?_
  rcases bif_some h with ⟨h8, h⟩ | ⟨h8, h⟩
  ·
   refine o_s (.i x3.1) (gy rfl rfl rfl h8) rfl rfl rfl ?_
   refine o_s (.b (x3.1 == 7)) (gy rfl rfl rfl h8) rfl rfl rfl ?_
   refine o_pk (.b (x3.1 == 7)) (b := true) h8 (g0 rfl) rfl rfl rfl rfl rfl ?_
   refine o_1 (.b (x3.1 == 7)) rfl ?_
   rcases bif_some h with ⟨h9, h⟩ | ⟨h9, h⟩
   ·
    refine o_s (.y x5.1) (gy rfl rfl rfl h9) rfl rfl rfl ?_
    refine o_s (.t (.own 5 1 (bytesD [1, 2]))) (gy rfl rfl rfl h9) rfl rfl rfl ?_
    obtain ⟨x10, h11, h⟩ := bind_some h
    refine o_ca (fc_R01_Same _ _ _ h11) (gy rfl rfl rfl h9) rfl rfl rfl rfl rfl rfl rfl (.cons .r (.cons .r .nil)) rfl rfl ?_
    refine o_pk (.b x10) (b := true) h9 (g0 rfl) rfl rfl rfl rfl rfl ?_
    refine o_1 (.b x10) rfl ?_
    rcases bif_some h with ⟨h12, h⟩ | ⟨h12, h⟩
    ·
     obtain ⟨x13, h14, h⟩ := bind_some h
     refine o_ca (fc_blob_Count _ _ h14) (gy rfl rfl rfl h12) rfl rfl rfl rfl rfl rfl rfl (.cons .r .nil) rfl rfl ?_
     refine o_s (.b (x13 == 2)) (gy rfl rfl rfl h12) rfl rfl rfl ?_
     refine o_pk (.b (x13 == 2)) (b := true) h12 (g0 rfl) rfl rfl rfl rfl rfl ?_
     refine o_1 (.b (x13 == 2)) rfl ?_
     refine o_nil (c_ret ?_)
     obtain rfl := Option.some.inj h
     exact ⟨⟨_, rfl, .r⟩, trivial, rfl⟩
    refine o_skip rfl rfl rfl h12 rfl rfl ?_
    refine o_skip rfl rfl rfl h12 rfl rfl ?_
    refine o_pk (.b false) (b := false) h12 (g0 rfl) rfl rfl rfl rfl rfl ?_
    refine o_1 (.b false) rfl ?_
    refine o_nil (c_ret ?_)
    obtain rfl := Option.some.inj h
    exact ⟨⟨_, rfl, .r⟩, trivial, rfl⟩
   refine o_skip rfl rfl rfl h9 rfl rfl ?_
   refine o_skip rfl rfl rfl h9 rfl rfl ?_
   refine o_skip rfl rfl rfl h9 rfl rfl ?_
   refine o_pk (.b false) (b := false) h9 (g0 rfl) rfl rfl rfl rfl rfl ?_
   refine o_1 (.b false) rfl ?_
   refine o_skip rfl rfl rfl rfl rfl rfl ?_
   refine o_skip rfl rfl rfl rfl rfl rfl ?_
   refine o_pk (.b false) (b := false) rfl (g0 rfl) rfl rfl rfl rfl rfl ?_
   refine o_1 (.b false) rfl ?_
   refine o_nil (c_ret ?_)
   obtain rfl := Option.some.inj h
   exact ⟨⟨_, rfl, .r⟩, trivial, rfl⟩
  refine o_skip rfl rfl rfl h8 rfl rfl ?_
  refine o_skip rfl rfl rfl h8 rfl rfl ?_
  refine o_pk (.b false) (b := false) h8 (g0 rfl) rfl rfl rfl rfl rfl ?_
  refine o_1 (.b false) rfl ?_
  refine o_skip rfl rfl rfl rfl rfl rfl ?_
  refine o_skip rfl rfl rfl rfl rfl rfl ?_
  refine o_skip rfl rfl rfl rfl rfl rfl ?_
  refine o_pk (.b false) (b := false) rfl (g0 rfl) rfl rfl rfl rfl rfl ?_
  refine o_1 (.b false) rfl ?_
  refine o_skip rfl rfl rfl rfl rfl rfl ?_
  refine o_skip rfl rfl rfl rfl rfl rfl ?_
  refine o_pk (.b false) (b := false) rfl (g0 rfl) rfl rfl rfl rfl rfl ?_
  refine o_1 (.b false) rfl ?_
  refine o_nil (c_ret ?_)
  obtain rfl := Option.some.inj h
  exact ⟨⟨_, rfl, .r⟩, trivial, rfl⟩
 refine o_skip rfl rfl rfl h7 rfl rfl ?_
 refine o_skip rfl rfl rfl h7 rfl rfl ?_
 refine o_pk (.b false) (b := false) h7 (g0 rfl) rfl rfl rfl rfl rfl ?_
 refine o_1 (.b false) rfl ?_
 refine o_skip rfl rfl rfl rfl rfl rfl ?_
 refine o_skip rfl rfl rfl rfl rfl rfl ?_
 refine o_pk (.b false) (b := false) rfl (g0 rfl) rfl rfl rfl rfl rfl ?_
 refine o_1 (.b false) rfl ?_
 refine o_skip rfl rfl rfl rfl rfl rfl ?_
 refine o_skip rfl rfl rfl rfl rfl rfl ?_
 refine o_skip rfl rfl rfl rfl rfl rfl ?_
 refine o_pk (.b false) (b := false) rfl (g0 rfl) rfl rfl rfl rfl rfl ?_
 refine o_1 (.b false) rfl ?_
 refine o_skip rfl rfl rfl rfl rfl rfl ?_
 refine o_skip rfl rfl rfl rfl rfl rfl ?_
 refine o_pk (.b false) (b := false) rfl (g0 rfl) rfl rfl rfl rfl rfl ?_
 refine o_1 (.b false) rfl ?_
 refine o_nil (c_ret ?_)
 obtain rfl := Option.some.inj h
 exact ⟨⟨_, rfl, .r⟩, trivial, rfl⟩
end Go.Proofs.Ytjomnccladjpgaa
