/-
  Walks of functions: each function does what its model tells. Printed by a program of this claim's own (gen.py) off the given translation.
-/
import Derived.Test.YtjomnccladjpgaaQ10
import Derived.Test.YtjomnccladjpgaaQ11
import Derived.Test.YtjomnccladjpgaaQ09
import Derived.Test.YtjomnccladjpgaaQ08
import Derived.Test.YtjomnccladjpgaaQ13
set_option linter.unusedVariables false
set_option linter.unusedSimpArgs false
namespace Go.Proofs.Ytjomnccladjpgaa
open Go Go.RowKit
set_option linter.unusedVariables false
set_option maxHeartbeats 4000000
set_option maxRecDepth 20000
theorem fch_disk_Disk_Crash (p0 : (Option Nat)) (p1 : (List UInt8)) (w0 : Hp) (r : (Int × Hp)) (h : m_disk_Disk_Crash p0 p1 w0 = some r) : FCH Try.prog 19 [.t ((ptT 1 p0)), .t (.d (.seq 1 (bytesD p1)))] [] [] (hpA w0) (hpA r.2) (.t (.d (.lit (.int .i64 r.1)))) := by
 refine fch_mk (rs := [.tmp 4]) (n := 69) [] Try.func19 rfl rfl (Nat.le_of_ble_eq_true rfl) rfl (pins := []) rfl (L := [(HK, .hp (hpA w0)), (0, .t ((ptT 1 p0))), (1, .t (.d (.seq 1 (bytesD p1))))]) rfl ?_
 refine c_sr ?_
 refine o_s (.t (.d (.lit (.int .i64 0)))) (g0 rfl) rfl rfl rfl ?_
 refine o_nil ?_
 repeat (first | refine k1 ?_ | refine k4 ?_)
 refine c_seq ?_
 refine c_sr ?_
 refine o_of (e := [(8, .t ((ptT 1 p0)))]) (g0 rfl) (h_mv (Mk.refl _) (.inl rfl) (cpO_pt rfl) rfl rfl) rfl ?_
 obtain ⟨x1, h2, h⟩ := bind_some h
 refine o_of (e := [(9, .t (.d (.lit (.bool x1))))]) (g0 rfl) (h_callR (Mk.refl _) rfl (σ := []) (fr := []) rfl rfl rfl rfl rfl rfl rfl (fch_disk_Disk_is _ w0 _ h2) (pure_hpA _) rfl rfl rfl rfl (.cons (argPt rfl) .nil) rfl (.t (.flat rfl))) rfl ?_
 refine o_s (.t (.d (.lit (.bool (!x1))))) (g0 rfl) rfl rfl rfl ?_
 refine o_nil ?_
 repeat (first | refine k1 ?_ | refine k4 ?_)
 rcases bif_some h with ⟨h3, h⟩ | ⟨h3, h⟩
 ·
  refine c_t h3 rfl ?_
  refine c_sr ?_
  refine o_s (.t (.d (.lit (.int .i64 1)))) (g0 rfl) rfl rfl rfl ?_
  refine o_nil ?_
  repeat (first | refine k1 ?_ | refine k4 ?_)
  refine c_ret ?_
  repeat (first | refine k3 ?_ | refine k5 ?_)
  obtain rfl := Option.some.inj h
  exact ⟨⟨_, rfl, (.refl _)⟩, trivial, rfl⟩
 ·
  refine c_f h3 rfl ?_
  refine c_skip ?_
  repeat (first | refine k1 ?_ | refine k4 ?_)
  refine c_cutH (fun (y4 : Hp) => [(0, .t ((ptT 1 p0))), (HK, .hp (hpA y4))]) (fun (y4 : Hp) => m_disk_Disk_Crash_j1 p0 y4 = some r) ?_ ?_
  ·
   refine c_sr ?_
   refine o_of (e := [(11, .t ((ptT 1 p0)))]) (g0 rfl) (h_mv (Mk.refl _) (.inl rfl) (cpO_pt rfl) rfl rfl) rfl ?_
   rcases ptM_some h with ⟨h16, h⟩ | ⟨i17, h16, h⟩
   ·
    exact none_ne h
   ·
    refine o_of (e := [(12, .t (.hpt (cd 1 i17) 0))]) (g0 rfl) (h_nc (Mk.refl _) rfl (cpO_pt rfl) (ptT_some h16) rfl rfl) rfl ?_
    refine o_of (e := [(13, .t (.hpt (cd 1 i17) 2))]) (g0 rfl) (h_fd (Mk.refl _) rfl rfl rfl rfl rfl rfl) rfl ?_
    obtain ⟨x18, h19, h⟩ := bind_some h
    refine o_of (e := [(14, .t (.d (.seq 65 (List.map cS_disk_write x18.wait_))))]) (g0 rfl) (h_ld (Mk.refl _) rfl rfl rfl rfl (gl_dk h19) rfl rfl rfl rfl) rfl ?_
    refine o_c (g0 rfl) rfl rfl rfl (lenE _ _) trivial ?_
    refine o_s (.t (.d (.lit (.int .i64 0)))) (g0 rfl) rfl rfl rfl ?_
    refine o_nil ?_
    repeat (first | refine k1 ?_ | refine k4 ?_)
    refine c_block ?_
    refine c_fuelH (fun (q : Int × Hp) => [(0, .t ((ptT 1 p0))), (1, .t (.d (.seq 1 (bytesD p1)))), (14, .t (.d (.seq 65 (List.map cS_disk_write x18.wait_)))), (15, .t (.d (.lit (.int .i64 (x18.wait_.length : Int))))), (16, .t (.d (.lit (.int .i64 q.1)))), (HK, .hp (hpA q.2))]) (fun nl2 => (fun (q : Int × Hp) => m_disk_Disk_Crash_l2 x18 p1 p0 i17 nl2 q.1 q.2 = some r)) (x18.wait_.length + 1) (0, w0) [] h rfl ⟨.inr ⟨_, rfl, pure_hpA _⟩, by (repeat (first | exact ObP.nil | refine ObP.cons (.inl rfl) ?_ | refine ObP.cons (.inr (fun _ => rfl)) ?_ | refine ObP.cons (.inr (ob_box (fl_noPt _ _))) ?_ | refine ObP.cons (.inr (ob_gb _ _)) ?_))⟩ ⟨(.refl _), ⟨(.refl _), ⟨(.refl _), ⟨(.refl _), ⟨(.refl _), ⟨(.refl _), trivial⟩⟩⟩⟩⟩⟩ rfl ?_
    rintro nl2 ⟨z20, z21⟩ h
    cases nl2 with
    | zero => exact none_ne h
    | succ nl2 =>
     refine c_sr ?_
     refine o_s (.t (.d (.lit (.bool (decide (z20 < (x18.wait_.length : Int))))))) (g0 rfl) rfl rfl rfl ?_
     refine o_nil ?_
     repeat (first | refine k1 ?_ | refine k4 ?_)
     refine c_seq ?_
     rcases bif_some h with ⟨h22, h⟩ | ⟨h22, h⟩
     ·
      refine c_t h22 rfl ?_
      refine c_skip ?_
      repeat (first | refine k1 ?_ | refine k4 ?_)
      refine c_seq ?_
      refine c_block ?_
      refine c_sr ?_
      refine o_s (.t (.d (.lit (.int .i64 z20)))) (g0 rfl) rfl rfl rfl ?_
      obtain ⟨x23, h24, h⟩ := bind_some h
      refine o_c (g0 rfl) rfl rfl rfl (idxE h24) (idxC h24) ?_
      refine o_s (.t (.agg ([D.lit (.int .i64 x23.n_)] ++ ar cU8 (0 : UInt8) x23.b_ 0 64))) (g0 rfl) rfl rfl (by kernel_rfl) ?_
      refine o_s (.box ([T.d (.lit (.int .i64 0))] ++ List.map T.d (ar cU8 (0 : UInt8) ([] : (List UInt8)) 0 64))) (g0 rfl) rfl rfl (by kernel_rfl) ?_
      refine o_s (.t (.d (.lit (.int .i64 z20)))) (g0 rfl) rfl rfl rfl ?_
      refine o_st (b := 6) (.box ([T.d (.lit (.int .i64 x23.n_))] ++ List.map T.d (ar cU8 (0 : UInt8) x23.b_ 0 64))) (g0 rfl) rfl rfl (by kernel_rfl) ?_
      refine o_nil ?_
      repeat (first | refine k1 ?_ | refine k4 ?_)
      refine c_seq ?_
      refine c_sr ?_
      refine o_s (.t (.d (.lit (.int .i64 z20)))) (g0 rfl) rfl rfl rfl ?_
      refine o_s (.t (.d (.seq 1 (bytesD p1)))) (g0 rfl) rfl rfl rfl ?_
      refine o_c (g0 rfl) rfl rfl rfl (lenE _ _) trivial ?_
      refine o_s (.t (.d (.lit (.bool (decide (z20 ≥ (p1.length : Int))))))) (g0 rfl) rfl rfl rfl ?_
      refine o_nil ?_
      repeat (first | refine k1 ?_ | refine k4 ?_)
      rcases bif_some h with ⟨h25, h⟩ | ⟨h25, h⟩
      ·
       refine c_t h25 rfl ?_
       refine c_exit ?_
       repeat (first | refine k1 ?_ | refine k2 ?_ | refine k3 ?_ | refine k4 ?_ | refine k5 ?_ | refine k6 ?_ | refine k7 rfl ?_)
       exact ⟨z21, [], h, rfl, ⟨.inr ⟨_, rfl, pure_hpA _⟩, by (repeat (first | exact ObP.nil | refine ObP.cons (.inl rfl) ?_ | refine ObP.cons (.inr (fun _ => rfl)) ?_ | refine ObP.cons (.inr (ob_box (fl_noPt _ _))) ?_ | refine ObP.cons (.inr (ob_gb _ _)) ?_))⟩, ⟨(.refl _), ⟨(.refl _), trivial⟩⟩, rfl⟩
      ·
       refine c_f h25 rfl ?_
       refine c_skip ?_
       repeat (first | refine k1 ?_ | refine k4 ?_)
       refine c_sr ?_
       refine o_s (.t (.d (.seq 1 (bytesD p1)))) (g0 rfl) rfl rfl rfl ?_
       refine o_s (.t (.d (.lit (.int .i64 z20)))) (g0 rfl) rfl rfl rfl ?_
       obtain ⟨x26, h27, h⟩ := bind_some h
       refine o_c (g0 rfl) rfl rfl rfl (idxE h27) (idxC h27) ?_
       refine o_s (.t (.d (.lit (.int .u8 (x26.toNat : Int))))) (g0 rfl) rfl rfl rfl ?_
       refine o_c (g0 rfl) rfl rfl rfl (congrArg (fun z => A.t (.d (.lit (.int .i64 z)))) (i64_u8 _)) trivial ?_
       refine o_of (e := [(30, .t (.d (.lit (.int .i64 (if 64 < (x26.toNat : Int) then 64 else (x26.toNat : Int))))))]) (g0 rfl) (h_min (Mk.refl _) rfl rfl rfl rfl rfl) rfl ?_
       refine o_s (.t (.d (.lit (.int .i64 (if 64 < (x26.toNat : Int) then 64 else (x26.toNat : Int)))))) (g0 rfl) rfl rfl rfl ?_
       refine o_nil ?_
       repeat (first | refine k1 ?_ | refine k4 ?_)
       refine c_fz (pins := _) 6 (.imm ([D.lit (.int .i64 x23.n_)] ++ ar cU8 (0 : UInt8) x23.b_ 0 64)) rfl rfl rfl (by kernel_rfl) ?_
       refine c_draw mixed (by kernel_rfl) ?_
       refine d_h0 [] (e := [(31, .t (.hpt (cd 1 i17) 0))]) (ks := [31]) rfl (dg0 rfl) rfl rfl (fun S' hM hok => h_mv hM (.inl rfl) ((cpO_pt rfl).trans (pt_eq_some h16)) rfl (hok _ rfl rfl)) rfl ?_
       refine d_h0 [] (e := [(32, .t (.hpt (cd 1 i17) 0))]) (ks := [32]) rfl (dg0 rfl) rfl rfl (fun S' hM hok => h_nc hM rfl rfl rfl rfl (hok _ rfl rfl)) rfl ?_
       refine d_h0 [] (e := [(33, .t (.hpt (cd 1 i17) 0))]) (ks := [33]) rfl (dg0 rfl) rfl rfl (fun S' hM hok => h_fd hM rfl rfl rfl rfl rfl (hok _ rfl rfl)) rfl ?_
       obtain ⟨x28, h29, h⟩ := bind_some h
       refine d_h (e := [(34, .t (.hvw (cd 2 x28.kept_.1) 0 119 64 x28.kept_.2))]) (ks := [34]) rfl (dg0 rfl) rfl rfl (fun S' hM hk hok => h_ld hM hk rfl rfl rfl (gl_dk h29) rfl rfl rfl (hok _ rfl rfl)) rfl ?_
       refine d_s (.imm ([D.lit (.int .i64 x23.n_)] ++ ar cU8 (0 : UInt8) x23.b_ 0 64)) rfl (dg0 rfl) rfl rfl rfl (by kernel_rfl) ?_
       refine d_s (.t (.d (.lit (.int .i64 x23.n_)))) rfl (dg0 rfl) rfl rfl rfl rfl ?_
       obtain ⟨x30, h31, h⟩ := bind_some h
       obtain ⟨x32, h33, h⟩ := bind_some h
       obtain ⟨x34, h35, h⟩ := bind_some h
       refine d_h0 [] (e := [(37, .t (.hpt (cd 2 x28.kept_.1) (0 + Int.toNat x23.n_ * 64)))]) (ks := [37]) rfl (dg0 rfl) rfl rfl (fun S' hM hok => h_ix hM rfl rfl rfl rfl (idxV (lenI_eq h33) h35) rfl rfl (hok _ rfl rfl)) rfl ?_
       refine d_s (.t (.d (.lit (.int .i64 (if 64 < (x26.toNat : Int) then 64 else (x26.toNat : Int)))))) rfl (dg0 rfl) rfl rfl rfl rfl ?_
       obtain ⟨x36, h37, h⟩ := bind_some h
       refine d_h (e := [(39, .t (.hvw (cd 2 x28.kept_.1) ((0 + Int.toNat x23.n_ * 64) + Int.toNat 0 * 1) 0 1 (Int.toNat (if 64 < (x26.toNat : Int) then 64 else (x26.toNat : Int)) - Int.toNat 0)))]) (ks := [39]) rfl (dg0 rfl) rfl rfl (fun S' hM hk hok => h_slah hM hk rfl rfl (gl_sec h31) rfl rfl rfl rfl (fl_room2 (c := cA64_cU8) (k := 64) (q := 0) h35 (fun _ => (by kernel_rfl)) rfl) rfl (vcut_iff h37) rfl rfl (hok _ rfl rfl)) rfl ?_
       refine d_s (.imm (ar cU8 (0 : UInt8) x23.b_ 0 64)) rfl (dg0 rfl) rfl rfl rfl (by kernel_rfl) ?_
       refine d_s (.t (.d (.lit (.int .i64 (if 64 < (x26.toNat : Int) then 64 else (x26.toNat : Int)))))) rfl (dg0 rfl) rfl rfl rfl rfl ?_
       obtain ⟨x38, h39, h⟩ := bind_some h
       refine d_h0 [] (e := [(42, .t (.d (.seq 1 (bytesD x38))))]) (ks := [42]) rfl (dg0 rfl) rfl rfl (fun S' hM hok => h_slim (c := cU8) (z := (0 : UInt8)) hM rfl rfl (fun _ => rfl) rfl rfl rfl rfl rfl rfl rfl rfl h39 rfl (hok _ rfl rfl)) rfl ?_
       refine d_h (e := [(HK, .hp (hpA (z21.st_sec x28.kept_.1 (x30.set (Int.toNat x23.n_) (cpyL (padA (0 : UInt8) x34 0 64) 0 (Int.toNat (if 64 < (x26.toNat : Int) then 64 else (x26.toNat : Int)) - Int.toNat 0) x38))))), (43, .t (.d (.lit (.int .i64 ((min (List.map cU8 x38).length (Int.toNat (if 64 < (x26.toNat : Int) then 64 else (x26.toNat : Int)) - Int.toNat 0) : Nat) : Int)))))]) (ks := [HK, 43]) rfl (dg0 rfl) rfl rfl (fun S' hM hk hok => h_cpyh hM hk rfl rfl rfl rfl rfl (gl_sec h31) rfl (map_row (c := cU8) (k := 1) (fun _ => rfl) _) (fl_room2 (c := cA64_cU8) (k := 64) (q := 0) h35 (fun _ => (by kernel_rfl)) (Nat.ble_eq.mpr (by have := vcut_iff h37; omega))) (fl_put3 (c := cA64_cU8) (k := 64) h35 (cpyL (padA (0 : UInt8) x34 0 64) 0 (Int.toNat (if 64 < (x26.toNat : Int) then 64 else (x26.toNat : Int)) - Int.toNat 0) x38) (fun _ => (by kernel_rfl)) (arr_cpy (c := cU8) (z := (0 : UInt8)) (fun _ => rfl) (by have := vcut_iff h37; omega)) (Nat.le_trans (cpy_len (c := cU8) (fun _ => rfl) _ _) (by have := vcut_iff h37; omega))) rfl (su_sec (x' := (x30.set (Int.toNat x23.n_) (cpyL (padA (0 : UInt8) x34 0 64) 0 (Int.toNat (if 64 < (x26.toNat : Int) then 64 else (x26.toNat : Int)) - Int.toNat 0) x38))) h31) rfl (hok _ rfl rfl)) rfl ?_
       refine d_nil (by kernel_rfl) ?_
       repeat (first | refine k1 ?_ | refine k2 ?_ | refine k3 ?_ | refine k4 ?_ | refine k5 ?_ | refine k6 ?_ | refine k7 rfl ?_)
       refine c_region ?_
       refine o_s (.t (.d (.lit (.int .i64 (wi (z20 + 1)))))) (g0 rfl) rfl rfl rfl ?_
       refine o_s (.t (.d (.lit (.int .i64 (wi (z20 + 1)))))) (g0 rfl) rfl rfl rfl ?_
       refine o_nil ?_
       repeat (first | refine k1 ?_ | refine k4 ?_)
       exact ⟨nl2, ((wi (z20 + 1)), (z21.st_sec x28.kept_.1 (x30.set (Int.toNat x23.n_) (cpyL (padA (0 : UInt8) x34 0 64) 0 (Int.toNat (if 64 < (x26.toNat : Int) then 64 else (x26.toNat : Int)) - Int.toNat 0) x38)))), [], Nat.lt_succ_self nl2, h, rfl, ⟨.inr ⟨_, rfl, pure_hpA _⟩, by (repeat (first | exact ObP.nil | refine ObP.cons (.inl rfl) ?_ | refine ObP.cons (.inr (fun _ => rfl)) ?_ | refine ObP.cons (.inr (ob_box (fl_noPt _ _))) ?_ | refine ObP.cons (.inr (ob_gb _ _)) ?_))⟩, ⟨(.refl _), ⟨(.refl _), ⟨(.refl _), ⟨(.refl _), ⟨(.refl _), ⟨(.refl _), trivial⟩⟩⟩⟩⟩⟩, rfl⟩
     ·
      refine c_f h22 rfl ?_
      refine c_exit ?_
      repeat (first | refine k1 ?_ | refine k2 ?_ | refine k3 ?_ | refine k4 ?_ | refine k5 ?_ | refine k6 ?_ | refine k7 rfl ?_)
      exact ⟨z21, [], h, rfl, ⟨.inr ⟨_, rfl, pure_hpA _⟩, by (repeat (first | exact ObP.nil | refine ObP.cons (.inl rfl) ?_ | refine ObP.cons (.inr (fun _ => rfl)) ?_ | refine ObP.cons (.inr (ob_box (fl_noPt _ _))) ?_ | refine ObP.cons (.inr (ob_gb _ _)) ?_))⟩, ⟨(.refl _), ⟨(.refl _), trivial⟩⟩, rfl⟩
  ·
   rintro y4 h
   refine c_sr ?_
   refine o_of (e := [(45, .t ((ptT 1 p0)))]) (g0 rfl) (h_mv (Mk.refl _) (.inl rfl) (cpO_pt rfl) rfl rfl) rfl ?_
   refine o_of (e := [(46, .t ((ptT 1 p0)))]) (g0 rfl) (h_mv (Mk.refl _) (.inl rfl) (cpO_pt rfl) rfl rfl) rfl ?_
   refine o_of (e := [(47, .t ((ptT 1 p0)))]) (g0 rfl) (h_mv (Mk.refl _) (.inl rfl) (cpO_pt rfl) rfl rfl) rfl ?_
   refine o_of (e := [(48, .t ((ptT 1 p0)))]) (g0 rfl) (h_mv (Mk.refl _) (.inl rfl) (cpO_pt rfl) rfl rfl) rfl ?_
   refine o_of (e := [(49, .t ((ptT 1 p0)))]) (g0 rfl) (h_mv (Mk.refl _) (.inl rfl) (cpO_pt rfl) rfl rfl) rfl ?_
   rcases ptM_some h with ⟨h5, h⟩ | ⟨i6, h5, h⟩
   ·
    exact none_ne h
   ·
    refine o_of (e := [(50, .t (.hpt (cd 1 i6) 0))]) (g0 rfl) (h_nc (Mk.refl _) rfl (cpO_pt rfl) (ptT_some h5) rfl rfl) rfl ?_
    refine o_of (e := [(51, .t (.hpt (cd 1 i6) 0))]) (g0 rfl) (h_fd (Mk.refl _) rfl rfl rfl rfl rfl rfl) rfl ?_
    obtain ⟨x7, h8, h⟩ := bind_some h
    refine o_of (e := [(52, .t (.hvw (cd 2 x7.kept_.1) 0 119 64 x7.kept_.2))]) (g0 rfl) (h_ld (Mk.refl _) rfl rfl rfl rfl (gl_dk h8) rfl rfl rfl rfl) rfl ?_
    obtain ⟨x9, h10, h⟩ := bind_some h
    obtain ⟨x11, h12, h⟩ := bind_some h
    obtain ⟨x13, h14, h⟩ := bind_some h
    rcases bif_some h with ⟨h15, h⟩ | ⟨h15, h⟩
    ·
     exact none_ne h
    ·
     refine o_of (e := [(HK, .hp (hpA (y4.nw_sec x13))), (53, .t (.hvw (cd 2 (y4.ln_sec, x13.length).1) 0 119 64 (y4.ln_sec, x13.length).2))]) (g0 rfl) (h_lookH (cc := cA64_cU8) (Mk.refl _) rfl rfl rfl rfl rfl rfl rfl rfl (fc_slices_Clone_sector _ _ h14) (.cons (.d (.hv (l := fl (dT cA64_cU8) x9) (rs := List.map cA64_cU8 x9) (.inr ⟨_, rfl, gl_sec h10⟩) (map_row (c := cA64_cU8) (k := 64) (fun _ => (by kernel_rfl)) _) ((List.length_map ..).trans (lenI_eq h12)) (whole_cells (c := cA64_cU8) (fun _ => (by kernel_rfl)) (lenI_eq h12)))) .nil) (by rw [h15]; rfl) rfl (fun _ => (by kernel_rfl)) (fr_sec _) (nw_sec _ x13)) rfl ?_
     refine o_of (e := [(54, .t (.hpt (cd 1 i6) 0))]) (g0 rfl) (h_nc (Mk.refl _) rfl (cpO_pt rfl) (ptT_some h5) rfl rfl) rfl ?_
     refine o_of (e := [(55, .t (.hpt (cd 1 i6) 2))]) (g0 rfl) (h_fd (Mk.refl _) rfl rfl rfl rfl rfl rfl) rfl ?_
     refine o_of (e := [(HK, .hp (hpA ((y4.nw_sec x13).st_dk i6 (S_disk_Disk.mk x7.kept_ x7.now_ [] x7.fuse_ x7.off_ x7.lives_))))]) (g0 rfl) (h_stw (Mk.refl _) rfl rfl rfl rfl rfl (gl_dk h8) rfl rfl (Nat.le_of_ble_eq_true rfl) (.cons (.refl _) (.cons (.refl _) (.cons (.nilOwn _ _) (.cons (.refl _) (.cons (.refl _) (.cons (.refl _) .nil)))))) rfl (su_dk (x' := (S_disk_Disk.mk x7.kept_ x7.now_ [] x7.fuse_ x7.off_ x7.lives_)) h8)) rfl ?_
     refine o_of (e := [(56, .t (.hpt (cd 1 i6) 0))]) (g0 rfl) (h_nc (Mk.refl _) rfl (cpO_pt rfl) (ptT_some h5) rfl rfl) rfl ?_
     refine o_of (e := [(57, .t (.hpt (cd 1 i6) 1))]) (g0 rfl) (h_fd (Mk.refl _) rfl rfl rfl rfl rfl rfl) rfl ?_
     refine o_of (e := [(HK, .hp (hpA (((y4.nw_sec x13).st_dk i6 (S_disk_Disk.mk x7.kept_ x7.now_ [] x7.fuse_ x7.off_ x7.lives_)).st_dk i6 (S_disk_Disk.mk x7.kept_ (y4.ln_sec, x13.length) [] x7.fuse_ x7.off_ x7.lives_))))]) (g0 rfl) (h_st (Mk.refl _) rfl rfl rfl rfl rfl (gl_dk (set_get h8)) rfl rfl (Nat.le_of_ble_eq_true rfl) rfl (su_dk (x' := (S_disk_Disk.mk x7.kept_ (y4.ln_sec, x13.length) [] x7.fuse_ x7.off_ x7.lives_)) (set_get h8))) rfl ?_
     refine o_of (e := [(58, .t (.hpt (cd 1 i6) 0))]) (g0 rfl) (h_nc (Mk.refl _) rfl (cpO_pt rfl) (ptT_some h5) rfl rfl) rfl ?_
     refine o_of (e := [(59, .t (.hpt (cd 1 i6) 3))]) (g0 rfl) (h_fd (Mk.refl _) rfl rfl rfl rfl rfl rfl) rfl ?_
     refine o_of (e := [(HK, .hp (hpA ((((y4.nw_sec x13).st_dk i6 (S_disk_Disk.mk x7.kept_ x7.now_ [] x7.fuse_ x7.off_ x7.lives_)).st_dk i6 (S_disk_Disk.mk x7.kept_ (y4.ln_sec, x13.length) [] x7.fuse_ x7.off_ x7.lives_)).st_dk i6 (S_disk_Disk.mk x7.kept_ (y4.ln_sec, x13.length) [] (-1) x7.off_ x7.lives_))))]) (g0 rfl) (h_st (Mk.refl _) rfl rfl rfl rfl rfl (gl_dk (set_get (set_get h8))) rfl rfl (Nat.le_of_ble_eq_true rfl) rfl (su_dk (x' := (S_disk_Disk.mk x7.kept_ (y4.ln_sec, x13.length) [] (-1) x7.off_ x7.lives_)) (set_get (set_get h8)))) rfl ?_
     refine o_of (e := [(60, .t (.hpt (cd 1 i6) 0))]) (g0 rfl) (h_nc (Mk.refl _) rfl (cpO_pt rfl) (ptT_some h5) rfl rfl) rfl ?_
     refine o_of (e := [(61, .t (.hpt (cd 1 i6) 4))]) (g0 rfl) (h_fd (Mk.refl _) rfl rfl rfl rfl rfl rfl) rfl ?_
     refine o_of (e := [(HK, .hp (hpA (((((y4.nw_sec x13).st_dk i6 (S_disk_Disk.mk x7.kept_ x7.now_ [] x7.fuse_ x7.off_ x7.lives_)).st_dk i6 (S_disk_Disk.mk x7.kept_ (y4.ln_sec, x13.length) [] x7.fuse_ x7.off_ x7.lives_)).st_dk i6 (S_disk_Disk.mk x7.kept_ (y4.ln_sec, x13.length) [] (-1) x7.off_ x7.lives_)).st_dk i6 (S_disk_Disk.mk x7.kept_ (y4.ln_sec, x13.length) [] (-1) false x7.lives_))))]) (g0 rfl) (h_st (Mk.refl _) rfl rfl rfl rfl rfl (gl_dk (set_get (set_get (set_get h8)))) rfl rfl (Nat.le_of_ble_eq_true rfl) rfl (su_dk (x' := (S_disk_Disk.mk x7.kept_ (y4.ln_sec, x13.length) [] (-1) false x7.lives_)) (set_get (set_get (set_get h8))))) rfl ?_
     refine o_nil ?_
     repeat (first | refine k1 ?_ | refine k4 ?_)
     refine c_sr ?_
     refine o_of (e := [(62, .t (.hpt (cd 1 i6) 0))]) (g0 rfl) (h_mv (Mk.refl _) (.inl rfl) ((cpO_pt rfl).trans (pt_eq_some h5)) rfl rfl) rfl ?_
     refine o_of (e := [(63, .t (.hpt (cd 1 i6) 0))]) (g0 rfl) (h_nc (Mk.refl _) rfl rfl rfl rfl rfl) rfl ?_
     refine o_of (e := [(64, .t (.hpt (cd 1 i6) 5))]) (g0 rfl) (h_fd (Mk.refl _) rfl rfl rfl rfl rfl rfl) rfl ?_
     refine o_of (e := [(65, .t (.d (.lit (.int .i64 ((S_disk_Disk.mk x7.kept_ (y4.ln_sec, x13.length) [] (-1) false x7.lives_).lives_)))))]) (g0 rfl) (h_ld (Mk.refl _) rfl rfl rfl rfl (gl_dk (set_get (set_get (set_get (set_get h8))))) rfl rfl rfl rfl) rfl ?_
     refine o_s (.t (.d (.lit (.int .i64 (wi (((S_disk_Disk.mk x7.kept_ (y4.ln_sec, x13.length) [] (-1) false x7.lives_).lives_) + 1)))))) (g0 rfl) rfl rfl rfl ?_
     refine o_of (e := [(67, .t (.hpt (cd 1 i6) 0))]) (g0 rfl) (h_nc (Mk.refl _) rfl rfl rfl rfl rfl) rfl ?_
     refine o_of (e := [(68, .t (.hpt (cd 1 i6) 5))]) (g0 rfl) (h_fd (Mk.refl _) rfl rfl rfl rfl rfl rfl) rfl ?_
     refine o_of (e := [(HK, .hp (hpA ((((((y4.nw_sec x13).st_dk i6 (S_disk_Disk.mk x7.kept_ x7.now_ [] x7.fuse_ x7.off_ x7.lives_)).st_dk i6 (S_disk_Disk.mk x7.kept_ (y4.ln_sec, x13.length) [] x7.fuse_ x7.off_ x7.lives_)).st_dk i6 (S_disk_Disk.mk x7.kept_ (y4.ln_sec, x13.length) [] (-1) x7.off_ x7.lives_)).st_dk i6 (S_disk_Disk.mk x7.kept_ (y4.ln_sec, x13.length) [] (-1) false x7.lives_)).st_dk i6 (S_disk_Disk.mk x7.kept_ (y4.ln_sec, x13.length) [] (-1) false (wi (((S_disk_Disk.mk x7.kept_ (y4.ln_sec, x13.length) [] (-1) false x7.lives_).lives_) + 1))))))]) (g0 rfl) (h_st (Mk.refl _) rfl rfl rfl rfl rfl (gl_dk (set_get (set_get (set_get (set_get h8))))) rfl rfl (Nat.le_of_ble_eq_true rfl) rfl (su_dk (x' := (S_disk_Disk.mk x7.kept_ (y4.ln_sec, x13.length) [] (-1) false (wi (((S_disk_Disk.mk x7.kept_ (y4.ln_sec, x13.length) [] (-1) false x7.lives_).lives_) + 1)))) (set_get (set_get (set_get (set_get h8)))))) rfl ?_
     refine o_nil ?_
     repeat (first | refine k1 ?_ | refine k4 ?_)
     refine c_sr ?_
     refine o_s (.t (.d (.lit (.int .i64 0)))) (g0 rfl) rfl rfl rfl ?_
     refine o_nil ?_
     repeat (first | refine k1 ?_ | refine k4 ?_)
     refine c_ret ?_
     repeat (first | refine k3 ?_ | refine k5 ?_)
     obtain rfl := Option.some.inj h
     exact ⟨⟨_, rfl, (.refl _)⟩, trivial, rfl⟩

end Go.Proofs.Ytjomnccladjpgaa
