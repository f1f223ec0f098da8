/-
 Walks of functions: each function does what its model tells. Printed by a program of this claim's own (gen.py) off the given translation.
-/
import Derived.Test.YtjomnccladjpgaaD12
import Derived.Test.YtjomnccladjpgaaD11
import Derived.Test.YtjomnccladjpgaaD09
import Derived.Test.YtjomnccladjpgaaD08
set_option linter.unusedVariables false
set_option linter.unusedSimpArgs false
namespace Go.Proofs.Ytjomnccladjpgaa
open Go Go.RowKit
set_option linter.unusedVariables false
set_option maxHeartbeats 4000000
set_option maxRecDepth 20000
theorem zH6 (p0 : Int) (w0 : Hp) (r : ((Option Nat) × Int × Hp)) (h : zDs p0 w0 = some r) : FCH Try.prog 12 [.t (.d (.lit (.int .i64 p0)))] [] [] (hpA w0) (hpA r.2.2) (.tup [(ptT 1 r.1), .d (.lit (.int .i64 r.2.1))]) := by
 refine qY (rs := [.tmp 2, .tmp 3]) (n := 16) [0, 1, 2] Try.func12 rfl rfl (Nat.le_of_ble_eq_true rfl) rfl (pins := []) rfl (L := [(HK, .hp (hpA w0)), (OB + 0, .free), (OB + 1, .free), (OB + 2, .free), (0, .i p0)]) rfl (c_sr (o_of (e := [(2, .t (.d (.lit (.pointer none))))]) (g0 rfl) (h_mv mR (.inr rfl) rfl rfl rfl) rfl (o_1 (.i 0) rfl (zB (zL (c_sr (o_m3 (.i p0) (.b (decide (p0 < 1))) (.b (decide (p0 < 1))) rfl ?_)))))))
 rcases zF h with ⟨h1, h⟩ | ⟨h1, h⟩
 ·
  refine o_k2 rfl h1 (o_pT (.b true) h1 rfl (zB (c_t rfl rfl (c_sr (o_of (e := [(2, .t (.d (.lit (.pointer none))))]) (g0 rfl) (h_mv mR (.inr rfl) rfl rfl rfl) rfl (o_1 (.i 2) rfl (zB (zJ ?_))))))))
  cases h; exact eR rfl rfl
 refine o_s (.i p0) (gy rfl rfl rfl h1) rfl rfl rfl (o_s (.b (decide (p0 > 16384))) (gy rfl rfl rfl h1) rfl rfl rfl (o_pF (.b (decide (p0 > 16384))) h1 rfl (zB ?_)))
 refine c_if h rfl (fun h2 h => c_sr (o_of (e := [(2, .t (.d (.lit (.pointer none))))]) (g0 rfl) (h_mv mR (.inr rfl) rfl rfl rfl) rfl (o_1 (.i 2) rfl (zB (zJ ?_))))) fun h2 h => zK (zL (zAC zBM (by kernel_rfl) (d_1 (.i p0) rfl rfl ?_)))
 ·
  cases h; exact eR rfl rfl
 refine bi h fun x3 h4 h => d_h0 [OB + 0] (e := [((OB + 0), .box (fl (dT zDC) (List.replicate x3 ([] : (List UInt8))))), (11, .t (.view 0 0 119 64 x3))]) (ks := [(OB + 0), 11]) rfl (dg0 rfl) rfl rfl (fun S' hM hok => h_mkl hM rfl rfl rfl rfl rfl rfl rfl (by kernel_rfl) rfl h4 (zIV (c := zDC) (z := ([] : (List UInt8))) (by kernel_rfl) x3) rfl (hok _ rfl rfl) rfl rfl) rfl (d_1 (.i p0) rfl rfl ?_)
 refine bi h fun x5 h6 h => d_h0 [OB + 1] (e := [((OB + 1), .box (fl (dT zDC) (List.replicate x5 ([] : (List UInt8))))), (13, .t (.view 1 0 119 64 x5))]) (ks := [(OB + 1), 13]) rfl (dg0 rfl) rfl rfl (fun S' hM hok => h_mkl hM rfl rfl rfl rfl rfl rfl rfl (by kernel_rfl) rfl h6 (zIV (c := zDC) (z := ([] : (List UInt8))) (by kernel_rfl) x5) rfl (hok _ rfl rfl) rfl rfl) rfl (d_h0 [] (e := [(14, .ag [.view 0 0 119 64 x3, .view 1 0 119 64 x5, .n, .i (-1), .b false, .i 0])]) (ks := [14]) rfl (dg0 rfl) rfl rfl (fun S' hM hok => h_bd hM rfl rfl (hok _ rfl rfl) rfl) rfl (d_h0 [OB + 2] (e := [((OB + 2), .box [.view 0 0 119 64 x3, .view 1 0 119 64 x5, .n, .i (-1), .b false, .i 0]), (15, .t (.ptr 2 0))]) (ks := [(OB + 2), 15]) rfl (dg0 rfl) rfl rfl (fun S' hM hok => h_lbox hM rfl rfl rfl rfl (hok _ rfl rfl) rfl rfl) rfl (d_1 (.ref (OB + 2) (0)) rfl rfl (d_1 (.i 0) rfl rfl (zAd (by kernel_rfl) (c_pub 0 (c := cd 2 w0.ln_sec) (f2 := hpA (w0.nw_sec (List.replicate x3 ([] : (List UInt8))))) rfl rfl rfl (zP _ _) (fl_noAg _ _) (fr_sec _) (pbE (fun k => rn_hpA _ _ _ k) (nw_sec _ (List.replicate x3 ([] : (List UInt8))))) rfl (c_pub 1 (c := cd 2 ((w0.nw_sec (List.replicate x3 ([] : (List UInt8)))).ln_sec)) (f2 := hpA ((w0.nw_sec (List.replicate x3 ([] : (List UInt8)))).nw_sec (List.replicate x5 ([] : (List UInt8))))) rfl (congrArg A.box (zHh (zP _ _))) rfl (zP _ _) (fl_noAg _ _) (fr_sec _) (pbE (fun k => rn_hpA _ _ _ k) (nw_sec _ (List.replicate x5 ([] : (List UInt8))))) rfl ?_)))))))
 refine c_pubw 2 (c := cd 1 (((w0.nw_sec (List.replicate x3 ([] : (List UInt8)))).nw_sec (List.replicate x5 ([] : (List UInt8)))).ln_dk)) (f2 := hpA (((w0.nw_sec (List.replicate x3 ([] : (List UInt8)))).nw_sec (List.replicate x5 ([] : (List UInt8)))).nw_dk (zN.mk (w0.ln_sec, x3) ((w0.nw_sec (List.replicate x3 ([] : (List UInt8)))).ln_sec, x5) [] (-1) false 0))) rfl rfl rfl rfl (fr_dk _) (.cons .r (.cons .r (.cons (.nilOwn _ _) (.cons .r (.cons .r (.cons .r .nil)))))) rfl (pbE (fun k => rn_hpA _ _ _ k) (nw_dk _ (zN.mk (w0.ln_sec, x3) ((w0.nw_sec (List.replicate x3 ([] : (List UInt8)))).ln_sec, x5) [] (-1) false 0))) rfl (zJ ?_)
 cases h; exact eR rfl rfl
theorem zCI (p0 : (Option Nat)) (w0 : Hp) (r : Bool) (h : zA8 p0 w0 = some r) : FCH Try.prog 72 [.t ((ptT 1 p0))] [] [] (hpA w0) (hpA w0) (.t (.d (.lit (.bool r)))) := by
 refine qY (rs := [.tmp 2]) (n := 13) [] Try.func72 rfl rfl (Nat.le_of_ble_eq_true rfl) rfl (pins := []) rfl (L := [(HK, .hp (hpA w0)), (0, .t ((ptT 1 p0)))]) rfl (c_sr (o_1 (.b false) rfl (zB (c_sr (o_mv rfl (zM rfl) ?_)))))
 rcases qQ h with ⟨h1, h⟩ | ⟨i2, h1, h⟩
 ·
  refine o_of (e := [(4, .b false)]) (g0 rfl) (h_pn mR (ng := true) rfl rfl rfl (zDp rfl h1) rfl rfl) rfl (o_1 (.b false) rfl (o_k4 rfl rfl (o_k2 rfl rfl (o_pF (.b false) rfl rfl (o_1 (.b false) rfl (zB (zJ ?_)))))))
  cases h; exact eR rfl rfl
 refine o_of (e := [(4, .b true)]) (g0 rfl) (h_pn mR (ng := true) rfl rfl rfl (zDm rfl h1) rfl rfl) rfl (o_1 (.b true) rfl (o_of (e := [(6, .t (.hpt (cd 1 i2) 0))]) (gy rfl rfl rfl rfl) (h_mv mR (.inl rfl) ((zM rfl).trans (yA h1)) rfl rfl) rfl (o_of (e := [(7, .t (.hpt (cd 1 i2) 0))]) (gy rfl rfl rfl rfl) (h_nc mR rfl rfl rfl rfl rfl) rfl (o_of (e := [(8, .t (.hpt (cd 1 i2) 1))]) (gy rfl rfl rfl rfl) (h_fd mR rfl rfl rfl rfl rfl rfl) rfl ?_))))
 refine bi h fun x3 h4 h => o_of (e := [(9, .t (.hvw (cd 2 x3.now_.1) 0 119 64 x3.now_.2))]) (gy rfl rfl rfl rfl) (h_ld mR rfl rfl rfl rfl (zEB h4) rfl rfl rfl rfl) rfl (o_of (e := [(10, .i (x3.now_.2 : Int))]) (gy rfl rfl rfl rfl) (h_ln mR rfl rfl rfl rfl rfl rfl) rfl (o_s (.b (decide ((x3.now_.2 : Int) > 0))) (gy rfl rfl rfl rfl) rfl rfl rfl (o_pT (.b (decide ((x3.now_.2 : Int) > 0))) rfl rfl (o_1 (.b (decide ((x3.now_.2 : Int) > 0))) rfl (zB (zJ ?_))))))
 cases h; exact eR rfl rfl
theorem zBz (p0 : (Option Nat)) (p1 : Int) (w0 : Hp) (r : Int) (h : zAv p0 p1 w0 = some r) : FCH Try.prog 74 [.t ((ptT 1 p0)), .t (.d (.lit (.int .i64 p1)))] [] [] (hpA w0) (hpA w0) (.t (.d (.lit (.int .i64 r)))) := by
 refine qY (rs := [.tmp 4]) (n := 26) [] Try.func74 rfl rfl (Nat.le_of_ble_eq_true rfl) rfl (pins := []) rfl (L := [(HK, .hp (hpA w0)), (0, .t ((ptT 1 p0))), (1, .i p1)]) rfl (c_sr (o_1 (.i 0) rfl (zB (zL (qC (c_sr (o_mv rfl (zM rfl) (bi h fun x1 h2 h => o_cR (zCI _ w0 _ h2) (g0 rfl) rfl (a1 (yJ rfl)) (r1 rfl) (o_m2 (.b (!x1)) (.b (!x1)) rfl (zB ?_))))))))))
 refine c_if h rfl (fun h3 h => c_sr (o_1 (.i 1) rfl (zB (zJ ?_)))) fun h3 h => c_sr (o_mv rfl (zM rfl) ?_)
 ·
  cases h; exact eR rfl rfl
 rcases qQ h with ⟨h4, h⟩ | ⟨i5, h4, h⟩
 ·
  exact qV h
 refine o_nf 4 rfl (pq rfl h4) rfl (bi h fun x6 h7 h => o_ld (.b x6.off_) rfl (zEB h7) rfl (o_1 (.b x6.off_) rfl (zB ?_)))
 refine c_if h rfl (fun h8 h => c_sr (o_1 (.i 30) rfl (zB (zJ ?_)))) fun h8 h => c_sr (o_m3 (.i p1) (.b (decide (p1 < 0))) (.b (decide (p1 < 0))) rfl ?_)
 ·
  cases h; exact eR rfl rfl
 rcases zF h with ⟨h9, h⟩ | ⟨h9, h⟩
 ·
  refine o_k4 rfl h9 (o_k3 rfl h9 (o_pT (.b true) h9 rfl (o_1 (.b true) rfl (zB (c_t rfl rfl (c_sr (o_1 (.i 31) rfl (zB (zJ ?_)))))))))
  cases h; exact eR rfl rfl
 refine o_s (.i p1) (gy rfl rfl rfl h9) rfl rfl rfl (o_of (e := [(19, .t (.hpt (cd 1 i5) 0))]) (gy rfl rfl rfl h9) (h_mv mR (.inl rfl) ((zM rfl).trans (yA h4)) rfl rfl) rfl (o_of (e := [(20, .t (.hpt (cd 1 i5) 0))]) (gy rfl rfl rfl h9) (h_nc mR rfl rfl rfl rfl rfl) rfl (o_of (e := [(21, .t (.hpt (cd 1 i5) 1))]) (gy rfl rfl rfl h9) (h_fd mR rfl rfl rfl rfl rfl rfl) rfl (o_of (e := [(22, .t (.hvw (cd 2 x6.now_.1) 0 119 64 x6.now_.2))]) (gy rfl rfl rfl h9) (h_ld mR rfl rfl rfl rfl (zEB h7) rfl rfl rfl rfl) rfl (o_of (e := [(23, .i (x6.now_.2 : Int))]) (gy rfl rfl rfl h9) (h_ln mR rfl rfl rfl rfl rfl rfl) rfl (o_s (.b (decide (p1 ≥ (x6.now_.2 : Int)))) (gy rfl rfl rfl h9) rfl rfl rfl (o_pF (.b (decide (p1 ≥ (x6.now_.2 : Int)))) h9 rfl (o_1 (.b (decide (p1 ≥ (x6.now_.2 : Int)))) rfl (zB ?_)))))))))
 refine c_if h rfl (fun h10 h => c_sr (o_1 (.i 31) rfl (zB (zJ ?_)))) fun h10 h => zK (c_sr (o_1 (.i 0) rfl (zB (zJ ?_))))
 ·
  cases h; exact eR rfl rfl
 cases h; exact eR rfl rfl
theorem zDg (p0 : (Option Nat)) (w0 : Hp) (r : (Bool × Hp)) (h : zA2 p0 w0 = some r) : FCH Try.prog 75 [.t ((ptT 1 p0))] [] [] (hpA w0) (hpA r.2) (.t (.d (.lit (.bool r.1)))) := by
 refine qY (rs := [.tmp 2]) (n := 27) [] Try.func75 rfl rfl (Nat.le_of_ble_eq_true rfl) rfl (pins := []) rfl (L := [(HK, .hp (hpA w0)), (0, .t ((ptT 1 p0)))]) rfl (c_sr (o_1 (.b false) rfl (zB (zL (c_sr (o_mv rfl (zM rfl) ?_))))))
 rcases qQ h with ⟨h1, h⟩ | ⟨i2, h1, h⟩
 ·
  exact qV h
 refine o_nf 3 rfl (pq rfl h1) rfl (bi h fun x3 h4 h => o_ld (.i x3.fuse_) rfl (zEB h4) rfl (o_1 (.b (decide (x3.fuse_ < 0))) rfl (zB ?_)))
 refine c_if h rfl (fun h5 h => c_sr (o_1 (.b false) rfl (zB (zJ ?_)))) fun h5 h => zK (c_sr (o_mv rfl (pq rfl h1) (o_f3 3 rfl (pq rfl h1) rfl (o_ld (.i x3.fuse_) rfl (zEB h4) rfl (o_1 (.b (x3.fuse_ == 0)) rfl (o_nf 4 rfl rfl rfl ?_))))))
 ·
  cases h; exact eR rfl rfl
 refine o_sH rfl (zEB h4) (su_dk (x' := (zN.mk x3.kept_ x3.now_ x3.wait_ x3.fuse_ (x3.fuse_ == 0) x3.lives_)) h4) rfl rfl (zB (c_sr (o_f3 3 rfl (pq rfl h1) rfl (o_ld (.i ((zN.mk x3.kept_ x3.now_ x3.wait_ x3.fuse_ (x3.fuse_ == 0) x3.lives_).fuse_)) rfl (zEB (zAG h4)) rfl (o_1 (.i (wi (((zN.mk x3.kept_ x3.now_ x3.wait_ x3.fuse_ (x3.fuse_ == 0) x3.lives_).fuse_) - 1))) rfl (o_nf 3 rfl rfl rfl (o_sH rfl (zEB (zAG h4)) (su_dk (x' := (zN.mk x3.kept_ x3.now_ x3.wait_ (wi (((zN.mk x3.kept_ x3.now_ x3.wait_ x3.fuse_ (x3.fuse_ == 0) x3.lives_).fuse_) - 1)) (x3.fuse_ == 0) x3.lives_)) (zAG h4)) rfl rfl ?_)))))))
 refine zB (c_sr (o_f3 4 rfl (pq rfl h1) rfl (o_ld (.b ((zN.mk x3.kept_ x3.now_ x3.wait_ (wi (((zN.mk x3.kept_ x3.now_ x3.wait_ x3.fuse_ (x3.fuse_ == 0) x3.lives_).fuse_) - 1)) (x3.fuse_ == 0) x3.lives_).off_)) rfl (zEB (zAG (zAG h4))) rfl (o_1 (.b ((zN.mk x3.kept_ x3.now_ x3.wait_ (wi (((zN.mk x3.kept_ x3.now_ x3.wait_ x3.fuse_ (x3.fuse_ == 0) x3.lives_).fuse_) - 1)) (x3.fuse_ == 0) x3.lives_).off_)) rfl (zB (zJ ?_))))))
 cases h; exact eR rfl rfl
theorem zBa (p0 : (Option Nat)) (p1 : Int) (p2 : (List UInt8)) (w0 : Hp) (r : (Int × Hp)) (h : qZ p0 p1 p2 w0 = some r) : FCH Try.prog 21 [.t ((ptT 1 p0)), .t (.d (.lit (.int .i64 p1))), .t (.d (.seq 1 (qE p2)))] [] [] (hpA w0) (hpA r.2) (.t (.d (.lit (.int .i64 r.1)))) := by
 refine qY (rs := [.tmp 6]) (n := 43) [] Try.func21 rfl rfl (Nat.le_of_ble_eq_true rfl) rfl (pins := []) rfl (L := [(HK, .hp (hpA w0)), (0, .t ((ptT 1 p0))), (1, .i p1), (2, .y p2)]) rfl (c_sr (o_1 (.i 0) rfl (zB (zL (c_sr (o_mv rfl (zM rfl) (o_1 (.i p1) rfl ?_)))))))
 refine bi h fun x1 h2 h => o_cR (zBz _ _ w0 _ h2) (g0 rfl) rfl (a2 (yJ rfl) (aR rfl)) (r1 rfl) (o_1 (.i x1) rfl (zB (c_sr (o_m2 (.i x1) (.b (x1 != 0)) rfl (zB ?_)))))
 refine c_if h rfl (fun h3 h => c_sr (o_m2 (.i x1) (.i x1) rfl (zB (zJ ?_)))) fun h3 h => zK (zL (c_sr (o_1 (.y p2) rfl (o_c (g0 rfl) rfl rfl rfl (lenE _ _) trivial (o_1 (.b ((p2.length : Int) != 64)) rfl (zB ?_))))))
 ·
  cases h; exact eR rfl rfl
 refine c_if h rfl (fun h4 h => c_sr (o_1 (.i 2) rfl (zB (zJ ?_)))) fun h4 h => zK (c_sr (o_m2 (.i p1) (.y p2) rfl ?_))
 ·
  cases h; exact eR rfl rfl
 refine bi h fun x5 h6 h => o_of (e := [(20, .imm (ar cU8 (0 : UInt8) x5 0 64))]) (g0 rfl) (h_s2a (cc := cU8) (z := (0 : UInt8)) mR rfl rfl rfl rfl h6 rfl rfl) rfl (o_of (e := [(21, .t (.agg (ar cU8 (0 : UInt8) x5 0 64)))]) (g0 rfl) (h_ldim mR rfl rfl rfl (ar_len (k := 1) (fun _ => rfl) _ _ _) rfl rfl) rfl (o_s (.t (.agg ([D.i p1] ++ ar cU8 (0 : UInt8) x5 0 64))) (g0 rfl) rfl rfl (by kernel_rfl) (o_s (.box ([T.i 0] ++ List.map T.d (ar cU8 (0 : UInt8) ([] : (List UInt8)) 0 64))) (g0 rfl) rfl rfl (by kernel_rfl) (o_st (b := 8) (.box ([T.i p1] ++ List.map T.d (ar cU8 (0 : UInt8) x5 0 64))) (g0 rfl) rfl rfl (by kernel_rfl) (zB (zL (zAC zBM (by kernel_rfl) ?_)))))))
 rcases qQ h with ⟨h7, h⟩ | ⟨i8, h7, h⟩
 ·
  refine d_mv rfl rfl ((zM rfl).trans (zAE h7)) (d_mv rfl rfl ((zM rfl).trans (zAE h7)) ?_)
  exact qV h
 refine d_mv rfl rfl (pq rfl h7) (d_mv rfl rfl (pq rfl h7) (d_nc rfl rfl rfl (d_fd 2 rfl rfl rfl (bi h fun x9 h10 h => d_h (e := [(HK, .hp (updF (hpA w0) (cd 1 i8) (.box [.hvw (cd 2 x9.kept_.1) 0 119 64 x9.kept_.2, .hvw (cd 2 x9.now_.1) 0 119 64 x9.now_.2, .d (.seq 65 (List.map zAi x9.wait_)), .i x9.fuse_, .b x9.off_, .i x9.lives_]))), (27, .t (.own 121 65 (List.map zAi x9.wait_)))]) (ks := [HK, 27]) rfl (dg0 rfl) rfl rfl (fun S' hM hk hok => h_htake hM hk rfl rfl rfl (zEB h10) rfl rfl rfl (hok _ rfl rfl) rfl) rfl (d_s (.t (.agg ([D.i p1] ++ ar cU8 (0 : UInt8) x5 0 64))) rfl (dg0 rfl) rfl rfl rfl (by kernel_rfl) (d_1 (.t (.own 121 65 (List.map zAi [(zAX.mk p1 x5)]))) rfl rfl ?_))))))
 refine bi h fun x11 h12 h => d_2c rfl (dg0 rfl) rfl rfl rfl rfl rfl (appE (c := zAi) h12) (appC (c := zAi) h12) (d_nc rfl rfl rfl (d_fd 2 rfl rfl rfl (d_h (e := [(HK, .hp (hpA (w0.st_dk i8 (zN.mk x9.kept_ x9.now_ x11 x9.fuse_ x9.off_ x9.lives_)))), (30, .t (.d (.seq 65 (List.map zAi x11))))]) (ks := [HK, 30]) rfl (dg0 rfl) rfl rfl (fun S' hM hk hok => h_hsto hM hk rfl rfl rfl rfl rfl (if_pos rfl) rfl rfl rfl (hok _ rfl rfl) (su2_dk (x' := (zN.mk x9.kept_ x9.now_ x11 x9.fuse_ x9.off_ x9.lives_)) h10)) rfl (zAd (by kernel_rfl) (zL (zAC zBM (by kernel_rfl) (d_mv rfl rfl (pq rfl h7) (d_nc rfl rfl rfl (d_fd 1 rfl rfl rfl (d_ld (.t (.hvw (cd 2 ((zN.mk x9.kept_ x9.now_ x11 x9.fuse_ x9.off_ x9.lives_).now_).1) 0 119 64 ((zN.mk x9.kept_ x9.now_ x11 x9.fuse_ x9.off_ x9.lives_).now_).2)) rfl rfl (zEB (zAG h10)) rfl (d_1 (.i p1) rfl rfl (d_1 (.ref 8 1) rfl rfl ?_))))))))))))
 refine d_s (.t (.agg (ar cU8 (0 : UInt8) x5 0 64))) rfl (dg0 rfl) rfl rfl rfl (by kernel_rfl) (bi h fun x13 h14 h => bi h fun x15 h16 h => bi h fun x17 h18 h => d_h0 [] (e := [(40, .t (.hpt (cd 2 (((zN.mk x9.kept_ x9.now_ x11 x9.fuse_ x9.off_ x9.lives_).now_).1)) (0 + Int.toNat p1 * 64)))]) (ks := [40]) rfl (dg0 rfl) rfl rfl (fun S' hM hok => h_ix hM rfl rfl rfl rfl (idxV (zAu h16) h18) rfl rfl (hok _ rfl rfl)) rfl (d_h (e := [(HK, .hp (hpA ((w0.st_dk i8 (zN.mk x9.kept_ x9.now_ x11 x9.fuse_ x9.off_ x9.lives_)).st_sec (((zN.mk x9.kept_ x9.now_ x11 x9.fuse_ x9.off_ x9.lives_).now_).1) (x13.set (Int.toNat p1) x5))))]) (ks := [HK]) rfl (dg0 rfl) rfl rfl (fun S' hM hk hok => h_st hM hk rfl rfl rfl rfl (zJf h14) rfl (by kernel_rfl) (zF9 (c := zDC) (k := 64) (q := 0) h18 (fun _ => (by kernel_rfl)) rfl) (zHS (c := zDC) (k := 64) (q := 0) h18 x5 (fun _ => (by kernel_rfl)) (by kernel_rfl) (by kernel_rfl)) (su_sec (x' := (x13.set (Int.toNat p1) x5)) h14)) rfl (zAd (by kernel_rfl) (zL (c_sr (o_mv rfl (pq rfl h7) ?_))))))
 refine bi h fun x19 h20 h => o_cH (zDg _ ((w0.st_dk i8 (zN.mk x9.kept_ x9.now_ x11 x9.fuse_ x9.off_ x9.lives_)).st_sec (((zN.mk x9.kept_ x9.now_ x11 x9.fuse_ x9.off_ x9.lives_).now_).1) (x13.set (Int.toNat p1) x5)) _ h20) (g0 rfl) rfl (a1 aH) (r1 rfl) (zB ?_)
 refine c_if h rfl (fun h21 h => c_sr (o_1 (.i 30) rfl (zB (zJ ?_)))) fun h21 h => zK (c_sr (o_1 (.i 0) rfl (zB (zJ ?_))))
 ·
  cases h; exact eR rfl rfl
 cases h; exact eR rfl rfl
theorem zBn (p0 : (Option Nat)) (w0 : Hp) (r : Int) (h : zAO p0 w0 = some r) : FCH Try.prog 59 [.t ((ptT 1 p0))] [] [] (hpA w0) (hpA w0) (.t (.d (.lit (.int .i64 r)))) := by
 refine qY (rs := [.tmp 2]) (n := 11) [] Try.func59 rfl rfl (Nat.le_of_ble_eq_true rfl) rfl (pins := []) rfl (L := [(HK, .hp (hpA w0)), (0, .t ((ptT 1 p0)))]) rfl (c_sr (o_1 (.i 0) rfl (zB (zL (c_sr (o_mv rfl (zM rfl) (bi h fun x1 h2 h => o_cR (zCI _ w0 _ h2) (g0 rfl) rfl (a1 (yJ rfl)) (r1 rfl) (o_1 (.b (!x1)) rfl (zB ?_)))))))))
 refine c_if h rfl (fun h3 h => c_sr (o_1 (.i 0) rfl (zB (zJ ?_)))) fun h3 h => zK (c_sr (o_mv rfl (zM rfl) ?_))
 ·
  cases h; exact eR rfl rfl
 rcases qQ h with ⟨h4, h⟩ | ⟨i5, h4, h⟩
 ·
  exact qV h
 refine o_nf 1 rfl (pq rfl h4) rfl (bi h fun x6 h7 h => o_ld (.t (.hvw (cd 2 x6.now_.1) 0 119 64 x6.now_.2)) rfl (zEB h7) rfl (o_of (e := [(10, .i (x6.now_.2 : Int))]) (g0 rfl) (h_ln mR rfl rfl rfl rfl rfl rfl) rfl (o_1 (.i (x6.now_.2 : Int)) rfl (zB (zJ ?_)))))
 cases h; exact eR rfl rfl
theorem zFy (p0 : (Option Nat)) (p1 : Int) (w0 : Hp) (r : Bool) (h : zDL p0 p1 w0 = some r) : FCH Try.prog 60 [.t ((ptT 1 p0)), .t (.d (.lit (.int .i64 p1)))] [] [] (hpA w0) (hpA w0) (.t (.d (.lit (.bool r)))) := by
 refine qY (rs := [.tmp 4]) (n := 15) [] Try.func60 rfl rfl (Nat.le_of_ble_eq_true rfl) rfl (pins := []) rfl (L := [(HK, .hp (hpA w0)), (0, .t ((ptT 1 p0))), (1, .i p1)]) rfl (c_sr (o_1 (.b false) rfl (zB (c_sr (o_m3 (.i p1) (.b (decide (p1 ≥ 3))) (.b (decide (p1 ≥ 3))) rfl ?_)))))
 rcases zF h with ⟨h1, h⟩ | ⟨h1, h⟩
 ·
  refine o_s (.i p1) (gy rfl rfl rfl h1) rfl rfl rfl (o_of (e := [(9, .t ((ptT 1 p0)))]) (gy rfl rfl rfl h1) (h_mv mR (.inl rfl) (zM rfl) rfl rfl) rfl (bi h fun x2 h3 h => o_cR (zBn _ w0 _ h3) (gy rfl rfl rfl h1) rfl (a1 (yJ rfl)) (r1 rfl) (o_s (.i (wi (x2 - 2))) (gy rfl rfl rfl h1) rfl rfl rfl (o_s (.i (wi ((wi (x2 - 2)) - 1))) (gy rfl rfl rfl h1) rfl rfl rfl (o_s (.b (decide (p1 ≤ (wi ((wi (x2 - 2)) - 1))))) (gy rfl rfl rfl h1) rfl rfl rfl (o_pT (.b (decide (p1 ≤ (wi ((wi (x2 - 2)) - 1))))) h1 rfl (o_1 (.b (decide (p1 ≤ (wi ((wi (x2 - 2)) - 1))))) rfl (zB (zJ ?_)))))))))
  cases h; exact eR rfl rfl
 refine o_k4 rfl h1 (o_k2 rfl h1 (o_pF (.b false) h1 rfl (o_1 (.b false) rfl (zB (zJ ?_)))))
 cases h; exact eR rfl rfl
theorem zBY (p0 : (Option Nat)) (w0 : Hp) (r : (Int × Hp)) (h : yH p0 w0 = some r) : FCH Try.prog 61 [.t ((ptT 1 p0))] [] [] (hpA w0) (hpA r.2) (.t (.d (.lit (.int .i64 r.1)))) := by
 refine qY (rs := [.tmp 2]) (n := 35) [] Try.func61 rfl rfl (Nat.le_of_ble_eq_true rfl) rfl (pins := []) rfl (L := [(HK, .hp (hpA w0)), (0, .t ((ptT 1 p0)))]) rfl (c_sr (o_1 (.i 0) rfl (zB (zL (c_sr (o_mv rfl (zM rfl) ?_))))))
 refine bi h fun x1 h2 h => o_cR (zBz _ _ w0 _ h2) (g0 rfl) rfl (a2 (yJ rfl) (aR rfl)) (r1 rfl) (o_1 (.i x1) rfl (zB (c_sr (o_m2 (.i x1) (.b (x1 != 0)) rfl (zB ?_)))))
 refine c_if h rfl (fun h3 h => c_sr (o_m2 (.i x1) (.i x1) rfl (zB (zJ ?_)))) fun h3 h => zK (zL (c_sr (o_mv rfl (zM rfl) ?_)))
 ·
  cases h; exact eR rfl rfl
 refine bi h fun x4 h5 h => o_cH (zDg _ w0 _ h5) (g0 rfl) rfl (a1 (yJ rfl)) (r1 rfl) (zB (c_if h rfl (fun h6 h => c_sr (o_1 (.i 30) rfl (zB (zJ ?_)))) fun h6 h => zK ?_))
 ·
  cases h; exact eR rfl rfl
 refine zEM r (fun (y7 : Hp) => [(0, .t ((ptT 1 p0))), (HK, .hp (hpA y7))]) (fun y7 => zB8 p0 y7) ?_ ?_
 ·
  refine c_sr (o_mv rfl (zM rfl) ?_)
  rcases qQ h with ⟨h12, h⟩ | ⟨i13, h12, h⟩
  ·
   exact qV h
  refine o_nf 2 rfl (pq rfl h12) rfl (bi h fun x14 h15 h => o_ld (.t (.d (.seq 65 (List.map zAi x14.wait_)))) rfl (zEB h15) rfl (o_c (g0 rfl) rfl rfl rfl (lenE _ _) trivial (o_1 (.i 0) rfl (zB (qC (c_lp (fun (q : Int × Hp) => [(0, .t ((ptT 1 p0))), (16, .t (.d (.seq 65 (List.map zAi x14.wait_)))), (17, .i (x14.wait_.length : Int)), (18, .i q.1), (HK, .hp (hpA q.2))]) (fun nl2 q => zAg x14 i13 p0 nl2 q.1 q.2) (x14.wait_.length + 1) (0, x4.2) h (fun _ => rfl) rfl rfl ?_))))))
  rintro nl2 ⟨z16, z17⟩ h
  refine c_sr (o_1 (.b (decide (z16 < (x14.wait_.length : Int)))) rfl (zB (zL (c_if h rfl (fun h18 h => zK (zL (qC (c_sr ?_)))) fun h18 h => zAs ?_))))
  ·
   refine bi h fun x19 h20 h => o_c (g0 rfl) rfl rfl rfl (idxE h20) (idxC h20) (o_s (.t (.agg ([D.i x19.n_] ++ ar cU8 (0 : UInt8) x19.b_ 0 64))) (g0 rfl) rfl rfl (by kernel_rfl) (o_s (.box ([T.i 0] ++ List.map T.d (ar cU8 (0 : UInt8) ([] : (List UInt8)) 0 64))) (g0 rfl) rfl rfl (by kernel_rfl) (o_st (b := 5) (.box ([T.i x19.n_] ++ List.map T.d (ar cU8 (0 : UInt8) x19.b_ 0 64))) (g0 rfl) rfl rfl (by kernel_rfl) (zB (zAC zBM (by kernel_rfl) (d_mv rfl rfl (pq rfl h12) (d_nc rfl rfl rfl (d_fd 0 rfl rfl rfl ?_))))))))
   refine bi h fun x21 h22 h => d_ld (.t (.hvw (cd 2 x21.kept_.1) 0 119 64 x21.kept_.2)) rfl rfl (zEB h22) rfl (d_1 (.ref 5 0) rfl rfl (d_1 (.i x19.n_) rfl rfl (d_1 (.ref 5 1) rfl rfl (d_s (.t (.agg (ar cU8 (0 : UInt8) x19.b_ 0 64))) rfl (dg0 rfl) rfl rfl rfl (by kernel_rfl) ?_))))
   refine bi h fun x23 h24 h => bi h fun x25 h26 h => bi h fun x27 h28 h => d_h0 [] (e := [(30, .t (.hpt (cd 2 x21.kept_.1) (0 + Int.toNat x19.n_ * 64)))]) (ks := [30]) rfl (dg0 rfl) rfl rfl (fun S' hM hok => h_ix hM rfl rfl rfl rfl (idxV (zAu h26) h28) rfl rfl (hok _ rfl rfl)) rfl (d_h (e := [(HK, .hp (hpA (z17.st_sec x21.kept_.1 (x23.set (Int.toNat x19.n_) x19.b_))))]) (ks := [HK]) rfl (dg0 rfl) rfl rfl (fun S' hM hk hok => h_st hM hk rfl rfl rfl rfl (zJf h24) rfl (by kernel_rfl) (zF9 (c := zDC) (k := 64) (q := 0) h28 (fun _ => (by kernel_rfl)) rfl) (zHS (c := zDC) (k := 64) (q := 0) h28 x19.b_ (fun _ => (by kernel_rfl)) (by kernel_rfl) (by kernel_rfl)) (su_sec (x' := (x23.set (Int.toNat x19.n_) x19.b_)) h24)) rfl (zAd (by kernel_rfl) (zS (o_m2 (.i (wi (z16 + 1))) (.i (wi (z16 + 1))) rfl (zB ?_)))))
   exact lE ((wi (z16 + 1)), (z17.st_sec x21.kept_.1 (x23.set (Int.toNat x19.n_) x19.b_))) h rfl rfl
  exact lE z17 h rfl rfl
 rintro y7 h
 refine c_sr (o_mv rfl (zM rfl) ?_)
 rcases qQ h with ⟨h8, h⟩ | ⟨i9, h8, h⟩
 ·
  exact qV h
 refine o_nf 2 rfl (pq rfl h8) rfl (bi h fun x10 h11 h => o_of (e := [(HK, .hp (hpA (y7.st_dk i9 (zN.mk x10.kept_ x10.now_ [] x10.fuse_ x10.off_ x10.lives_))))]) (g0 rfl) (h_stw mR rfl rfl rfl rfl rfl (zEB h11) rfl rfl (Nat.le_of_ble_eq_true rfl) (.cons .r (.cons .r (.cons (.nilOwn _ _) (.cons .r (.cons .r (.cons .r .nil)))))) rfl (su_dk (x' := (zN.mk x10.kept_ x10.now_ [] x10.fuse_ x10.off_ x10.lives_)) h11)) rfl (zB (c_sr (o_1 (.i 0) rfl (zB (zJ ?_))))))
 cases h; exact eR rfl rfl
theorem zBj (p0 : (List UInt8)) (o0 n0 : Nat) (p1 : Int) (w0 : Hp) (r : (List UInt8)) (h : yU p0 o0 n0 p1 = some r) : FCH Try.prog 107 [.t (.view 0 o0 0 1 n0), .t (.d (.lit (.int .i64 p1)))] [.box (fl (dT cU8) p0)] [.box (fl (dT cU8) r)] (hpA w0) (hpA w0) (.tup []) := by
 refine qY (rs := []) (n := 16) [] Try.func107 rfl rfl (Nat.le_of_ble_eq_true rfl) rfl (pins := [OB + 0]) rfl (L := [(HK, .hp (hpA w0)), (OB + 0, .box (fl (dT cU8) p0)), (0, .t (.view 0 o0 0 1 n0)), (1, .i p1)]) rfl (c_sr (o_m2 (.i p1) (.t (.view 0 o0 0 1 n0)) rfl (o_of (e := [(9, .i ((n0 : Nat) : Int))]) (g0 rfl) (h_lln mR rfl rfl rfl rfl rfl rfl) rfl (bi h fun x1 h2 h => o_cA (zGd _ _ _ h2) (g0 rfl) rfl (.cons .r (.cons .r .nil)) rfl (o_m5 (.tup [.y x1.1, .i x1.2]) (.y x1.1) (.i x1.2) (.y x1.1) (.i x1.2) rfl (zB (zS (o_m2 (.t (.view 0 o0 0 1 n0)) (.y x1.1) rfl ?_))))))))
 refine bi h fun x3 h4 h => o_of (e := [((OB + 0), .box (fl (dT cU8) x3)), (15, .i ((min x1.1.length n0 : Nat) : Int))]) (g0 rfl) (h_cpy (cc := cU8) (yl := x1.1) mR rfl rfl rfl rfl rfl rfl (fun _ => rfl) rfl h4 rfl rfl rfl) rfl ?_
 obtain ⟨x5, h6, h⟩ := bind_some h
 have h6 : x3.length = p0.length := zAu h6
 refine zB ?_
 cases h
 exact ⟨⟨_, rfl, .r⟩, ⟨rfl, trivial⟩, rfl⟩
theorem zD5 (p0 : Int) (p1 : Int) (w0 : Hp) (r : (List UInt8)) (h : zBP p0 p1 = some r) : FCH Try.prog 62 [.t (.d (.lit (.int .i64 p0))), .t (.d (.lit (.int .i64 p1)))] [] [] (hpA w0) (hpA w0) (.t (.d (.seq 1 (qE r)))) := by
 refine qY (rs := [.tmp 4]) (n := 20) [0] Try.func62 rfl rfl (Nat.le_of_ble_eq_true rfl) rfl (pins := []) rfl (L := [(HK, .hp (hpA w0)), (OB + 0, .free), (0, .i p0), (1, .i p1)]) rfl (c_sr (o_1 (.n) rfl (zB (c_sr (bi h fun x1 h2 h => o_of (e := [((OB + 0), .box (fl (dT cU8) (List.replicate x1 (0 : UInt8)))), (6, .t (.view 0 0 5 1 x1))]) (g0 rfl) (h_mkl mR rfl rfl rfl rfl rfl rfl rfl (by kernel_rfl) rfl h2 (zIV (c := cU8) (z := (0 : UInt8)) (by kernel_rfl) x1) rfl rfl rfl rfl) rfl (o_1 (.t (.view 0 0 5 1 x1)) rfl (zB (c_sr (o_1 (.t (.view 0 0 5 1 x1)) rfl ?_)))))))))
 refine bi h fun x3 h4 h => o_of (e := [(8, .t (.view 0 (0 + Int.toNat 0 * 1) 5 1 (Int.toNat 8 - Int.toNat 0)))]) (g0 rfl) (zFB mR rfl rfl rfl rfl rfl rfl rfl (zBc h4) rfl rfl rfl rfl) rfl (o_1 (.i p0) rfl (bi h fun x5 h6 h => o_of (e := [((OB + 0), .box (fl (dT cU8) x5)), (10, .tup [])]) (g0 rfl) (qL mR rfl (σ := [0]) (fr := []) rfl rfl rfl rfl rfl rfl rfl (zBj _ _ _ _ w0 _ h6) (zD _) rfl (by simp [A.flatO, zP]) (by simp [A.flatO, zP]) rfl (.cons (zEm rfl rfl) (.cons (.plain .r rfl) .nil)) rfl (.tup .nil)) rfl ?_))
 obtain ⟨x7, h8, h⟩ := bind_some h
 have h8 : x5.length = (List.replicate x1 (0 : UInt8)).length := zAu h8; simp only [List.length_set, List.length_replicate] at h8
 refine zB (c_sr (o_1 (.t (.view 0 0 5 1 x1)) rfl (bi h fun x9 h10 h => o_of (e := [(12, .t (.view 0 (0 + Int.toNat 8 * 1) 5 1 (Int.toNat 12 - Int.toNat 8)))]) (g0 rfl) (zFB mR rfl rfl rfl rfl rfl rfl rfl (zBc h10) rfl rfl rfl rfl) rfl (o_1 (.i p1) rfl (bi h fun x11 h12 h => o_of (e := [((OB + 0), .box (fl (dT cU8) x11)), (14, .tup [])]) (g0 rfl) (qL mR rfl (σ := [0]) (fr := []) rfl rfl rfl rfl rfl rfl rfl (zBj _ _ _ _ w0 _ h12) (zD _) rfl (by simp [A.flatO, zP]) (by simp [A.flatO, zP]) rfl (.cons (zEm rfl rfl) (.cons (.plain .r rfl) .nil)) rfl (.tup .nil)) rfl ?_)))))
 obtain ⟨x13, h14, h⟩ := bind_some h
 have h14 : x11.length = x5.length := zAu h14
 refine zB (c_sr (o_1 (.t (.view 0 0 5 1 x1)) rfl (bi h fun x15 h16 h => o_of (e := [(16, .t (.view 0 (0 + Int.toNat 56 * 1) 5 1 (Int.toNat (x1 : Int) - Int.toNat 56)))]) (g0 rfl) (zFB mR rfl rfl rfl rfl rfl rfl rfl (zBc h16) rfl rfl rfl rfl) rfl (o_1 (.i p0) rfl (bi h fun x17 h18 h => o_of (e := [((OB + 0), .box (fl (dT cU8) x17)), (18, .tup [])]) (g0 rfl) (qL mR rfl (σ := [0]) (fr := []) rfl rfl rfl rfl rfl rfl rfl (zBj _ _ _ _ w0 _ h18) (zD _) rfl (by simp [A.flatO, zP]) (by simp [A.flatO, zP]) rfl (.cons (zEm rfl rfl) (.cons (.plain .r rfl) .nil)) rfl (.tup .nil)) rfl ?_)))))
 obtain ⟨x19, h20, h⟩ := bind_some h
 have h20 : x17.length = x11.length := zAu h20
 refine zB (c_sr (o_m2 (.t (.view 0 0 5 1 x1)) (.t (.view 0 0 5 1 x1)) rfl (zB (zJs 4 0 rfl rfl (by first | (simp; done) | (rw [List.length_map]; omega)) (zCm _ _) (zEW (c := cU8) (fun _ => rfl) _) rfl ⟨.inr ⟨_, rfl, zD _⟩, by (repeat (first | exact ObP.nil | refine ObP.cons (.inl rfl) ?_ | refine ObP.cons (.inr (fun _ => rfl)) ?_ | refine ObP.cons (.inr (qW (zP _ _))) ?_ | refine ObP.cons (.inr (zAJ _ _)) ?_))⟩ rfl (zJ ?_)))))
 cases h; exact eR rfl rfl
theorem zGt (p0 : (Option Nat)) (p1 : Int) (w0 : Hp) (r : (Int × Hp)) (h : zCO p0 p1 w0 = some r) : FCH Try.prog 13 [.t ((ptT 1 p0)), .t (.d (.lit (.int .i64 p1)))] [] [] (hpA w0) (hpA r.2) (.t (.d (.lit (.int .i64 r.1)))) := by
 refine qY (rs := [.tmp 4]) (n := 45) [0] Try.func13 rfl rfl (Nat.le_of_ble_eq_true rfl) rfl (pins := []) rfl (L := [(HK, .hp (hpA w0)), (OB + 0, .free), (0, .t ((ptT 1 p0))), (1, .i p1)]) rfl (c_sr (o_1 (.i 0) rfl (zB (zL (qC (c_sr (o_mv rfl (zM rfl) (bi h fun x1 h2 h => o_cR (zBn _ w0 _ h2) (g0 rfl) rfl (a1 (yJ rfl)) (r1 rfl) (o_m2 (.b (x1 == 0)) (.b (x1 == 0)) rfl (zB ?_))))))))))
 refine c_if h rfl (fun h3 h => c_sr (o_1 (.i 1) rfl (zB (zJ ?_)))) fun h3 h => c_sr (o_mv rfl (zM rfl) (o_1 (.i p1) rfl ?_))
 ·
  cases h; exact eR rfl rfl
 refine bi h fun x4 h5 h => o_cR (zFy _ _ w0 _ h5) (g0 rfl) rfl (a2 (yJ rfl) (aR rfl)) (r1 rfl) (o_m2 (.b (!x4)) (.b (!x4)) rfl (zB (c_if h rfl (fun h6 h => c_sr (o_1 (.i 2) rfl (zB (zJ ?_)))) fun h6 h => zK ?_)))
 ·
  cases h; exact eR rfl rfl
 refine zEM r (fun (y7 : Hp) => [(0, .t ((ptT 1 p0))), (1, .i p1), (HK, .hp (hpA y7)), (OB + 0, .free)]) (fun y7 => zCa p0 p1 y7) ?_ ?_
 ·
  refine c_sr (o_1 (.i 1) rfl (zB (qC (c_lp (fun (q : Int × Hp) => [(0, .t ((ptT 1 p0))), (1, .i p1), (5, .i q.1), (HK, .hp (hpA q.2)), (OB + 0, .free)]) (fun nl2 q => zBv p1 p0 nl2 q.1 q.2) (Int.toNat (wi (2 + p1)) + 1) (1, w0) h (fun _ => rfl) rfl rfl ?_))))
  rintro nl2 ⟨z18, z19⟩ h
  refine zL (c_sr (o_m4 (.i z18) (.i p1) (.i (wi (2 + p1))) (.b (decide (z18 < (wi (2 + p1))))) rfl (zB ?_)))
  refine c_if h rfl (fun h20 h => zK (zL (qC (c_sr (o_mv rfl (zM rfl) (o_1 (.i z18) rfl ?_)))))) fun h20 h => zAs ?_
  ·
   refine bi h fun x21 h22 h => o_of (e := [(26, .t (.own 5 1 (qE (List.replicate x21 (0 : UInt8)))))]) (g0 rfl) (h_mko (c := cU8) mR rfl rfl rfl rfl rfl rfl rfl rfl rfl h22 (by first | (unfold qE; rw [List.map_replicate]; rfl) | (rw [List.map_replicate]; rfl)) rfl rfl) rfl (bi h fun x23 h24 h => o_cH (zBa _ _ _ z19 _ h24) (g0 rfl) rfl (a3 (yJ rfl) (aR rfl) (aR rfl)) (r1 rfl) (o_1 (.i x23.1) rfl (zB (c_sr (o_m2 (.i x23.1) (.b (x23.1 != 0)) rfl (zB ?_))))))
   refine c_if h rfl (fun h25 h => c_sr (o_m2 (.i x23.1) (.i x23.1) rfl (zB (zJ ?_)))) fun h25 h => zK (zS (o_m3 (.i z18) (.i (wi (z18 + 1))) (.i (wi (z18 + 1))) rfl (zB ?_)))
   ·
    cases h; exact eR rfl rfl
   exact lE ((wi (z18 + 1)), x23.2) h rfl rfl
  exact lE z19 h rfl rfl
 rintro y7 h
 refine zL (c_sr (o_mv rfl (zM rfl) (bi h fun x8 h9 h => o_cH (zBY _ y7 _ h9) (g0 rfl) rfl (a1 (yJ rfl)) (r1 rfl) (o_1 (.i x8.1) rfl (zB (c_sr (o_m2 (.i x8.1) (.b (x8.1 != 0)) rfl (zB ?_))))))))
 refine c_if h rfl (fun h10 h => c_sr (o_m2 (.i x8.1) (.i x8.1) rfl (zB (zJ ?_)))) fun h10 h => zK (zL (c_sr (o_mv rfl (zM rfl) (o_1 (.i p1) rfl ?_))))
 ·
  cases h; exact eR rfl rfl
 refine bi h fun x11 h12 h => o_cR (zD5 _ _ x8.2 _ h12) (g0 rfl) rfl (a2 (aR rfl) (aR rfl)) (r1 rfl) (bi h fun x13 h14 h => o_cH (zBa _ _ _ x8.2 _ h14) (g0 rfl) rfl (a3 (yJ rfl) (aR rfl) (aR rfl)) (r1 rfl) (o_1 (.i x13.1) rfl (zB (c_sr (o_m2 (.i x13.1) (.b (x13.1 != 0)) rfl (zB ?_))))))
 refine c_if h rfl (fun h15 h => c_sr (o_m2 (.i x13.1) (.i x13.1) rfl (zB (zJ ?_)))) fun h15 h => zK (c_sr (o_mv rfl (zM rfl) ?_))
 ·
  cases h; exact eR rfl rfl
 refine bi h fun x16 h17 h => o_cH (zBY _ x13.2 _ h17) (g0 rfl) rfl (a1 (yJ rfl)) (r1 rfl) (o_1 (.i x16.1) rfl (zB (zJ ?_)))
 cases h; exact eR rfl rfl
theorem zDw (p0 : (Option Nat)) (w0 : Hp) (r : Bool) (h : zBT p0 w0 = some r) : FCH Try.prog 63 [.t ((ptT 1 p0))] [] [] (hpA w0) (hpA w0) (.t (.d (.lit (.bool r)))) := by
 refine qY (rs := [.tmp 2]) (n := 11) [] Try.func63 rfl rfl (Nat.le_of_ble_eq_true rfl) rfl (pins := []) rfl (L := [(HK, .hp (hpA w0)), (0, .t ((ptT 1 p0)))]) rfl (c_sr (o_1 (.b false) rfl (zB (c_sr (o_mv rfl (zM rfl) (bi h fun x1 h2 h => o_cR (zCI _ w0 _ h2) (g0 rfl) rfl (a1 (yJ rfl)) (r1 rfl) (o_1 (.b x1) rfl ?_)))))))
 rcases zF h with ⟨h3, h⟩ | ⟨h3, h⟩
 ·
  refine o_of (e := [(6, .t ((ptT 1 p0)))]) (gy rfl rfl rfl h3) (h_mv mR (.inl rfl) (zM rfl) rfl rfl) rfl ?_
  rcases qQ h with ⟨h4, h⟩ | ⟨i5, h4, h⟩
  ·
   exact qV h
  refine o_of (e := [(7, .t (.hpt (cd 1 i5) 0))]) (gy rfl rfl rfl h3) (h_nc mR rfl (zM rfl) (zFb h4) rfl rfl) rfl (o_of (e := [(8, .t (.hpt (cd 1 i5) 4))]) (gy rfl rfl rfl h3) (h_fd mR rfl rfl rfl rfl rfl rfl) rfl (bi h fun x6 h7 h => o_of (e := [(9, .b x6.off_)]) (gy rfl rfl rfl h3) (h_ld mR rfl rfl rfl rfl (zEB h7) rfl rfl rfl rfl) rfl (o_pT (.b x6.off_) h3 rfl (o_1 (.b x6.off_) rfl (zB (zJ ?_))))))
  cases h; exact eR rfl rfl
 refine o_k4 rfl h3 (o_pF (.b false) h3 rfl (o_1 (.b false) rfl (zB (zJ ?_))))
 cases h; exact eR rfl rfl
theorem zCK (p0 : (Option Nat)) (w0 : Hp) (r : Int) (h : zAB p0 w0 = some r) : FCH Try.prog 64 [.t ((ptT 1 p0))] [] [] (hpA w0) (hpA w0) (.t (.d (.lit (.int .i64 r)))) := by
 refine qY (rs := [.tmp 2]) (n := 10) [] Try.func64 rfl rfl (Nat.le_of_ble_eq_true rfl) rfl (pins := []) rfl (L := [(HK, .hp (hpA w0)), (0, .t ((ptT 1 p0)))]) rfl (c_sr (o_1 (.i 0) rfl (zB (zL (c_sr (o_mv rfl (zM rfl) (bi h fun x1 h2 h => o_cR (zCI _ w0 _ h2) (g0 rfl) rfl (a1 (yJ rfl)) (r1 rfl) (o_1 (.b (!x1)) rfl (zB ?_)))))))))
 refine c_if h rfl (fun h3 h => c_sr (o_1 (.i 0) rfl (zB (zJ ?_)))) fun h3 h => zK (c_sr (o_mv rfl (zM rfl) ?_))
 ·
  cases h; exact eR rfl rfl
 rcases qQ h with ⟨h4, h⟩ | ⟨i5, h4, h⟩
 ·
  exact qV h
 refine o_nf 5 rfl (pq rfl h4) rfl (bi h fun x6 h7 h => o_ld (.i x6.lives_) rfl (zEB h7) rfl (o_1 (.i x6.lives_) rfl (zB (zJ ?_))))
 cases h; exact eR rfl rfl
theorem zCc (p0 : (Option Nat)) (p1 : Int) (w0 : Hp) (r : ((List UInt8) × Int)) (h : zAN p0 p1 w0 = some r) : FCH Try.prog 20 [.t ((ptT 1 p0)), .t (.d (.lit (.int .i64 p1)))] [] [] (hpA w0) (hpA w0) (.tup [.d (.seq 1 (qE r.1)), .d (.lit (.int .i64 r.2))]) := by
 refine qY (rs := [.tmp 4, .tmp 5]) (n := 22) [0] Try.func20 rfl rfl (Nat.le_of_ble_eq_true rfl) rfl (pins := []) rfl (L := [(HK, .hp (hpA w0)), (OB + 0, .free), (0, .t ((ptT 1 p0))), (1, .i p1)]) rfl (c_sr (o_m2 (.n) (.i 0) rfl (zB (zL (c_sr (o_mv rfl (zM rfl) (o_1 (.i p1) rfl ?_)))))))
 refine bi h fun x1 h2 h => o_cR (zBz _ _ w0 _ h2) (g0 rfl) rfl (a2 (yJ rfl) (aR rfl)) (r1 rfl) (o_1 (.i x1) rfl (zB (c_sr (o_m2 (.i x1) (.b (x1 != 0)) rfl (zB ?_)))))
 refine c_if h rfl (fun h3 h => c_sr (o_m3 (.i x1) (.n) (.i x1) rfl (zB (zJ ?_)))) fun h3 h => zK (c_sr (o_mv rfl (zM rfl) ?_))
 ·
  cases h
  exact ⟨⟨_, rfl, (.tup (.cons (.d (.nil _)) (.cons .r .nil)))⟩, trivial, rfl⟩
 rcases qQ h with ⟨h4, h⟩ | ⟨i5, h4, h⟩
 ·
  exact qV h
 refine o_nf 1 rfl (pq rfl h4) rfl (bi h fun x6 h7 h => o_ld (.t (.hvw (cd 2 x6.now_.1) 0 119 64 x6.now_.2)) rfl (zEB h7) rfl (o_1 (.i p1) rfl ?_))
 refine bi h fun x8 h9 h => bi h fun x10 h11 h => bi h fun x12 h13 h => o_of (e := [(19, .t (.hpt (cd 2 x6.now_.1) (0 + Int.toNat p1 * 64)))]) (g0 rfl) (h_ix mR rfl rfl rfl rfl (idxV (zAu h11) h13) rfl rfl rfl) rfl (o_of (e := [(20, .t (.agg (ar cU8 (0 : UInt8) x12 0 64)))]) (g0 rfl) (h_lr mR rfl rfl rfl rfl (zJf h9) (zHD (k := 64) h13 (fun _ => (by kernel_rfl))) (by kernel_rfl) (by kernel_rfl) (by kernel_rfl) rfl rfl) rfl (o_of (e := [((OB + 0), .box (fl (dT cU8) (padA (0 : UInt8) ([] : (List UInt8)) 0 64))), (7, .t (.ptr 0 0))]) (g0 rfl) (h_lnew mR rfl rfl rfl rfl (by kernel_rfl) rfl rfl rfl rfl) rfl (o_of (e := [((OB + 0), .box (fl (dT cU8) (padA (0 : UInt8) x12 0 64)))]) (g0 rfl) (zKC mR rfl rfl rfl rfl rfl rfl (by kernel_rfl) (Nat.le_of_ble_eq_true (by kernel_rfl)) (by kernel_rfl)) rfl (zB (c_sr (o_of (e := [(21, .t (.view 0 0 0 1 64))]) (g0 rfl) (h_sla mR rfl rfl rfl rfl rfl rfl rfl (by kernel_rfl) rfl (by decide) rfl rfl rfl) rfl (o_m2 (.t (.view 0 0 0 1 64)) (.i 0) rfl ?_)))))))
 refine zB (zJs 4 0 rfl rfl (by rw [List.length_map, zGG]) (zCm _ _) (zEW (c := cU8) (fun _ => rfl) _) rfl ⟨.inr ⟨_, rfl, zD _⟩, by (repeat (first | exact ObP.nil | refine ObP.cons (.inl rfl) ?_ | refine ObP.cons (.inr (fun _ => rfl)) ?_ | refine ObP.cons (.inr (qW (zP _ _))) ?_ | refine ObP.cons (.inr (zAJ _ _)) ?_))⟩ rfl (zJ ?_))
 cases h; exact eR rfl rfl
theorem zDO (p0 : (List UInt8)) (r : (Int × Int)) (h : zBH p0 = some r) : FC Try.prog 108 [.t (.d (.seq 1 (qE p0)))] [] (.tup [.d (.lit (.int .i64 r.1)), .d (.lit (.int .i64 r.2))]) := by
 refine zDl (rs := [.tmp 2, .tmp 3]) (n := 31) Try.func108 rfl rfl (Nat.le_of_ble_eq_true rfl) rfl (pins := []) rfl (L := [(0, .y p0)]) rfl (c_sr (o_m2 (.i 0) (.i 0) rfl (zB (zL (qC (c_sr (o_1 (.y p0) rfl (o_c (g0 rfl) rfl rfl rfl (lenE _ _) trivial (o_m2 (.b ((p0.length : Int) == 0)) (.b ((p0.length : Int) == 0)) rfl (zB ?_))))))))))
 refine c_if h rfl (fun h1 h => c_sr (o_m2 (.i 0) (.i 10) rfl (zB (zJ ?_)))) fun h1 h => c_sr (o_1 (.y p0) rfl (o_c (g0 rfl) rfl rfl rfl (lenE _ _) trivial (o_m2 (.b (decide ((p0.length : Int) > 8))) (.b (decide ((p0.length : Int) > 8))) rfl (zB ?_))))
 ·
  cases h
  exact end0 rfl .r
 refine c_if h rfl (fun h2 h => c_sr (o_m2 (.i 0) (.i 2) rfl (zB (zJ ?_)))) fun h2 h => zK (c_sr (o_1 (.t (.d (.lit (.int .u64 0)))) rfl (zB ?_)))
 ·
  cases h
  exact end0 rfl .r
 refine zEM r (fun (y3 : Int) => [(4, .t (.d (.lit (.int .u64 y3))))]) (fun y3 => zCZ y3) ?_ ?_
 ·
  refine c_sr (o_1 (.y p0) rfl (o_c (g0 rfl) rfl rfl rfl (lenE _ _) trivial (o_1 (.i 0) rfl (zB (qC (c_lp (fun (q : Int × Int) => [(4, .t (.d (.lit (.int .u64 q.1)))), (15, .y p0), (16, .i (p0.length : Int)), (17, .i q.2)]) (fun nl2 q => zB5 p0 nl2 q.1 q.2) (p0.length + 1) (0, 0) h (fun _ => rfl) rfl rfl ?_))))))
  rintro nl2 ⟨z5, z6⟩ h
  refine c_sr (o_1 (.b (decide (z6 < (p0.length : Int)))) rfl (zB (zL (c_if h rfl (fun h7 h => zK (zL (qC (c_sr ?_)))) fun h7 h => zAs ?_))))
  ·
   refine bi h fun x8 h9 h => o_c (g0 rfl) rfl rfl rfl (idxE h9) (idxC h9) (o_m2 (.t (.d (.lit (.int .u8 (x8.toNat : Int))))) (.t (.d (.lit (.int .u8 (x8.toNat : Int))))) rfl (zB (zS (o_m3 (.t (.d (.lit (.int .u64 z5)))) (.t (.d (.lit (.int .u64 (IntKind.u64.wrap (z5 * 2 ^ 8)))))) (.t (.d (.lit (.int .u8 (x8.toNat : Int))))) rfl (o_c (g0 rfl) rfl rfl rfl (congrArg (fun z => A.t (.d (.lit (.int .u64 z)))) (u64_u8 _)) trivial (o_m2 (.t (.d (.lit (.int .u64 (IntKind.u64.wrap ((((BitVec.ofInt IntKind.u64.bits (IntKind.u64.wrap (z5 * 2 ^ 8))) ||| (BitVec.ofInt IntKind.u64.bits (x8.toNat : Int))).toNat : Nat) : Int)))))) (.t (.d (.lit (.int .u64 (IntKind.u64.wrap ((((BitVec.ofInt IntKind.u64.bits (IntKind.u64.wrap (z5 * 2 ^ 8))) ||| (BitVec.ofInt IntKind.u64.bits (x8.toNat : Int))).toNat : Nat) : Int)))))) rfl (zB (zS ?_))))))))
   refine o_m2 (.i (wi (z6 + 1))) (.i (wi (z6 + 1))) rfl (zB ?_)
   exact lE ((IntKind.u64.wrap ((((BitVec.ofInt IntKind.u64.bits (IntKind.u64.wrap (z5 * 2 ^ 8))) ||| (BitVec.ofInt IntKind.u64.bits (x8.toNat : Int))).toNat : Nat) : Int)), (wi (z6 + 1))) h rfl rfl
  exact lE z5 h rfl rfl
 rintro y3 h
 refine zL (c_sr (o_m2 (.t (.d (.lit (.int .u64 y3)))) (.b (decide (y3 > 4611686018427387904))) rfl (zB ?_)))
 refine c_if h rfl (fun h4 h => c_sr (o_m2 (.i 0) (.i 11) rfl (zB (zJ ?_)))) fun h4 h => zK (c_sr (o_m4 (.t (.d (.lit (.int .u64 y3)))) (.i (wi y3)) (.i (wi y3)) (.i 0) rfl (zB (zJ ?_))))
 ·
  cases h
  exact end0 rfl .r
 cases h
 exact end0 rfl .r
theorem zD2 (p0 : (List UInt8)) (F1 : Nat) (C1 : List (List D)) (p1 : (UInt8 → Option Bool)) (hp1 : ∀ (a0 : UInt8) r, p1 a0 = some r → FC Try.prog F1 ([.t (.d (.lit (.int .u8 (a0.toNat : Int))))] ++ C1.map A.imm) [] (.t (.d (.lit (.bool r))))) (hf1 : ∃ fn, Try.prog.funcs[F1]? = some fn ∧ fn.body.isNone = false ∧ (fn.name == "runtime.NumGoroutine") = false) (r : Int) (h : zCd p0 p1 = some r) : FC Try.prog 137 [.t (.d (.seq 1 (qE p0))), .t (.d (.clo F1 C1))] [] (.t (.d (.lit (.int .i64 r)))) := by
 refine zDl (rs := [.tmp 4]) (n := 19) Try.func137 rfl rfl (Nat.le_of_ble_eq_true rfl) rfl (pins := []) rfl (L := [(0, .y p0), (1, .t (.d (.clo F1 C1)))]) rfl (c_sr (o_1 (.i 0) rfl (zB (zL (c_sr (o_1 (.y p0) rfl (o_c (g0 rfl) rfl rfl rfl (lenE _ _) trivial (o_1 (.i 0) rfl (zB (qC (c_lp (fun (z1 : Int) => [(0, .y p0), (1, .t (.d (.clo F1 C1))), (7, .i (p0.length : Int)), (8, .i z1)]) (fun nl1 z1 => zA1 p0 p1 nl1 z1) (p0.length + 1) 0 h (fun _ => rfl) rfl rfl ?_)))))))))))
 rintro nl1 z1 h
 refine c_sr (o_1 (.b (decide (z1 < (p0.length : Int)))) rfl (zB (zL ?_)))
 refine c_if h rfl (fun h2 h => zK (zL (qC (c_sr (o_m2 (.i z1) (.i z1) rfl (zB (c_sr ?_))))))) fun h2 h => zAs (c_sr (o_1 (.i (-1)) rfl (zB (zJ ?_))))
 ·
  refine o_m3 (.t (.d (.clo F1 C1))) (.y p0) (.i z1) rfl (bi h fun x3 h4 h => o_c (g0 rfl) rfl rfl rfl (idxE h4) (idxC h4) (o_1 (.t (.d (.lit (.int .u8 (x3.toNat : Int))))) rfl (bi h fun x5 h6 h => o_cc (hp1 _ _ h6) (g0 rfl) rfl rfl rfl rfl hf1.choose_spec.1 hf1.choose_spec.2.1 hf1.choose_spec.2.2 (.cons .r .nil) rfl rfl (zB ?_))))
  refine c_if h rfl (fun h7 h => c_sr (o_m2 (.i z1) (.i z1) rfl (zB (zJ ?_)))) fun h7 h => zK (zS (o_m2 (.i (wi (z1 + 1))) (.i (wi (z1 + 1))) rfl (zB ?_)))
  ·
   cases h
   exact end0 rfl .r
  exact lE (wi (z1 + 1)) h rfl rfl
 cases h
 exact end0 rfl .r
theorem zDM (p0 : (List UInt8)) (F1 : Nat) (C1 : List (List D)) (p1 : (UInt8 → Option Bool)) (hp1 : ∀ (a0 : UInt8) r, p1 a0 = some r → FC Try.prog F1 ([.t (.d (.lit (.int .u8 (a0.toNat : Int))))] ++ C1.map A.imm) [] (.t (.d (.lit (.bool r))))) (hf1 : ∃ fn, Try.prog.funcs[F1]? = some fn ∧ fn.body.isNone = false ∧ (fn.name == "runtime.NumGoroutine") = false) (r : Bool) (h : zB6 p0 p1 = some r) : FC Try.prog 128 [.t (.d (.seq 1 (qE p0))), .t (.d (.clo F1 C1))] [] (.t (.d (.lit (.bool r)))) := by
 refine zDl (rs := [.tmp 4]) (n := 9) Try.func128 rfl rfl (Nat.le_of_ble_eq_true rfl) rfl (pins := []) rfl (L := [(0, .y p0), (1, .t (.d (.clo F1 C1)))]) rfl (c_sr (o_1 (.b false) rfl (zB (c_sr (o_m2 (.y p0) (.t (.d (.clo F1 C1))) rfl (bi h fun x1 h2 h => o_cA (zD2 _ F1 C1 _ hp1 hf1 _ h2) (g0 rfl) rfl (.cons .r (.cons .r .nil)) rfl (o_m2 (.b (decide (x1 ≥ 0))) (.b (decide (x1 ≥ 0))) rfl (zB (zJ ?_)))))))))
 cases h
 exact end0 rfl .r
theorem zFh (p0 : UInt8) (r : Bool) (h : zEI p0 = some r) : FC Try.prog 129 [.t (.d (.lit (.int .u8 (p0.toNat : Int))))] [] (.t (.d (.lit (.bool r)))) := by
 refine zDl (rs := [.tmp 2]) (n := 5) Try.func129 rfl rfl (Nat.le_of_ble_eq_true rfl) rfl (pins := []) rfl (L := [(0, .t (.d (.lit (.int .u8 (p0.toNat : Int)))))]) rfl (c_sr (o_1 (.b false) rfl (zB (c_sr (o_m3 (.t (.d (.lit (.int .u8 (p0.toNat : Int))))) (.b ((p0.toNat : Int) != 0)) (.b ((p0.toNat : Int) != 0)) rfl (zB (zJ ?_)))))))
 cases h
 exact end0 rfl .r
theorem zE7 (p0 : (List UInt8)) (r : Bool) (h : zDI p0 = some r) : FC Try.prog 109 [.t (.d (.seq 1 (qE p0)))] [] (.t (.d (.lit (.bool r)))) := by
 refine zDl (rs := [.tmp 2]) (n := 6) Try.func109 rfl rfl (Nat.le_of_ble_eq_true rfl) rfl (pins := []) rfl (L := [(0, .y p0)]) rfl (c_sr (o_1 (.b false) rfl (zB (c_sr (o_1 (.y p0) rfl (bi h fun x1 h2 h => o_cA (zDM _ 129 [] _ zFh ⟨_, Try.func129, rfl, rfl⟩ _ h2) (g0 rfl) rfl (.cons .r (.cons (.t (.d (.fn _))) .nil)) rfl (o_m2 (.b (!x1)) (.b (!x1)) rfl (zB (zJ ?_)))))))))
 cases h
 exact end0 rfl .r
theorem zEJ (p0 : (Option Nat)) (p1 : Int) (w0 : Hp) (r : (Int × Int × Bool)) (h : zAU p0 p1 w0 = some r) : FCH Try.prog 65 [.t ((ptT 1 p0)), .t (.d (.lit (.int .i64 p1)))] [] [] (hpA w0) (hpA w0) (.tup [.d (.lit (.int .i64 r.1)), .d (.lit (.int .i64 r.2.1)), .d (.lit (.bool r.2.2))]) := by
 refine qY (rs := [.tmp 4, .tmp 5, .tmp 6]) (n := 75) [] Try.func65 rfl rfl (Nat.le_of_ble_eq_true rfl) rfl (pins := []) rfl (L := [(HK, .hp (hpA w0)), (0, .t ((ptT 1 p0))), (1, .i p1)]) rfl (c_sr (o_m3 (.i 0) (.i 0) (.b false) rfl (zB (c_sr (o_mv rfl (zM rfl) (o_1 (.i p1) rfl ?_))))))
 refine bi h fun x1 h2 h => o_cR (zCc _ _ w0 _ h2) (g0 rfl) rfl (a2 (yJ rfl) (aR rfl)) (r2 rfl) (o_m5 (.tup [.y x1.1, .i x1.2]) (.y x1.1) (.i x1.2) (.y x1.1) (.i x1.2) rfl (zB (zL (c_sr (o_m2 (.i x1.2) (.b (x1.2 != 0)) rfl (zB ?_))))))
 refine c_if h rfl (fun h3 h => c_sr (o_m3 (.i 0) (.i 0) (.b false) rfl (zB (zJ ?_)))) fun h3 h => zK (c_sr (o_1 (.y x1.1) rfl ?_))
 ·
  cases h; exact eR rfl rfl
 refine bi h fun x4 h5 h => o_c (g0 rfl) rfl rfl rfl (cutEh (c := cU8) h5) (cutCh (c := cU8) h5) (bi h fun x6 h7 h => o_cA (zDO _ _ h7) (g0 rfl) rfl (.cons .r .nil) rfl (o_m5 (.tup [.i x6.1, .i x6.2]) (.i x6.1) (.i x6.2) (.i x6.1) (.i x6.2) rfl (zB (c_sr (o_1 (.y x1.1) rfl (bi h fun x8 h9 h => o_c (g0 rfl) rfl rfl rfl (cutEl (c := cU8) h9) (cutCl (c := cU8) h9) ?_))))))
 refine bi h fun x10 h11 h => o_cA (zDO _ _ h11) (g0 rfl) rfl (.cons .r .nil) rfl (o_m5 (.tup [.i x10.1, .i x10.2]) (.i x10.1) (.i x10.2) (.i x10.1) (.i x10.2) rfl (zB (c_sr (o_1 (.y x1.1) rfl (bi h fun x12 h13 h => o_c (g0 rfl) rfl rfl rfl (cutE (c := cU8) h13) (cutC (c := cU8) h13) ?_)))))
 refine bi h fun x14 h15 h => o_cA (zDO _ _ h15) (g0 rfl) rfl (.cons .r .nil) rfl (o_m5 (.tup [.i x14.1, .i x14.2]) (.i x14.1) (.i x14.2) (.i x14.1) (.i x14.2) rfl (zB (zL (c_sr (o_m3 (.i x6.2) (.b (x6.2 != 0)) (.b (x6.2 != 0)) rfl ?_)))))
 rcases zF h with ⟨h16, h⟩ | ⟨h16, h⟩
 ·
  refine o_k2 rfl h16 (o_pT (.b true) h16 rfl (o_1 (.b true) rfl (o_k2 rfl rfl (o_pT (.b true) rfl rfl (o_1 (.b true) rfl (o_k3 rfl rfl ?_))))))
  refine o_pT (.b true) rfl rfl (o_1 (.b true) rfl (o_k2 rfl rfl (o_pT (.b true) rfl rfl (o_1 (.b true) rfl (o_k2 rfl rfl ?_)))))
  refine o_pT (.b true) rfl rfl (o_1 (.b true) rfl (o_k4 rfl rfl (o_pT (.b true) rfl rfl (o_1 (.b true) rfl (o_k4 rfl rfl ?_)))))
  refine o_pT (.b true) rfl rfl (zB (c_t rfl rfl (c_sr (o_m3 (.i 0) (.i 0) (.b false) rfl (zB (zJ ?_))))))
  cases h; exact eR rfl rfl
 refine o_s (.i x10.2) (gy rfl rfl rfl h16) rfl rfl rfl (o_s (.b (x10.2 != 0)) (gy rfl rfl rfl h16) rfl rfl rfl (o_pF (.b (x10.2 != 0)) h16 rfl (o_1 (.b (x10.2 != 0)) rfl ?_)))
 rcases zF h with ⟨h17, h⟩ | ⟨h17, h⟩
 ·
  refine o_k2 rfl h17 (o_pT (.b true) h17 rfl (o_1 (.b true) rfl (o_k3 rfl rfl (o_pT (.b true) rfl rfl (o_1 (.b true) rfl (o_k2 rfl rfl (o_pT (.b true) rfl rfl (o_1 (.b true) rfl (o_k2 rfl rfl (o_pT (.b true) rfl rfl ?_))))))))))
  refine o_1 (.b true) rfl (o_k4 rfl rfl (o_pT (.b true) rfl rfl (o_1 (.b true) rfl (o_k4 rfl rfl ?_))))
  refine o_pT (.b true) rfl rfl (zB (c_t rfl rfl (c_sr (o_m3 (.i 0) (.i 0) (.b false) rfl (zB (zJ ?_))))))
  cases h; exact eR rfl rfl
 refine o_s (.i x14.2) (gy rfl rfl rfl h17) rfl rfl rfl (o_s (.b (x14.2 != 0)) (gy rfl rfl rfl h17) rfl rfl rfl (o_pF (.b (x14.2 != 0)) h17 rfl (o_1 (.b (x14.2 != 0)) rfl ?_)))
 rcases zF h with ⟨h18, h⟩ | ⟨h18, h⟩
 ·
  refine o_k3 rfl h18 (o_pT (.b true) h18 rfl (o_1 (.b true) rfl (o_k2 rfl rfl (o_pT (.b true) rfl rfl (o_1 (.b true) rfl (o_k2 rfl rfl (o_pT (.b true) rfl rfl (o_1 (.b true) rfl (o_k4 rfl rfl ?_)))))))))
  refine o_pT (.b true) rfl rfl (o_1 (.b true) rfl (o_k4 rfl rfl (o_pT (.b true) rfl rfl (zB (c_t rfl rfl (c_sr (o_m3 (.i 0) (.i 0) (.b false) rfl (zB (zJ ?_)))))))))
  cases h; exact eR rfl rfl
 refine o_s (.i x6.1) (gy rfl rfl rfl h18) rfl rfl rfl (o_s (.i x10.1) (gy rfl rfl rfl h18) rfl rfl rfl (o_s (.b (x6.1 != x10.1)) (gy rfl rfl rfl h18) rfl rfl rfl (o_pF (.b (x6.1 != x10.1)) h18 rfl (o_1 (.b (x6.1 != x10.1)) rfl ?_))))
 rcases zF h with ⟨h19, h⟩ | ⟨h19, h⟩
 ·
  refine o_k2 rfl h19 (o_pT (.b true) h19 rfl (o_1 (.b true) rfl (o_k2 rfl rfl (o_pT (.b true) rfl rfl (o_1 (.b true) rfl (o_k4 rfl rfl ?_))))))
  refine o_pT (.b true) rfl rfl (o_1 (.b true) rfl (o_k4 rfl rfl (o_pT (.b true) rfl rfl (zB (c_t rfl rfl (c_sr (o_m3 (.i 0) (.i 0) (.b false) rfl (zB (zJ ?_)))))))))
  cases h; exact eR rfl rfl
 refine o_s (.i x6.1) (gy rfl rfl rfl h19) rfl rfl rfl (o_s (.b (decide (x6.1 < 1))) (gy rfl rfl rfl h19) rfl rfl rfl (o_pF (.b (decide (x6.1 < 1))) h19 rfl (o_1 (.b (decide (x6.1 < 1))) rfl ?_)))
 rcases zF h with ⟨h20, h⟩ | ⟨h20, h⟩
 ·
  refine o_k2 rfl h20 (o_pT (.b true) h20 rfl (o_1 (.b true) rfl (o_k4 rfl rfl (o_pT (.b true) rfl rfl (o_1 (.b true) rfl (o_k4 rfl rfl (o_pT (.b true) rfl rfl (zB ?_))))))))
  refine c_t rfl rfl (c_sr (o_m3 (.i 0) (.i 0) (.b false) rfl (zB (zJ ?_))))
  cases h; exact eR rfl rfl
 refine o_s (.i x6.1) (gy rfl rfl rfl h20) rfl rfl rfl (o_s (.b (decide (x6.1 > 2305843009213693952))) (gy rfl rfl rfl h20) rfl rfl rfl (o_pF (.b (decide (x6.1 > 2305843009213693952))) h20 rfl (o_1 (.b (decide (x6.1 > 2305843009213693952))) rfl ?_)))
 rcases zF h with ⟨h21, h⟩ | ⟨h21, h⟩
 ·
  refine o_k4 rfl h21 (o_pT (.b true) h21 rfl (o_1 (.b true) rfl (o_k4 rfl rfl (o_pT (.b true) rfl rfl (zB (c_t rfl rfl (c_sr (o_m3 (.i 0) (.i 0) (.b false) rfl (zB (zJ ?_))))))))))
  cases h; exact eR rfl rfl
 refine o_of (e := [(62, .t ((ptT 1 p0)))]) (gy rfl rfl rfl h21) (h_mv mR (.inl rfl) (zM rfl) rfl rfl) rfl (o_s (.i x14.1) (gy rfl rfl rfl h21) rfl rfl rfl (bi h fun x22 h23 h => o_cR (zFy _ _ w0 _ h23) (gy rfl rfl rfl h21) rfl (a2 (yJ rfl) (aR rfl)) (r1 rfl) (o_s (.b (!x22)) (gy rfl rfl rfl h21) rfl rfl rfl (o_pF (.b (!x22)) h21 rfl (o_1 (.b (!x22)) rfl ?_)))))
 rcases zF h with ⟨h24, h⟩ | ⟨h24, h⟩
 ·
  refine o_k4 rfl h24 (o_pT (.b true) h24 rfl (zB (c_t rfl rfl (c_sr (o_m3 (.i 0) (.i 0) (.b false) rfl (zB (zJ ?_)))))))
  cases h; exact eR rfl rfl
 refine o_s (.y x1.1) (gy rfl rfl rfl h24) rfl rfl rfl (bi h fun x25 h26 h => o_c (gy rfl rfl rfl h24) rfl rfl rfl (cutE (c := cU8) h26) (cutC (c := cU8) h26) (bi h fun x27 h28 h => o_cA (zE7 _ _ h28) (gy rfl rfl rfl h24) rfl (.cons .r .nil) rfl (o_s (.b (!x27)) (gy rfl rfl rfl h24) rfl rfl rfl (o_pF (.b (!x27)) h24 rfl (zB ?_)))))
 refine c_if h rfl (fun h29 h => c_sr (o_m3 (.i 0) (.i 0) (.b false) rfl (zB (zJ ?_)))) fun h29 h => zK (c_sr (o_m5 (.i x6.1) (.i x14.1) (.i x6.1) (.i x14.1) (.b true) rfl (zB (zJ ?_))))
 ·
  cases h; exact eR rfl rfl
 cases h; exact eR rfl rfl
theorem zC6 (p0 : (Option Nat)) (p1 : Int) (w0 : Hp) (r : Int) (h : zBC p0 p1 w0 = some r) : FCH Try.prog 106 [.t ((ptT 3 p0)), .t (.d (.lit (.int .i64 p1)))] [] [] (hpA w0) (hpA w0) (.t (.d (.lit (.int .i64 r)))) := by
 refine qY (rs := [.tmp 4]) (n := 12) [] Try.func106 rfl rfl (Nat.le_of_ble_eq_true rfl) rfl (pins := []) rfl (L := [(HK, .hp (hpA w0)), (0, .t ((ptT 3 p0))), (1, .i p1)]) rfl (c_sr (o_1 (.i 0) rfl (zB (c_sr (o_mv rfl (zM rfl) ?_)))))
 rcases qQ h with ⟨h1, h⟩ | ⟨i2, h1, h⟩
 ·
  exact qV h
 refine o_nf 1 rfl (pq rfl h1) rfl (bi h fun x3 h4 h => o_ld (.i x3.size_) rfl (zA7 h4) rfl (o_m4 (.i (wi (2 + x3.size_))) (.i p1) (.i (wi ((wi (2 + x3.size_)) + p1))) (.i (wi ((wi (2 + x3.size_)) + p1))) rfl (zB (zJ ?_))))
 cases h; exact eR rfl rfl
theorem zEE (p0 : (Option Nat)) (p1 : (List qF)) (w0 : Hp) (r : (Int × Hp)) (h : zCF p0 p1 w0 = some r) : FCH Try.prog 66 [.t ((ptT 3 p0)), .t (.d (.seq 2 (List.map zT p1)))] [] [] (hpA w0) (hpA r.2) (.t (.d (.lit (.int .i64 r.1)))) := by
 refine qY (rs := [.tmp 4]) (n := 29) [] Try.func66 rfl rfl (Nat.le_of_ble_eq_true rfl) rfl (pins := []) rfl (L := [(HK, .hp (hpA w0)), (0, .t ((ptT 3 p0))), (1, .t (.d (.seq 2 (List.map zT p1))))]) rfl (c_sr (o_1 (.i 0) rfl (zB (zL (c_sr (o_1 (.t (.d (.seq 2 (List.map zT p1)))) rfl (o_c (g0 rfl) rfl rfl rfl (lenE _ _) trivial (o_1 (.i 0) rfl (zB (qC (c_lp (fun (q : Int × Hp) => [(0, .t ((ptT 3 p0))), (8, .t (.d (.seq 2 (List.map zT p1)))), (9, .i (p1.length : Int)), (10, .i q.1), (HK, .hp (hpA q.2))]) (fun nl1 q => zBF p1 p0 nl1 q.1 q.2) (p1.length + 1) (0, w0) h (fun _ => rfl) rfl rfl ?_)))))))))))
 rintro nl1 ⟨z1, z2⟩ h
 refine c_sr (o_1 (.b (decide (z1 < (p1.length : Int)))) rfl (zB (zL ?_)))
 refine c_if h rfl (fun h3 h => zK (zL (qC (c_sr ?_)))) fun h3 h => zAs (c_sr (o_1 (.i 0) rfl (zB (zJ ?_))))
 ·
  refine bi h fun x4 h5 h => o_c (g0 rfl) rfl rfl rfl (idxE h5) (idxC h5) (o_m2 (.t (.agg [.i x4.Home, .y x4.Data])) (.box [.i 0, .n]) rfl (o_st (.box [.i x4.Home, .y x4.Data]) (g0 rfl) rfl rfl rfl (zB (zL (zAC zBM (by kernel_rfl) ?_)))))
  rcases qQ h with ⟨h6, h⟩ | ⟨i7, h6, h⟩
  ·
   refine d_mv rfl rfl ((zM rfl).trans (zAE h6)) ?_
   exact qV h
  refine d_mv rfl rfl (pq rfl h6) (d_nc rfl rfl rfl (d_fd 0 rfl rfl rfl (bi h fun x8 h9 h => d_h (e := [(17, .t ((ptT 1 x8.d_)))]) (ks := [17]) rfl (dg0 rfl) rfl rfl (fun S' hM hk hok => h_ld hM hk rfl rfl rfl (zA7 h9) rfl (zA0 _ _) rfl (hok _ rfl rfl)) rfl (d_mv rfl rfl (pq rfl h6) (d_1 (.ref 6 0) rfl rfl (d_1 (.i x4.Home) rfl rfl ?_))))))
  refine bi h fun x10 h11 h => d_cR (zC6 _ _ z2 _ h11) rfl (dg0 rfl) rfl (a2 aH (aR rfl)) (r1 rfl) (d_1 (.ref 6 1) rfl rfl (d_1 (.y x4.Data) rfl rfl (bi h fun x12 h13 h => d_cH (zBa _ _ _ z2 _ h13) rfl (dg0 rfl) rfl (a3 (yJ rfl) (aR rfl) (aR rfl)) (r1 rfl) (d_1 (.i x12.1) rfl rfl (zAd (by kernel_rfl) (c_sr (o_m2 (.i x12.1) (.b (x12.1 != 0)) rfl (zB ?_))))))))
  refine c_if h rfl (fun h14 h => c_sr (o_m2 (.i x12.1) (.i x12.1) rfl (zB (zJ ?_)))) fun h14 h => zK (zS (o_m2 (.i (wi (z1 + 1))) (.i (wi (z1 + 1))) rfl (zB ?_)))
  ·
   cases h; exact eR rfl rfl
  exact lE ((wi (z1 + 1)), x12.2) h rfl rfl
 cases h; exact eR rfl rfl
theorem zBL (p0 : (Option Nat)) (w0 : Hp) (r : Int) (h : zAL p0 w0 = some r) : FCH Try.prog 22 [.t ((ptT 3 p0))] [] [] (hpA w0) (hpA w0) (.t (.d (.lit (.int .i64 r)))) := by
 refine qY (rs := [.tmp 2]) (n := 23) [] Try.func22 rfl rfl (Nat.le_of_ble_eq_true rfl) rfl (pins := []) rfl (L := [(HK, .hp (hpA w0)), (0, .t ((ptT 3 p0)))]) rfl (c_sr (o_1 (.i 0) rfl (zB (zL (c_sr (o_mv rfl (zM rfl) ?_))))))
 rcases qQ h with ⟨h1, h⟩ | ⟨i2, h1, h⟩
 ·
  refine o_of (e := [(4, .b true)]) (g0 rfl) (h_pn mR (ng := false) rfl rfl rfl (zDp rfl h1) rfl rfl) rfl (o_1 (.b true) rfl (o_k4 rfl rfl (o_k1 rfl rfl (o_pT (.b true) rfl rfl (zB (c_t rfl rfl (c_sr (o_1 (.i 0) rfl (zB (zJ ?_))))))))))
  cases h; exact eR rfl rfl
 refine o_of (e := [(4, .b false)]) (g0 rfl) (h_pn mR (ng := false) rfl rfl rfl (zDm rfl h1) rfl rfl) rfl (o_1 (.b false) rfl (o_of (e := [(6, .t (.hpt (cd 3 i2) 0))]) (gy rfl rfl rfl rfl) (h_mv mR (.inl rfl) ((zM rfl).trans (yA h1)) rfl rfl) rfl (o_of (e := [(7, .t (.hpt (cd 3 i2) 0))]) (gy rfl rfl rfl rfl) (h_nc mR rfl rfl rfl rfl rfl) rfl (o_of (e := [(8, .t (.hpt (cd 3 i2) 0))]) (gy rfl rfl rfl rfl) (h_fd mR rfl rfl rfl rfl rfl rfl) rfl (bi h fun x3 h4 h => o_of (e := [(9, .t ((ptT 1 x3.d_)))]) (gy rfl rfl rfl rfl) (h_ld mR rfl rfl rfl rfl (zA7 h4) rfl (zA0 _ _) rfl rfl) rfl ?_)))))
 rcases qQ h with ⟨h5, h⟩ | ⟨i6, h5, h⟩
 ·
  refine o_of (e := [(10, .b true)]) (gy rfl rfl rfl rfl) (h_pn mR (ng := false) rfl rfl rfl (zDp rfl h5) rfl rfl) rfl (o_pF (.b true) rfl rfl (zB (c_t rfl rfl (c_sr (o_1 (.i 0) rfl (zB (zJ ?_)))))))
  cases h; exact eR rfl rfl
 refine o_of (e := [(10, .b false)]) (gy rfl rfl rfl rfl) (h_pn mR (ng := false) rfl rfl rfl (zDm rfl h5) rfl rfl) rfl (o_pF (.b false) rfl rfl (zB (c_f rfl rfl (zK (zL (zAC zBM (by kernel_rfl) (d_mv rfl rfl (pq rfl h1) (d_nc rfl rfl rfl (d_fd 0 rfl rfl rfl ?_)))))))))
 refine d_h (e := [(15, .t ((ptT 1 x3.d_)))]) (ks := [15]) rfl (dg0 rfl) rfl rfl (fun S' hM hk hok => h_ld hM hk rfl rfl rfl (zA7 h4) rfl (zA0 _ _) rfl (hok _ rfl rfl)) rfl (bi h fun x7 h8 h => d_cR (zBn _ w0 _ h8) rfl (dg0 rfl) rfl (a1 (yJ rfl)) (r1 rfl) (d_1 (.i (wi (x7 - 2))) rfl rfl (d_mv rfl rfl (pq rfl h1) (d_nc rfl rfl rfl (d_fd 1 rfl rfl rfl (d_ld (.i x3.size_) rfl rfl (zA7 h4) rfl (d_1 (.i (wi ((wi (x7 - 2)) - x3.size_))) rfl rfl (d_1 (.i (wi ((wi (x7 - 2)) - x3.size_))) rfl rfl ?_))))))))
 refine zAd (by kernel_rfl) (zJ ?_)
 cases h; exact eR rfl rfl
theorem zJi (p0 : (List (List UInt8))) (r : Int) (h : zFN p0 = some r) : FC Try.prog 112 [.t (.d (.seq 1 (List.map (cSl 1 cU8) p0)))] [] (.t (.d (.lit (.int .u32 r)))) := by
 refine zDl (rs := [.tmp 2]) (n := 39) Try.func112 rfl rfl (Nat.le_of_ble_eq_true rfl) rfl (pins := []) rfl (L := [(0, .t (.d (.seq 1 (List.map (cSl 1 cU8) p0))))]) rfl (c_sr (o_1 (.t (.d (.lit (.int .u32 0)))) rfl (zB (c_sr (o_1 (.t (.d (.lit (.int .u32 4294967295)))) rfl (zB (zEM r (fun (y1 : Int) => [(3, .t (.d (.lit (.int .u32 y1))))]) (fun y1 => zDf y1) ?_ ?_)))))))
 ·
  refine c_sr (o_1 (.t (.d (.seq 1 (List.map (cSl 1 cU8) p0)))) rfl (o_c (g0 rfl) rfl rfl rfl (lenE _ _) trivial (o_1 (.i 0) rfl (zB (qC (c_lp (fun (q : Int × Int) => [(3, .t (.d (.lit (.int .u32 q.1)))), (8, .t (.d (.seq 1 (List.map (cSl 1 cU8) p0)))), (9, .i (p0.length : Int)), (10, .i q.2)]) (fun nl2 q => zBV p0 nl2 q.1 q.2) (p0.length + 1) (4294967295, 0) h (fun _ => rfl) rfl rfl ?_))))))
  rintro nl2 ⟨z2, z3⟩ h
  refine c_sr (o_1 (.b (decide (z3 < (p0.length : Int)))) rfl (zB (zL (c_if h rfl (fun h4 h => zK (zL (qC (c_sr ?_)))) fun h4 h => zAs ?_))))
  ·
   refine bi h fun x5 h6 h => o_c (g0 rfl) rfl rfl rfl (idxE h6) (idxC h6) (o_m2 (.y x5) (.y x5) rfl (zB (c_sr (o_1 (.y x5) rfl (o_c (g0 rfl) rfl rfl rfl (lenE _ _) trivial (o_1 (.i 0) rfl (zB (qC ?_))))))))
   refine c_lp (fun (q : Int × Int) => [(3, .t (.d (.lit (.int .u32 q.1)))), (8, .t (.d (.seq 1 (List.map (cSl 1 cU8) p0)))), (9, .i (p0.length : Int)), (10, .i z3), (14, .y x5), (15, .i (x5.length : Int)), (16, .i q.2)]) (fun nl3 q => zBy (zBV p0 nl2) x5 z3 nl3 q.1 q.2) (x5.length + 1) (z2, 0) h (fun _ => rfl) rfl rfl ?_
   rintro nl3 ⟨z7, z8⟩ h
   refine c_sr (o_1 (.b (decide (z8 < (x5.length : Int)))) rfl (zB (zL ?_)))
   refine c_if h rfl (fun h9 h => zK (zL (qC (c_sr ?_)))) fun h9 h => zAs (zS (o_m2 (.i (wi (z3 + 1))) (.i (wi (z3 + 1))) rfl (zB ?_)))
   ·
    refine bi h fun x10 h11 h => o_c (g0 rfl) rfl rfl rfl (idxE h11) (idxC h11) (o_m2 (.t (.d (.lit (.int .u8 (x10.toNat : Int))))) (.t (.d (.lit (.int .u8 (x10.toNat : Int))))) rfl (zB (c_sr (o_m2 (.t (.d (.lit (.int .u32 z7)))) (.t (.d (.lit (.int .u8 (x10.toNat : Int))))) rfl (o_c (g0 rfl) rfl rfl rfl (congrArg (fun z => A.t (.d (.lit (.int .u32 z)))) (u32_u8 _)) trivial (o_m2 (.t (.d (.lit (.int .u32 (IntKind.u32.wrap ((((BitVec.ofInt IntKind.u32.bits z7) ^^^ (BitVec.ofInt IntKind.u32.bits (x10.toNat : Int))).toNat : Nat) : Int)))))) (.t (.d (.lit (.int .u32 (IntKind.u32.wrap ((((BitVec.ofInt IntKind.u32.bits z7) ^^^ (BitVec.ofInt IntKind.u32.bits (x10.toNat : Int))).toNat : Nat) : Int)))))) rfl (zB (c_sr ?_))))))))
    refine o_1 (.i 0) rfl (zB (qC (c_lp (fun (q : Int × Int) => [(3, .t (.d (.lit (.int .u32 q.1)))), (8, .t (.d (.seq 1 (List.map (cSl 1 cU8) p0)))), (9, .i (p0.length : Int)), (10, .i z3), (14, .y x5), (15, .i (x5.length : Int)), (16, .i z8), (24, .i q.2)]) (fun nl4 q => zCQ (zBy (zBV p0 nl2) x5 z3 nl3) z8 nl4 q.1 q.2) (Int.toNat 8 + 1) ((IntKind.u32.wrap ((((BitVec.ofInt IntKind.u32.bits z7) ^^^ (BitVec.ofInt IntKind.u32.bits (x10.toNat : Int))).toNat : Nat) : Int)), 0) h (fun _ => rfl) rfl rfl ?_)))
    rintro nl4 ⟨z12, z13⟩ h
    refine c_sr (o_1 (.b (decide (z13 < 8))) rfl (zB (zL ?_)))
    refine c_if h rfl (fun h14 h => zK (zL (qC (c_sr (o_m3 (.t (.d (.lit (.int .u32 z12)))) (.t (.d (.lit (.int .u32 (IntKind.u32.wrap ((((BitVec.ofInt IntKind.u32.bits z12) &&& (BitVec.ofInt IntKind.u32.bits 1)).toNat : Nat) : Int)))))) (.b ((IntKind.u32.wrap ((((BitVec.ofInt IntKind.u32.bits z12) &&& (BitVec.ofInt IntKind.u32.bits 1)).toNat : Nat) : Int)) == 1)) rfl (zB ?_)))))) fun h14 h => zAs (zS (o_m2 (.i (wi (z8 + 1))) (.i (wi (z8 + 1))) rfl (zB ?_)))
    ·
     refine c_if h rfl (fun h15 h => zS (o_m4 (.t (.d (.lit (.int .u32 z12)))) (.t (.d (.lit (.int .u32 (Int.fdiv z12 (2 ^ 1)))))) (.t (.d (.lit (.int .u32 (IntKind.u32.wrap ((((BitVec.ofInt IntKind.u32.bits (Int.fdiv z12 (2 ^ 1))) ^^^ (BitVec.ofInt IntKind.u32.bits 3988292384)).toNat : Nat) : Int)))))) (.t (.d (.lit (.int .u32 (IntKind.u32.wrap ((((BitVec.ofInt IntKind.u32.bits (Int.fdiv z12 (2 ^ 1))) ^^^ (BitVec.ofInt IntKind.u32.bits 3988292384)).toNat : Nat) : Int)))))) rfl (zB (zS (o_m2 (.i (wi (z13 + 1))) (.i (wi (z13 + 1))) rfl (zB ?_)))))) fun h15 h => zS (o_m3 (.t (.d (.lit (.int .u32 z12)))) (.t (.d (.lit (.int .u32 (Int.fdiv z12 (2 ^ 1)))))) (.t (.d (.lit (.int .u32 (Int.fdiv z12 (2 ^ 1)))))) rfl (zB (zS (o_m2 (.i (wi (z13 + 1))) (.i (wi (z13 + 1))) rfl (zB ?_)))))
     ·
      exact lE ((IntKind.u32.wrap ((((BitVec.ofInt IntKind.u32.bits (Int.fdiv z12 (2 ^ 1))) ^^^ (BitVec.ofInt IntKind.u32.bits 3988292384)).toNat : Nat) : Int)), (wi (z13 + 1))) h rfl rfl
     exact lE ((Int.fdiv z12 (2 ^ 1)), (wi (z13 + 1))) h rfl rfl
    exact lE (z12, (wi (z8 + 1))) h rfl rfl
   exact lE (z7, (wi (z3 + 1))) h rfl rfl
  exact lE z2 h rfl rfl
 rintro y1 h
 refine c_sr (o_m3 (.t (.d (.lit (.int .u32 y1)))) (.t (.d (.lit (.int .u32 (IntKind.u32.wrap ((((BitVec.ofInt IntKind.u32.bits 4294967295) ^^^ (BitVec.ofInt IntKind.u32.bits y1)).toNat : Nat) : Int)))))) (.t (.d (.lit (.int .u32 (IntKind.u32.wrap ((((BitVec.ofInt IntKind.u32.bits 4294967295) ^^^ (BitVec.ofInt IntKind.u32.bits y1)).toNat : Nat) : Int)))))) rfl (zB (zJ ?_)))
 cases h
 exact end0 rfl .r
theorem zE9 (p0 : zAr) (p1 : Int) (w0 : Hp) (r : (List UInt8)) (h : zBI p0 p1 = some r) : FCH Try.prog 71 [.t (.agg [.lit (.int .i64 p0.kind_), .lit (.int .i64 p0.number_), .seq 1 (qE p0.data_), .lit (.bool p0.ok_)]), .t (.d (.lit (.int .i64 p1)))] [] [] (hpA w0) (hpA w0) (.t (.d (.seq 1 (qE r)))) := by
 refine qY (rs := [.tmp 4]) (n := 37) [0] Try.func71 rfl rfl (Nat.le_of_ble_eq_true rfl) rfl (pins := []) rfl (L := [(HK, .hp (hpA w0)), (OB + 0, .free), (0, .t (.agg [.i p0.kind_, .i p0.number_, .y p0.data_, .b p0.ok_])), (1, .i p1)]) rfl (c_sr (o_m2 (.box [.i p0.kind_, .i p0.number_, .y p0.data_, .b p0.ok_]) (.n) rfl (zB (c_sr (bi h fun x1 h2 h => o_of (e := [((OB + 0), .box (fl (dT cU8) (List.replicate x1 (0 : UInt8)))), (6, .t (.view 0 0 5 1 x1))]) (g0 rfl) (h_mkl mR rfl rfl rfl rfl rfl rfl rfl (by kernel_rfl) rfl h2 (zIV (c := cU8) (z := (0 : UInt8)) (by kernel_rfl) x1) rfl rfl rfl rfl) rfl (o_1 (.t (.view 0 0 5 1 x1)) rfl (zB (c_sr (o_m3 (.t (.view 0 0 5 1 x1)) (.ref 2 0) (.i p0.kind_) rfl (o_c (g0 rfl) rfl rfl rfl (congrArg (fun z => A.t (.d (.lit (.int .u8 z)))) (u8c _)) trivial ?_))))))))))
 refine bi h fun x3 h4 h => o_of (e := [(11, .ref (OB + 0) (0 + Int.toNat 0 * 1))]) (g0 rfl) (zIH mR rfl rfl rfl rfl rfl (idxV (by first | rfl | omega | (simp; done) | (dsimp only; omega) | (simp; omega)) h4) rfl rfl rfl) rfl (o_of (e := [((OB + 0), .box (fl (dT cU8) ((List.replicate x1 (0 : UInt8)).set (Int.toNat 0) (U8 p0.kind_))))]) (g0 rfl) (zKC mR rfl rfl rfl rfl rfl rfl rfl (fl_room h4 (fun _ => rfl)) (fl_put h4 (U8 p0.kind_) (fun _ => rfl) rfl)) rfl (zB (zL (zAC zBM (by kernel_rfl) (d_1 (.t (.view 0 0 5 1 x1)) rfl rfl (bi h fun x5 h6 h => d_h0 [] (e := [(13, .t (.view 0 (0 + Int.toNat 1 * 1) 5 1 (Int.toNat 5 - Int.toNat 1)))]) (ks := [13]) rfl (dg0 rfl) rfl rfl (fun S' hM hok => zFB hM rfl rfl rfl rfl rfl rfl rfl (zBc h6) rfl rfl rfl (hok _ rfl rfl)) rfl (d_1 (.ref 2 1) rfl rfl (d_1 (.i p0.number_) rfl rfl ?_))))))))
 refine bi h fun x7 h8 h => d_hm [OB + 0] (e := [((OB + 0), .box (fl (dT cU8) x7)), (16, .tup [])]) (ks := [(OB + 0), 16]) rfl (dg0 rfl) rfl rfl (fun S' hM hk hS hok => qL hM hk (σ := [0]) (fr := []) rfl rfl rfl (hok _ rfl rfl) rfl rfl rfl (zBj _ _ _ _ w0 _ h8) (zD _) rfl (by simp [A.flatO, zP]) (by simp [A.flatO, zP]) (cons_eq (hS (OB + 0) rfl) (rfl)) (.cons (zEm rfl rfl) (.cons (.plain .r rfl) .nil)) rfl (.tup .nil)) rfl ?_
 obtain ⟨x9, h10, h⟩ := bind_some h
 have h10 : x7.length = ((List.replicate x1 (0 : UInt8)).set (Int.toNat 0) (U8 p0.kind_)).length := zAu h10; simp only [List.length_set, List.length_replicate] at h10
 refine zAd (by kernel_rfl) (zL (zAC zBM (by kernel_rfl) (d_1 (.t (.view 0 0 5 1 x1)) rfl rfl (bi h fun x11 h12 h => d_h0 [] (e := [(18, .t (.view 0 (0 + Int.toNat 5 * 1) 5 1 (Int.toNat 37 - Int.toNat 5)))]) (ks := [18]) rfl (dg0 rfl) rfl rfl (fun S' hM hok => zFB hM rfl rfl rfl rfl rfl rfl rfl (zBc h12) rfl rfl rfl (hok _ rfl rfl)) rfl (d_1 (.ref 2 2) rfl rfl (d_1 (.y p0.data_) rfl rfl (bi h fun x13 h14 h => d_h0 [OB + 0] (e := [((OB + 0), .box (fl (dT cU8) x13)), (21, .i ((min p0.data_.length (Int.toNat 37 - Int.toNat 5) : Nat) : Int))]) (ks := [(OB + 0), 21]) rfl (dg0 rfl) rfl rfl (fun S' hM hok => h_cpy (cc := cU8) (yl := p0.data_) hM rfl rfl rfl rfl rfl rfl (fun _ => rfl) rfl h14 rfl rfl (hok _ rfl rfl)) rfl ?_)))))))
 obtain ⟨x15, h16, h⟩ := bind_some h
 have h16 : x13.length = x7.length := zAu h16
 refine zAd (by kernel_rfl) (c_sr (o_1 (.t (.view 0 0 5 1 x1)) rfl (bi h fun x17 h18 h => o_of (e := [(23, .t (.view 0 (0 + Int.toNat 56 * 1) 5 1 (Int.toNat (x1 : Int) - Int.toNat 56)))]) (g0 rfl) (zFB mR rfl rfl rfl rfl rfl rfl rfl (zBc h18) rfl rfl rfl rfl) rfl (o_1 (.i p1) rfl (bi h fun x19 h20 h => o_of (e := [((OB + 0), .box (fl (dT cU8) x19)), (25, .tup [])]) (g0 rfl) (qL mR rfl (σ := [0]) (fr := []) rfl rfl rfl rfl rfl rfl rfl (zBj _ _ _ _ w0 _ h20) (zD _) rfl (by simp [A.flatO, zP]) (by simp [A.flatO, zP]) rfl (.cons (zEm rfl rfl) (.cons (.plain .r rfl) .nil)) rfl (.tup .nil)) rfl ?_)))))
 obtain ⟨x21, h22, h⟩ := bind_some h
 have h22 : x19.length = x13.length := zAu h22
 refine zB (zL (zAC zBM (by kernel_rfl) (d_1 (.t (.view 0 0 5 1 x1)) rfl rfl (bi h fun x23 h24 h => d_h0 [] (e := [(27, .t (.view 0 (0 + Int.toNat 52 * 1) 5 1 (Int.toNat 56 - Int.toNat 52)))]) (ks := [27]) rfl (dg0 rfl) rfl rfl (fun S' hM hok => zFB hM rfl rfl rfl rfl rfl rfl rfl (zBc h24) rfl rfl rfl (hok _ rfl rfl)) rfl (d_1 (.t (.view 0 0 5 1 x1)) rfl rfl (bi h fun x25 h26 h => d_h0 [] (e := [(29, .t (.view 0 (0 + Int.toNat 0 * 1) 5 1 (Int.toNat 52 - Int.toNat 0)))]) (ks := [29]) rfl (dg0 rfl) rfl rfl (fun S' hM hok => zFB hM rfl rfl rfl rfl rfl rfl rfl (zBc h26) rfl rfl rfl (hok _ rfl rfl)) rfl (d_1 (.t (.view 0 0 5 1 x1)) rfl rfl ?_)))))))
 refine bi h fun x27 h28 h => d_h0 [] (e := [(31, .t (.view 0 (0 + Int.toNat 56 * 1) 5 1 (Int.toNat (x1 : Int) - Int.toNat 56)))]) (ks := [31]) rfl (dg0 rfl) rfl rfl (fun S' hM hok => zFB hM rfl rfl rfl rfl rfl rfl rfl (zBc h28) rfl rfl rfl (hok _ rfl rfl)) rfl (d_h0 [] (e := [(32, .lst [.view 0 (0 + Int.toNat 0 * 1) 5 1 (Int.toNat 52 - Int.toNat 0), .view 0 (0 + Int.toNat 56 * 1) 5 1 (Int.toNat (x1 : Int) - Int.toNat 56)])]) (ks := [32]) rfl (dg0 rfl) rfl rfl (fun S' hM hok => h_bsv (parts := [(0, .tmp 29), (1, .tmp 31)]) hM rfl rfl rfl (hok _ rfl rfl) rfl rfl rfl) rfl (bi h fun x29 h30 h => bi h fun x31 h32 h => bi h fun x33 h34 h => d_hm [OB + 0, OB + 0] (e := [(33, .t (.d (.lit (.int .u32 x33))))]) (ks := [33]) rfl (dg0 rfl) rfl rfl (fun S' hM hk hS hok => h_look hM hk rfl rfl rfl (hok _ rfl rfl) rfl rfl rfl (zJi _ _ h34) (.cons (.lst (.cons (.vw (l := fl (dT cU8) x19) (rs := List.map cU8 x29) (.inl rfl) (zEW (c := cU8) (fun _ => rfl) _) (zIM h30) (zGm (c := cU8) (fun _ => rfl) h30)) (.cons (.vw (l := fl (dT cU8) x19) (rs := List.map cU8 x31) (.inl rfl) (zEW (c := cU8) (fun _ => rfl) _) (zIM h32) (zGm (c := cU8) (fun _ => rfl) h32)) .nil))) .nil) rfl) rfl (d_1 (.i (wi x33)) rfl rfl (bi h fun x35 h36 h => d_hm [OB + 0] (e := [((OB + 0), .box (fl (dT cU8) x35)), (35, .tup [])]) (ks := [(OB + 0), 35]) rfl (dg0 rfl) rfl rfl (fun S' hM hk hS hok => qL hM hk (σ := [0]) (fr := []) rfl rfl rfl (hok _ rfl rfl) rfl rfl rfl (zBj _ _ _ _ w0 _ h36) (zD _) rfl (by simp [A.flatO, zP]) (by simp [A.flatO, zP]) (cons_eq (hS (OB + 0) rfl) (rfl)) (.cons (zEm rfl rfl) (.cons (.plain .r rfl) .nil)) rfl (.tup .nil)) rfl ?_))))
 obtain ⟨x37, h38, h⟩ := bind_some h
 have h38 : x35.length = x19.length := zAu h38
 refine zAd (by kernel_rfl) (c_sr (o_m2 (.t (.view 0 0 5 1 x1)) (.t (.view 0 0 5 1 x1)) rfl (zB (zJs 4 0 rfl rfl (by first | (simp; done) | (rw [List.length_map]; omega)) (zCm _ _) (zEW (c := cU8) (fun _ => rfl) _) rfl ⟨.inr ⟨_, rfl, zD _⟩, by (repeat (first | exact ObP.nil | refine ObP.cons (.inl rfl) ?_ | refine ObP.cons (.inr (fun _ => rfl)) ?_ | refine ObP.cons (.inr (qW (zP _ _))) ?_ | refine ObP.cons (.inr (zAJ _ _)) ?_))⟩ rfl (zJ ?_)))))
 cases h; exact eR rfl rfl
theorem zDB (p0 : (List UInt8)) (p1 : (List UInt8)) (r : Bool) (h : zAt p0 p1 = some r) : FC Try.prog 134 [.t (.d (.seq 1 (qE p0))), .t (.d (.seq 1 (qE p1)))] [] (.t (.d (.lit (.bool r)))) := by
 refine zDl (rs := [.tmp 4]) (n := 26) Try.func134 rfl rfl (Nat.le_of_ble_eq_true rfl) rfl (pins := []) rfl (L := [(0, .y p0), (1, .y p1)]) rfl (c_sr (o_1 (.b false) rfl (zB (zL (c_sr (o_1 (.y p0) rfl (o_c (g0 rfl) rfl rfl rfl (lenE _ _) trivial (o_1 (.y p1) rfl (o_c (g0 rfl) rfl rfl rfl (lenE _ _) trivial (o_1 (.b ((p0.length : Int) != (p1.length : Int))) rfl (zB ?_)))))))))))
 refine c_if h rfl (fun h1 h => c_sr (o_1 (.b false) rfl (zB (zJ ?_)))) fun h1 h => zK (zL (c_sr (o_1 (.y p0) rfl (o_c (g0 rfl) rfl rfl rfl (lenE _ _) trivial (o_1 (.i 0) rfl (zB (qC ?_)))))))
 ·
  cases h
  exact end0 rfl .r
 refine c_lp (fun (z2 : Int) => [(0, .y p0), (1, .y p1), (12, .i (p0.length : Int)), (13, .i z2)]) (fun nl1 z2 => zAx p0 p1 nl1 z2) (p0.length + 1) 0 h (fun _ => rfl) rfl rfl ?_
 rintro nl1 z2 h
 refine c_sr (o_1 (.b (decide (z2 < (p0.length : Int)))) rfl (zB (zL ?_)))
 refine c_if h rfl (fun h3 h => zK (zL (qC (c_sr (o_m2 (.i z2) (.i z2) rfl (zB (zL ?_))))))) fun h3 h => zAs (c_sr (o_1 (.b true) rfl (zB (zJ ?_))))
 ·
  refine zAC zBM (by kernel_rfl) (d_1 (.y p0) rfl rfl (d_1 (.i z2) rfl rfl (bi h fun x4 h5 h => d_c rfl (dg0 rfl) rfl rfl rfl rfl (idxE h5) (idxC h5) (d_1 (.t (.d (.lit (.int .u8 (x4.toNat : Int))))) rfl rfl (d_1 (.y p1) rfl rfl (d_1 (.i z2) rfl rfl ?_))))))
  refine bi h fun x6 h7 h => d_c rfl (dg0 rfl) rfl rfl rfl rfl (idxE h7) (idxC h7) (d_1 (.t (.d (.lit (.int .u8 (x6.toNat : Int))))) rfl rfl (d_1 (.b ((x4.toNat : Int) != (x6.toNat : Int))) rfl rfl (zAd (by kernel_rfl) ?_)))
  refine c_if h rfl (fun h8 h => c_sr (o_1 (.b false) rfl (zB (zJ ?_)))) fun h8 h => zK (zS (o_m2 (.i (wi (z2 + 1))) (.i (wi (z2 + 1))) rfl (zB ?_)))
  ·
   cases h
   exact end0 rfl .r
  exact lE (wi (z2 + 1)) h rfl rfl
 cases h
 exact end0 rfl .r
theorem zE6 (p0 : (Option Nat)) (p1 : Int) (w0 : Hp) (r : zAr) (h : zAk p0 p1 w0 = some r) : FCH Try.prog 130 [.t ((ptT 3 p0)), .t (.d (.lit (.int .i64 p1)))] [] [] (hpA w0) (hpA w0) (.t (.agg [.lit (.int .i64 r.kind_), .lit (.int .i64 r.number_), .seq 1 (qE r.data_), .lit (.bool r.ok_)])) := by
 refine qY (rs := [.cell 4 116]) (n := 54) [] Try.func130 rfl rfl (Nat.le_of_ble_eq_true rfl) rfl (pins := []) rfl (L := [(HK, .hp (hpA w0)), (0, .t ((ptT 3 p0))), (1, .i p1)]) rfl (c_sr (o_1 (.box [.i 0, .i 0, .n, .b false]) rfl (zB (zL (c_sr (o_1 (.i p1) rfl (o_mv rfl (zM rfl) ?_)))))))
 rcases qQ h with ⟨h1, h⟩ | ⟨i2, h1, h⟩
 ·
  exact qV h
 refine o_nf 1 rfl (pq rfl h1) rfl (bi h fun x3 h4 h => o_ld (.i x3.size_) rfl (zA7 h4) rfl (o_1 (.b (decide (p1 ≥ x3.size_))) rfl (zB ?_)))
 refine c_if h rfl (fun h5 h => c_sr (o_1 (.t (.agg [.i 0, .i 0, .n, .b false])) rfl (o_st (.box [.i 0, .i 0, .n, .b false]) (g0 rfl) rfl rfl rfl (zB (zJ ?_))))) fun h5 h => zK (c_sr (o_f3 0 rfl (pq rfl h1) rfl (o_of (e := [(19, .t ((ptT 1 x3.d_)))]) (g0 rfl) (h_ld mR rfl rfl rfl rfl (zA7 h4) rfl (zA0 _ _) rfl rfl) rfl (o_m2 (.i p1) (.i (wi (2 + p1))) rfl ?_))))
 ·
  cases h
  exact ⟨⟨_, rfl, (.t (.agg (.cons .r (.cons .r (.cons (.nil _) (.cons .r .nil))))))⟩, trivial, rfl⟩
 refine bi h fun x6 h7 h => o_cR (zCc _ _ w0 _ h7) (g0 rfl) rfl (a2 (yJ rfl) (aR rfl)) (r2 rfl) (o_m5 (.tup [.y x6.1, .i x6.2]) (.y x6.1) (.i x6.2) (.y x6.1) (.i x6.2) rfl (zB (zL (c_sr (o_m2 (.i x6.2) (.b (x6.2 != 0)) rfl (zB ?_))))))
 refine c_if h rfl (fun h8 h => c_sr (o_1 (.t (.agg [.i 0, .i 0, .n, .b false])) rfl (o_st (.box [.i 0, .i 0, .n, .b false]) (g0 rfl) rfl rfl rfl (zB (zJ ?_))))) fun h8 h => zK (zL (zAC zBM (by kernel_rfl) (d_1 (.y x6.1) rfl rfl ?_)))
 ·
  cases h
  exact ⟨⟨_, rfl, (.t (.agg (.cons .r (.cons .r (.cons (.nil _) (.cons .r .nil))))))⟩, trivial, rfl⟩
 refine bi h fun x9 h10 h => d_c rfl (dg0 rfl) rfl rfl rfl rfl (idxE h10) (idxC h10) (d_1 (.t (.d (.lit (.int .u8 (x9.toNat : Int))))) rfl rfl (d_c rfl (dg0 rfl) rfl rfl rfl rfl (congrArg (fun z => A.i z) (i64_u8 _)) trivial (d_1 (.y x6.1) rfl rfl ?_)))
 refine bi h fun x11 h12 h => d_c rfl (dg0 rfl) rfl rfl rfl rfl (cutE (c := cU8) h12) (cutC (c := cU8) h12) (d_1 (.t (.agg [.i (x9.toNat : Int), .i 0, .y x11, .b false])) rfl rfl (d_1 (.box [.i 0, .i 0, .n, .b false]) rfl rfl (d_st (.box [.i (x9.toNat : Int), .i 0, .y x11, .b false]) rfl (dg0 rfl) rfl rfl rfl rfl (zAd (by kernel_rfl) (c_sr (o_1 (.y x6.1) rfl (bi h fun x13 h14 h => o_c (g0 rfl) rfl rfl rfl (cutE (c := cU8) h14) (cutC (c := cU8) h14) ?_)))))))
 refine bi h fun x15 h16 h => o_cA (zDO _ _ h16) (g0 rfl) rfl (.cons .r .nil) rfl (o_m4 (.tup [.i x15.1, .i x15.2]) (.i x15.1) (.i x15.2) (.ref 7 1) rfl (o_st (.box [.i (x9.toNat : Int), .i x15.1, .y x11, .b false]) (g0 rfl) rfl rfl rfl (zB (zL (zAC zBM (by kernel_rfl) (d_1 (.y x6.1) rfl rfl (d_1 (.t (.agg [.i (x9.toNat : Int), .i x15.1, .y x11, .b false])) rfl rfl (d_mv rfl rfl (pq rfl h1) (d_nc rfl rfl rfl (d_fd 2 rfl rfl rfl (d_ld (.i x3.base_) rfl rfl (zA7 h4) rfl ?_)))))))))))
 refine d_1 (.i p1) rfl rfl (d_1 (.i (wi (x3.base_ + p1))) rfl rfl (bi h fun x17 h18 h => d_cR (zE9 _ _ w0 _ h18) rfl (dg0 rfl) rfl (a2 (aR rfl) (aR rfl)) (r1 rfl) ?_))
 refine bi h fun x19 h20 h => d_ca (zDB _ _ _ h20) rfl (dg0 rfl) rfl rfl rfl rfl rfl rfl rfl rfl (.cons .r (.cons .r .nil)) rfl rfl (d_1 (.ref 7 3) rfl rfl (d_st (.box [.i (x9.toNat : Int), .i x15.1, .y x11, .b x19]) rfl (dg0 rfl) rfl rfl rfl rfl (zAd (by kernel_rfl) (c_sr (o_1 (.t (.agg [.i (x9.toNat : Int), .i x15.1, .y x11, .b x19])) rfl (o_st (.box [.i (x9.toNat : Int), .i x15.1, .y x11, .b x19]) (g0 rfl) rfl rfl rfl (zB (zJ ?_))))))))
 cases h; exact eR rfl rfl
end Go.Proofs.Ytjomnccladjpgaa
