/-
  Texts joined: see the remark at the head of each part.
-/
import Derived.Test.YtjomnccladjpgaaGreatQ09
import Derived.Test.YtjomnccladjpgaaGreatQ11
import Derived.Test.YtjomnccladjpgaaGreatQ12
import Derived.Test.YtjomnccladjpgaaGreatQ07
import Derived.Test.YtjomnccladjpgaaGreatQ10
import Derived.Test.YtjomnccladjpgaaGreatQ14
set_option linter.unusedVariables false
set_option linter.unusedSimpArgs false
/-
 Walks of functions: each function does what its model tells. Printed by a program of this claim's own (gen.py) off the given translation.
-/
namespace Go.Proofs.YtjomnccladjpgaaGreat
open Go Go.RowKit
set_option linter.unusedVariables false
set_option maxHeartbeats 4000000
set_option maxRecDepth 20000
theorem zFs (p0 : (Option Nat)) (p1 : (List UInt8)) (w0 : Hp) (r : (Int × Hp)) (h : zAZ p0 p1 w0 = some r) : FCH Tryz.prog 38 [.t ((ptT 1 p0)), .t (.d (.seq 1 (zN p1)))] [] [] (hpA w0) (hpA r.2) (.t (.d (.lit (.int .i64 r.1)))) := by
 refine qR (rs := [.tmp 4]) (n := 69) [] Tryz.func38 rfl rfl (Nat.le_of_ble_eq_true rfl) rfl (pins := []) rfl (L := [(HK, .hp (hpA w0)), (0, .t ((ptT 1 p0))), (1, .y p1)]) rfl (c_sr (o_1 (.i 0) rfl (zA (zJ (c_sr (o_mv rfl (zI rfl) (bi h fun x1 h2 h => o_cR (zA0 _ w0 _ h2) (g0 rfl) rfl (a1 (qO rfl)) (r1 rfl) (o_1 (.b (!x1)) rfl (zA ?_)))))))))
 refine c_if h rfl (fun h3 h => c_sr (o_1 (.i 1) rfl (zA (zF ?_)))) fun h3 h => zG ?_
 ·
  cases h; exact eR rfl rfl
 refine yY r (fun (y4 : Hp) => [(0, .t ((ptT 1 p0))), (HK, .hp (hpA y4))]) (fun y4 => yX p0 y4) ?_ ?_
 ·
  refine c_sr (o_mv rfl (zI rfl) ?_)
  rcases zQ h with ⟨h16, h⟩ | ⟨i17, h16, h⟩
  ·
   exact qF h
  refine o_nf 2 rfl (pq rfl h16) rfl (bi h fun x18 h19 h => o_ld (.t (.d (.seq 65 (List.map zAT x18.wait_)))) rfl (zDD h19) rfl (o_c (g0 rfl) rfl rfl rfl (lenE _ _) trivial (o_1 (.i 0) rfl (zA (zS (c_lp (fun (q : Int × Hp) => [(0, .t ((ptT 1 p0))), (1, .y p1), (14, .t (.d (.seq 65 (List.map zAT x18.wait_)))), (15, .i (x18.wait_.length : Int)), (16, .i q.1), (HK, .hp (hpA q.2))]) (fun nl2 q => zAL x18 p1 p0 i17 nl2 q.1 q.2) (x18.wait_.length + 1) (0, w0) h (fun _ => rfl) rfl rfl ?_))))))
  rintro nl2 ⟨z20, z21⟩ h
  refine c_sr (o_1 (.b (decide (z20 < (x18.wait_.length : Int)))) rfl (zA (zJ (c_if h rfl (fun h22 h => zG (zJ (zS (c_sr (o_1 (.i z20) rfl ?_))))) fun h22 h => zAQ ?_))))
  ·
   refine bi h fun x23 h24 h => o_c (g0 rfl) rfl rfl rfl (idxE h24) (idxC h24) (o_s (.t (.agg ([D.i x23.n_] ++ ar cU8 (0 : UInt8) x23.b_ 0 64))) (g0 rfl) rfl rfl (by kernel_rfl) (o_s (.box ([T.i 0] ++ List.map T.d (ar cU8 (0 : UInt8) ([] : (List UInt8)) 0 64))) (g0 rfl) rfl rfl (by kernel_rfl) (o_1 (.i z20) rfl (o_st (b := 6) (.box ([T.i x23.n_] ++ List.map T.d (ar cU8 (0 : UInt8) x23.b_ 0 64))) (g0 rfl) rfl rfl (by kernel_rfl) (zA (zJ (c_sr ?_)))))))
   refine o_m2 (.i z20) (.y p1) rfl (o_c (g0 rfl) rfl rfl rfl (lenE _ _) trivial (o_1 (.b (decide (z20 ≥ (p1.length : Int)))) rfl (zA (c_if h rfl (fun h25 h => zAQ ?_) fun h25 h => zG (c_sr (o_m2 (.y p1) (.i z20) rfl ?_))))))
   ·
    exact lE z21 h rfl rfl
   refine bi h fun x26 h27 h => o_c (g0 rfl) rfl rfl rfl (idxE h27) (idxC h27) (o_1 (.t (.d (.lit (.int .u8 (x26.toNat : Int))))) rfl (o_c (g0 rfl) rfl rfl rfl (congrArg (fun z => A.i z) (zKA _)) trivial (o_of (e := [(30, .i (if 64 < (x26.toNat : Int) then 64 else (x26.toNat : Int)))]) (g0 rfl) (h_min mR rfl rfl rfl rfl rfl) rfl (o_1 (.i (if 64 < (x26.toNat : Int) then 64 else (x26.toNat : Int))) rfl (zA (c_fz (pins := _) 6 (.imm ([D.i x23.n_] ++ ar cU8 (0 : UInt8) x23.b_ 0 64)) rfl rfl rfl (by kernel_rfl) (qQ mixed (by kernel_rfl) ?_)))))))
   refine d_mv rfl rfl (pq rfl h16) (d_nc rfl rfl rfl (d_fd 0 rfl rfl rfl (bi h fun x28 h29 h => d_ld (.t (.hvw (cd 2 x28.kept_.1) 0 83 64 x28.kept_.2)) rfl rfl (zDD h29) rfl (d_s (.imm ([D.i x23.n_] ++ ar cU8 (0 : UInt8) x23.b_ 0 64)) rfl (dg0 rfl) rfl rfl rfl (by kernel_rfl) (d_1 (.i x23.n_) rfl rfl ?_)))))
   refine bi h fun x30 h31 h => bi h fun x32 h33 h => bi h fun x34 h35 h => d_h0 [] (e := [(37, .t (.hpt (cd 2 x28.kept_.1) (0 + Int.toNat x23.n_ * 64)))]) (ks := [37]) rfl (dg0 rfl) rfl rfl (fun S' hM hok => h_ix hM rfl rfl rfl rfl (idxV (zCM h33) h35) rfl rfl (hok _ rfl rfl)) rfl (d_1 (.i (if 64 < (x26.toNat : Int) then 64 else (x26.toNat : Int))) rfl rfl (bi h fun x36 h37 h => d_h (e := [(39, .t (.hvw (cd 2 x28.kept_.1) ((0 + Int.toNat x23.n_ * 64) + Int.toNat 0 * 1) 0 1 (Int.toNat (if 64 < (x26.toNat : Int) then 64 else (x26.toNat : Int)) - Int.toNat 0)))]) (ks := [39]) rfl (dg0 rfl) rfl rfl (fun S' hM hk hok => h_slah hM hk rfl rfl (zID h31) rfl rfl rfl rfl (zFZ (c := yZ) (k := 64) (q := 0) h35 (fun _ => (by kernel_rfl)) rfl) rfl (zCi h37) rfl rfl (hok _ rfl rfl)) rfl (d_s (.imm (ar cU8 (0 : UInt8) x23.b_ 0 64)) rfl (dg0 rfl) rfl rfl rfl (by kernel_rfl) (d_1 (.i (if 64 < (x26.toNat : Int) then 64 else (x26.toNat : Int))) rfl rfl ?_))))
   refine bi h fun x38 h39 h => d_h0 [] (e := [(42, .y x38)]) (ks := [42]) rfl (dg0 rfl) rfl rfl (fun S' hM hok => h_slim (c := cU8) (z := (0 : UInt8)) hM rfl rfl (fun _ => rfl) rfl rfl rfl rfl rfl rfl rfl rfl h39 rfl (hok _ rfl rfl)) rfl (d_h (e := [(HK, .hp (hpA (z21.st_sec x28.kept_.1 (x30.set (Int.toNat x23.n_) (cpyL (padA (0 : UInt8) x34 0 64) 0 (Int.toNat (if 64 < (x26.toNat : Int) then 64 else (x26.toNat : Int)) - Int.toNat 0) x38))))), (43, .i ((min (List.map cU8 x38).length (Int.toNat (if 64 < (x26.toNat : Int) then 64 else (x26.toNat : Int)) - Int.toNat 0) : Nat) : Int))]) (ks := [HK, 43]) rfl (dg0 rfl) rfl rfl (fun S' hM hk hok => h_cpyh hM hk rfl rfl rfl rfl rfl (zID h31) rfl (zEp (c := cU8) (k := 1) (fun _ => rfl) _) (zFZ (c := yZ) (k := 64) (q := 0) h35 (fun _ => (by kernel_rfl)) (Nat.ble_eq.mpr (by have := zCi h37; omega))) (fl_put3 (c := yZ) (k := 64) h35 (cpyL (padA (0 : UInt8) x34 0 64) 0 (Int.toNat (if 64 < (x26.toNat : Int) then 64 else (x26.toNat : Int)) - Int.toNat 0) x38) (fun _ => (by kernel_rfl)) (arr_cpy (c := cU8) (z := (0 : UInt8)) (fun _ => rfl) (by have := zCi h37; omega)) (Nat.le_trans (cpy_len (c := cU8) (fun _ => rfl) _ _) (by have := zCi h37; omega))) rfl (su_sec (x' := (x30.set (Int.toNat x23.n_) (cpyL (padA (0 : UInt8) x34 0 64) 0 (Int.toNat (if 64 < (x26.toNat : Int) then 64 else (x26.toNat : Int)) - Int.toNat 0) x38))) h31) rfl (hok _ rfl rfl)) rfl (yD (by kernel_rfl) (zL (o_m2 (.i (wi (z20 + 1))) (.i (wi (z20 + 1))) rfl (zA ?_)))))
   exact lE ((wi (z20 + 1)), (z21.st_sec x28.kept_.1 (x30.set (Int.toNat x23.n_) (cpyL (padA (0 : UInt8) x34 0 64) 0 (Int.toNat (if 64 < (x26.toNat : Int) then 64 else (x26.toNat : Int)) - Int.toNat 0) x38)))) h rfl rfl
  exact lE z21 h rfl rfl
 rintro y4 h
 refine c_sr (o_mv rfl (zI rfl) (o_mv rfl (zI rfl) (o_mv rfl (zI rfl) (o_mv rfl (zI rfl) (o_mv rfl (zI rfl) ?_)))))
 rcases zQ h with ⟨h5, h⟩ | ⟨i6, h5, h⟩
 ·
  exact qF h
 refine o_nf 0 rfl (pq rfl h5) rfl (bi h fun x7 h8 h => o_ld (.t (.hvw (cd 2 x7.kept_.1) 0 83 64 x7.kept_.2)) rfl (zDD h8) rfl ?_)
 obtain ⟨x9, h10, h⟩ := bind_some h
 obtain ⟨x11, h12, h⟩ := bind_some h
 obtain ⟨x13, h14, h⟩ := bind_some h
 rcases zP h with ⟨h15, h⟩ | ⟨h15, h⟩
 ·
  exact qF h
 refine o_of (e := [(HK, .hp (hpA (y4.nw_sec x13))), (53, .t (.hvw (cd 2 (y4.ln_sec, x13.length).1) 0 83 64 (y4.ln_sec, x13.length).2))]) (g0 rfl) (h_lookH (cc := yZ) mR rfl rfl rfl rfl rfl rfl rfl rfl (zE1 _ _ h14) (.cons (.d (.hv (l := fl (dT yZ) x9) (rs := List.map yZ x9) (.inr ⟨_, rfl, zID h10⟩) (zEp (c := yZ) (k := 64) (fun _ => (by kernel_rfl)) _) ((List.length_map ..).trans (zCM h12)) (zJs (c := yZ) (fun _ => (by kernel_rfl)) (zCM h12)))) .nil) (by rw [h15]; rfl) rfl (fun _ => (by kernel_rfl)) (fr_sec _) (nw_sec _ x13)) rfl (o_nf 2 rfl (pq rfl h5) rfl (o_of (e := [(HK, .hp (hpA ((y4.nw_sec x13).st_dk i6 (zH.mk x7.kept_ x7.now_ [] x7.fuse_ x7.off_ x7.lives_))))]) (g0 rfl) (h_stw mR rfl rfl rfl rfl rfl (zDD h8) rfl rfl (Nat.le_of_ble_eq_true rfl) (.cons .r (.cons .r (.cons (.nilOwn _ _) (.cons .r (.cons .r (.cons .r .nil)))))) rfl (zHp (x' := (zH.mk x7.kept_ x7.now_ [] x7.fuse_ x7.off_ x7.lives_)) h8)) rfl (o_nf 1 rfl (pq rfl h5) rfl (o_sH rfl (zDD (zR h8)) (zHp (x' := (zH.mk x7.kept_ (y4.ln_sec, x13.length) [] x7.fuse_ x7.off_ x7.lives_)) (zR h8)) rfl rfl (o_nf 3 rfl (pq rfl h5) rfl (o_sH rfl (zDD (zR (zR h8))) (zHp (x' := (zH.mk x7.kept_ (y4.ln_sec, x13.length) [] (-1) x7.off_ x7.lives_)) (zR (zR h8))) rfl rfl (o_nf 4 rfl (pq rfl h5) rfl ?_)))))))
 refine o_sH rfl (zDD (zR (zR (zR h8)))) (zHp (x' := (zH.mk x7.kept_ (y4.ln_sec, x13.length) [] (-1) false x7.lives_)) (zR (zR (zR h8)))) rfl rfl (zA (c_sr (o_f3 5 rfl (pq rfl h5) rfl (o_ld (.i ((zH.mk x7.kept_ (y4.ln_sec, x13.length) [] (-1) false x7.lives_).lives_)) rfl (zDD (zR (zR (zR (zR h8))))) rfl (o_1 (.i (wi (((zH.mk x7.kept_ (y4.ln_sec, x13.length) [] (-1) false x7.lives_).lives_) + 1))) rfl (o_nf 5 rfl rfl rfl (o_sH rfl (zDD (zR (zR (zR (zR h8))))) (zHp (x' := (zH.mk x7.kept_ (y4.ln_sec, x13.length) [] (-1) false (wi (((zH.mk x7.kept_ (y4.ln_sec, x13.length) [] (-1) false x7.lives_).lives_) + 1)))) (zR (zR (zR (zR h8))))) rfl rfl ?_)))))))
 refine zA (c_sr (o_1 (.i 0) rfl (zA (zF ?_))))
 cases h; exact eR rfl rfl
end Go.Proofs.YtjomnccladjpgaaGreat

/-
 Walks of functions: each function does what its model tells. Printed by a program of this claim's own (gen.py) off the given translation.
-/
namespace Go.Proofs.YtjomnccladjpgaaGreat
open Go Go.RowKit
set_option linter.unusedVariables false
set_option maxHeartbeats 4000000
set_option maxRecDepth 20000
theorem zGb (p0 : (Option Nat)) (w0 : Hp) (r : ((Option Nat) × Int × Hp)) (h : zDE p0 w0 = some r) : FCH Tryz.prog 67 [.t ((ptT 3 p0))] [] [] (hpA w0) (hpA r.2.2) (.tup [(ptT 5 r.1), .d (.lit (.int .i64 r.2.1))]) := by
 refine qR (rs := [.tmp 2, .tmp 3]) (n := 18) [0] Tryz.func67 rfl rfl (Nat.le_of_ble_eq_true rfl) rfl (pins := []) rfl (L := [(HK, .hp (hpA w0)), (OB + 0, .free), (0, .t ((ptT 3 p0)))]) rfl (c_sr (o_of (e := [(2, .t (.d (.lit (.pointer none))))]) (g0 rfl) (h_mv mR (.inr rfl) rfl rfl rfl) rfl (o_1 (.i 0) rfl (zA (zJ (c_sr (o_mv rfl (zI rfl) ?_)))))))
 refine bi h fun x1 h2 h => o_cR (zBr _ w0 _ h2) (g0 rfl) rfl (a1 (qO rfl)) (r1 rfl) (o_1 (.i x1) rfl (zA (c_sr (o_m2 (.i x1) (.b (x1 != 0)) rfl (zA ?_)))))
 refine c_if h rfl (fun h3 h => c_sr (o_1 (.i x1) rfl (o_of (e := [(2, .t (.d (.lit (.pointer none))))]) (g0 rfl) (h_mv mR (.inr rfl) rfl rfl rfl) rfl (o_1 (.i x1) rfl (zA (zF ?_)))))) fun h3 h => zG (c_sr ?_)
 ·
  cases h; exact eR rfl rfl
 rcases zQ h with ⟨h4, h⟩ | ⟨i5, h4, h⟩
 ·
  refine o_mv rfl ((zI rfl).trans (qL h4)) (o_mv rfl ((zI rfl).trans (qL h4)) ?_)
  exact qF h
 refine o_mv rfl (pq rfl h4) (o_f3 6 rfl (pq rfl h4) rfl (bi h fun x6 h7 h => o_ld (.i x6.commits_) rfl (zAj h7) rfl (o_of (e := [(HK, .hp (hpA (w0.nw_mp ([] : (List (Int × (List UInt8))))))), (15, .t (.mpt (OB + cd 6 w0.ln_mp)))]) (g0 rfl) (h_mkmH rfl rfl rfl rfl (fr_mp _) (nw_mp _ _)) rfl (o_of (e := [(16, .ag [.hpt (cd 3 i5) 0, .i x6.commits_, .b false, .mpt (OB + cd 6 w0.ln_mp)])]) (g0 rfl) (h_bd mR rfl rfl rfl rfl) rfl (o_of (e := [(HK, .hp (hpA ((w0.nw_mp ([] : (List (Int × (List UInt8))))).nw_tx (yN.mk (some i5) x6.commits_ false w0.ln_mp)))), (17, .t (.hpt (cd 5 ((w0.nw_mp ([] : (List (Int × (List UInt8))))).ln_tx)) 0))]) (g0 rfl) (h_box mR rfl rfl rfl rfl rfl (fr_tx _) (nw_tx _ (yN.mk (some i5) x6.commits_ false w0.ln_mp))) rfl (o_of (e := [(2, .t (.hpt (cd 5 ((w0.nw_mp ([] : (List (Int × (List UInt8))))).ln_tx)) 0))]) (g0 rfl) (h_mv mR (.inr rfl) rfl rfl rfl) rfl (o_1 (.i 0) rfl (zA (zF ?_)))))))))
 cases h; exact eR rfl rfl
theorem zDg (p0 : (Option Nat)) (w0 : Hp) (r : Int) (h : zAs p0 w0 = some r) : FCH Tryz.prog 82 [.t ((ptT 5 p0))] [] [] (hpA w0) (hpA w0) (.t (.d (.lit (.int .i64 r)))) := by
 refine qR (rs := [.tmp 2]) (n := 39) [] Tryz.func82 rfl rfl (Nat.le_of_ble_eq_true rfl) rfl (pins := []) rfl (L := [(HK, .hp (hpA w0)), (0, .t ((ptT 5 p0)))]) rfl (c_sr (o_1 (.i 0) rfl (zA (zJ (c_sr (o_mv rfl (zI rfl) ?_))))))
 rcases zQ h with ⟨h1, h⟩ | ⟨i2, h1, h⟩
 ·
  refine o_of (e := [(5, .b true)]) (g0 rfl) (h_pn mR (ng := false) rfl rfl rfl (zCz rfl h1) rfl rfl) rfl (o_1 (.b true) rfl (o_k4 rfl rfl (o_k1 rfl rfl (o_pT (.b true) rfl rfl (zA (c_t rfl rfl (c_sr (o_1 (.i 1) rfl (zA (zF ?_))))))))))
  cases h; exact eR rfl rfl
 refine o_of (e := [(5, .b false)]) (g0 rfl) (h_pn mR (ng := false) rfl rfl rfl (zC2 rfl h1) rfl rfl) rfl (o_1 (.b false) rfl (o_of (e := [(7, .t (.hpt (cd 5 i2) 0))]) (gy rfl rfl rfl rfl) (h_mv mR (.inl rfl) ((zI rfl).trans (qM h1)) rfl rfl) rfl (o_of (e := [(8, .t (.hpt (cd 5 i2) 0))]) (gy rfl rfl rfl rfl) (h_nc mR rfl rfl rfl rfl rfl) rfl (o_of (e := [(9, .t (.hpt (cd 5 i2) 3))]) (gy rfl rfl rfl rfl) (h_fd mR rfl rfl rfl rfl rfl rfl) rfl ?_))))
 refine bi h fun x3 h4 h => o_of (e := [(10, .t (.mpt (OB + cd 6 x3.now_)))]) (gy rfl rfl rfl rfl) (h_ld mR rfl rfl rfl rfl (zF0 h4) rfl rfl rfl rfl) rfl (o_of (e := [(11, .b false)]) (gy rfl rfl rfl rfl) (h_mn (ng := false) mR rfl rfl rfl rfl rfl rfl) rfl (o_pF (.b false) rfl rfl (zA (c_f rfl rfl (zG (zJ (c_sr ?_)))))))
 refine o_f3 0 rfl (pq rfl h1) rfl (o_of (e := [(16, .t ((ptT 3 x3.l_)))]) (g0 rfl) (h_ld mR rfl rfl rfl rfl (zF0 h4) rfl (qI _ _) rfl rfl) rfl (bi h fun x5 h6 h => o_cR (zBr _ w0 _ h6) (g0 rfl) rfl (a1 (qO rfl)) (r1 rfl) (o_1 (.i x5) rfl (zA (c_sr (o_m2 (.i x5) (.b (x5 != 0)) rfl (zA ?_)))))))
 refine c_if h rfl (fun h7 h => c_sr (o_m2 (.i x5) (.i x5) rfl (zA (zF ?_)))) fun h7 h => zG (zJ (zJ (qQ mixed (by kernel_rfl) (d_mv rfl rfl (pq rfl h1) (d_nc rfl rfl rfl (d_fd 2 rfl rfl rfl (d_ld (.b x3.over_) rfl rfl (zF0 h4) rfl (d_1 (.b x3.over_) rfl rfl ?_))))))))
 ·
  cases h; exact eR rfl rfl
 rcases zP h with ⟨h8, h⟩ | ⟨h8, h⟩
 ·
  refine d_k1 rfl rfl h8 (d_k1 rfl rfl h8 (d_k1 rfl rfl h8 (d_k1 rfl rfl h8 (d_k1 rfl rfl h8 (d_k1 rfl rfl h8 (d_k1 rfl rfl h8 (d_k1 rfl rfl h8 (d_k1 rfl rfl h8 (d_k1 rfl rfl h8 (d_k1 rfl rfl h8 (d_k1 rfl rfl h8 ?_)))))))))))
  refine d_pT (.b true) h8 rfl rfl (yD (by kernel_rfl) (c_t rfl rfl (c_sr (o_1 (.i 34) rfl (zA (zF ?_))))))
  cases h; exact eR rfl rfl
 refine d_h0 [] (e := [(26, .t (.hpt (cd 5 i2) 0))]) (ks := [26]) rfl (dgy rfl rfl rfl rfl h8) rfl rfl (fun S' hM hok => h_mv hM (.inl rfl) ((zI rfl).trans (qM h1)) rfl (hok _ rfl rfl)) rfl (d_h0 [] (e := [(27, .t (.hpt (cd 5 i2) 0))]) (ks := [27]) rfl (dgy rfl rfl rfl rfl h8) rfl rfl (fun S' hM hok => h_nc hM rfl rfl rfl rfl (hok _ rfl rfl)) rfl (d_h0 [] (e := [(28, .t (.hpt (cd 5 i2) 1))]) (ks := [28]) rfl (dgy rfl rfl rfl rfl h8) rfl rfl (fun S' hM hok => h_fd hM rfl rfl rfl rfl rfl (hok _ rfl rfl)) rfl (d_h (e := [(29, .i x3.at_)]) (ks := [29]) rfl (dgy rfl rfl rfl rfl h8) rfl rfl (fun S' hM hk hok => h_ld hM hk rfl rfl rfl (zF0 h4) rfl rfl rfl (hok _ rfl rfl)) rfl (d_h0 [] (e := [(30, .t (.hpt (cd 5 i2) 0))]) (ks := [30]) rfl (dgy rfl rfl rfl rfl h8) rfl rfl (fun S' hM hok => h_mv hM (.inl rfl) ((zI rfl).trans (qM h1)) rfl (hok _ rfl rfl)) rfl (d_h0 [] (e := [(31, .t (.hpt (cd 5 i2) 0))]) (ks := [31]) rfl (dgy rfl rfl rfl rfl h8) rfl rfl (fun S' hM hok => h_nc hM rfl rfl rfl rfl (hok _ rfl rfl)) rfl (d_h0 [] (e := [(32, .t (.hpt (cd 5 i2) 0))]) (ks := [32]) rfl (dgy rfl rfl rfl rfl h8) rfl rfl (fun S' hM hok => h_fd hM rfl rfl rfl rfl rfl (hok _ rfl rfl)) rfl (d_h (e := [(33, .t ((ptT 3 x3.l_)))]) (ks := [33]) rfl (dgy rfl rfl rfl rfl h8) rfl rfl (fun S' hM hk hok => h_ld hM hk rfl rfl rfl (zF0 h4) rfl (qI _ _) rfl (hok _ rfl rfl)) rfl ?_)))))))
 rcases zQ h with ⟨h9, h⟩ | ⟨i10, h9, h⟩
 ·
  exact qF h
 refine d_h0 [] (e := [(34, .t (.hpt (cd 3 i10) 0))]) (ks := [34]) rfl (dgy rfl rfl rfl rfl h8) rfl rfl (fun S' hM hok => h_nc hM rfl (zI rfl) (zCx h9) rfl (hok _ rfl rfl)) rfl (d_h0 [] (e := [(35, .t (.hpt (cd 3 i10) 6))]) (ks := [35]) rfl (dgy rfl rfl rfl rfl h8) rfl rfl (fun S' hM hok => h_fd hM rfl rfl rfl rfl rfl (hok _ rfl rfl)) rfl (bi h fun x11 h12 h => d_h (e := [(36, .i x11.commits_)]) (ks := [36]) rfl (dgy rfl rfl rfl rfl h8) rfl rfl (fun S' hM hk hok => h_ld hM hk rfl rfl rfl (zAj h12) rfl rfl rfl (hok _ rfl rfl)) rfl (d_s (.b (x3.at_ != x11.commits_)) rfl (dgy rfl rfl rfl rfl h8) rfl rfl rfl rfl (d_pF (.b (x3.at_ != x11.commits_)) h8 rfl rfl (yD (by kernel_rfl) ?_)))))
 refine c_if h rfl (fun h13 h => c_sr (o_1 (.i 34) rfl (zA (zF ?_)))) fun h13 h => zG (c_sr (o_1 (.i 0) rfl (zA (zF ?_))))
 ·
  cases h; exact eR rfl rfl
 cases h; exact eR rfl rfl
theorem zGy (p0 : (Option Nat)) (p1 : Int) (w0 : Hp) (r : ((List UInt8) × Int)) (h : zCp p0 p1 w0 = some r) : FCH Tryz.prog 71 [.t ((ptT 5 p0)), .t (.d (.lit (.int .i64 p1)))] [] [] (hpA w0) (hpA w0) (.tup [.d (.seq 1 (zN r.1)), .d (.lit (.int .i64 r.2))]) := by
 refine qR (rs := [.tmp 4, .tmp 5]) (n := 34) [] Tryz.func71 rfl rfl (Nat.le_of_ble_eq_true rfl) rfl (pins := []) rfl (L := [(HK, .hp (hpA w0)), (0, .t ((ptT 5 p0))), (1, .i p1)]) rfl (c_sr (o_m2 (.n) (.i 0) rfl (zA (zJ (c_sr (o_mv rfl (zI rfl) ?_))))))
 refine bi h fun x1 h2 h => o_cR (zDg _ w0 _ h2) (g0 rfl) rfl (a1 (qO rfl)) (r1 rfl) (o_1 (.i x1) rfl (zA (c_sr (o_m2 (.i x1) (.b (x1 != 0)) rfl (zA ?_)))))
 refine c_if h rfl (fun h3 h => c_sr (o_m3 (.i x1) (.n) (.i x1) rfl (zA (zF ?_)))) fun h3 h => zG (zJ (c_sr (o_mv rfl (zI rfl) ?_)))
 ·
  cases h
  exact ⟨⟨_, rfl, (.tup (.cons (.d (.nil _)) (.cons .r .nil)))⟩, trivial, rfl⟩
 rcases zQ h with ⟨h4, h⟩ | ⟨i5, h4, h⟩
 ·
  exact qF h
 refine o_nf 3 rfl (pq rfl h4) rfl (bi h fun x6 h7 h => o_ld (.t (.mpt (OB + cd 6 x6.now_))) rfl (zF0 h7) rfl (o_1 (.i p1) rfl (bi h fun x8 h9 h => o_of (e := [(20, .tup [.y ((zAu x8 p1).getD ([] : (List UInt8))), .b ((zAu x8 p1).isSome)])]) (g0 rfl) (h_mlk2H (kv := (fun z : Int => Value.int .i64 z)) (cv := (fun l : List UInt8 => D.y l)) mR rfl rfl rfl (gl_mp h9) rfl rfl (keyInt (by kernel_rfl)) rfl rfl (fun _ => RepD.nilSeq _ _) rfl rfl) rfl (o_m5 (.tup [.y ((zAu x8 p1).getD ([] : (List UInt8))), .b ((zAu x8 p1).isSome)]) (.y ((zAu x8 p1).getD ([] : (List UInt8)))) (.b ((zAu x8 p1).isSome)) (.y ((zAu x8 p1).getD ([] : (List UInt8)))) (.b ((zAu x8 p1).isSome)) rfl (zA (c_sr (o_1 (.b ((zAu x8 p1).isSome)) rfl (zA ?_))))))))
 refine c_if h rfl (fun h10 h => c_sr (o_1 (.y ((zAu x8 p1).getD ([] : (List UInt8)))) rfl ?_)) fun h10 h => zG (c_sr (o_f3 0 rfl (pq rfl h4) rfl (o_of (e := [(29, .t ((ptT 3 x6.l_)))]) (g0 rfl) (h_ld mR rfl rfl rfl rfl (zF0 h7) rfl (qI _ _) rfl rfl) rfl (o_1 (.i p1) rfl ?_))))
 ·
  refine bi h fun x11 h12 h => o_cA (zDv _ _ h12) (g0 rfl) rfl (.cons .r .nil) rfl (o_m2 (.y x11) (.i 0) rfl (zA (zF ?_)))
  cases h; exact eR rfl rfl
 refine bi h fun x13 h14 h => o_cR (zDo _ _ w0 _ h14) (g0 rfl) rfl (a2 (qO rfl) (aR rfl)) (r2 rfl) (o_m4 (.y x13.1) (.i x13.2) (.y x13.1) (.i x13.2) rfl (zA (zF ?_)))
 cases h; exact eR rfl rfl
theorem zES (p0 : (Option Nat)) (p1 : Int) (p2 : (List UInt8)) (w0 : Hp) (r : (Int × Hp)) (h : zBw p0 p1 p2 w0 = some r) : FCH Tryz.prog 70 [.t ((ptT 5 p0)), .t (.d (.lit (.int .i64 p1))), .t (.d (.seq 1 (zN p2)))] [] [] (hpA w0) (hpA r.2) (.t (.d (.lit (.int .i64 r.1)))) := by
 refine qR (rs := [.tmp 6]) (n := 36) [] Tryz.func70 rfl rfl (Nat.le_of_ble_eq_true rfl) rfl (pins := []) rfl (L := [(HK, .hp (hpA w0)), (0, .t ((ptT 5 p0))), (1, .i p1), (2, .y p2)]) rfl (c_sr (o_1 (.i 0) rfl (zA (zJ (c_sr (o_mv rfl (zI rfl) ?_))))))
 refine bi h fun x1 h2 h => o_cR (zDg _ w0 _ h2) (g0 rfl) rfl (a1 (qO rfl)) (r1 rfl) (o_1 (.i x1) rfl (zA (c_sr (o_m2 (.i x1) (.b (x1 != 0)) rfl (zA ?_)))))
 refine c_if h rfl (fun h3 h => c_sr (o_m2 (.i x1) (.i x1) rfl (zA (zF ?_)))) fun h3 h => zG (zJ (zS (c_sr (o_m3 (.i p1) (.b (decide (p1 < 0))) (.b (decide (p1 < 0))) rfl ?_))))
 ·
  cases h; exact eR rfl rfl
 rcases zP h with ⟨h4, h⟩ | ⟨h4, h⟩
 ·
  refine o_k4 rfl h4 (o_k3 rfl h4 (o_pT (.b true) h4 rfl (o_1 (.b true) rfl (zA (c_t rfl rfl (c_sr (o_1 (.i 31) rfl (zA (zF ?_)))))))))
  cases h; exact eR rfl rfl
 refine o_s (.i p1) (gy rfl rfl rfl h4) rfl rfl rfl (o_of (e := [(18, .t ((ptT 5 p0)))]) (gy rfl rfl rfl h4) (h_mv mR (.inl rfl) (zI rfl) rfl rfl) rfl ?_)
 rcases zQ h with ⟨h5, h⟩ | ⟨i6, h5, h⟩
 ·
  exact qF h
 refine o_of (e := [(19, .t (.hpt (cd 5 i6) 0))]) (gy rfl rfl rfl h4) (h_nc mR rfl (zI rfl) (zCx h5) rfl rfl) rfl (o_of (e := [(20, .t (.hpt (cd 5 i6) 0))]) (gy rfl rfl rfl h4) (h_fd mR rfl rfl rfl rfl rfl rfl) rfl (bi h fun x7 h8 h => o_of (e := [(21, .t ((ptT 3 x7.l_)))]) (gy rfl rfl rfl h4) (h_ld mR rfl rfl rfl rfl (zF0 h8) rfl (qI _ _) rfl rfl) rfl (bi h fun x9 h10 h => o_cR (zAX _ w0 _ h10) (gy rfl rfl rfl h4) rfl (a1 (qO rfl)) (r1 rfl) (o_s (.b (decide (p1 ≥ x9))) (gy rfl rfl rfl h4) rfl rfl rfl (o_pF (.b (decide (p1 ≥ x9))) h4 rfl (o_1 (.b (decide (p1 ≥ x9))) rfl (zA ?_)))))))
 refine c_if h rfl (fun h11 h => c_sr (o_1 (.i 31) rfl (zA (zF ?_)))) fun h11 h => c_sr (o_1 (.y p2) rfl (o_c (g0 rfl) rfl rfl rfl (lenE _ _) trivial (o_m2 (.b ((p2.length : Int) != 64)) (.b ((p2.length : Int) != 64)) rfl (zA ?_))))
 ·
  cases h; exact eR rfl rfl
 refine c_if h rfl (fun h12 h => c_sr (o_1 (.i 2) rfl (zA (zF ?_)))) fun h12 h => zG (zJ (qQ mixed (by kernel_rfl) (d_mv rfl rfl (pq rfl h5) (d_nc rfl rfl rfl (d_fd 3 rfl rfl rfl (d_ld (.t (.mpt (OB + cd 6 x7.now_))) rfl rfl (zF0 h8) rfl (d_1 (.i p1) rfl rfl (d_1 (.y p2) rfl rfl ?_))))))))
 ·
  cases h; exact eR rfl rfl
 refine bi h fun x13 h14 h => d_ca (zDv _ _ h14) rfl (dg0 rfl) rfl rfl rfl rfl rfl rfl rfl rfl (.cons .r .nil) rfl rfl (bi h fun x15 h16 h => d_h (e := [(HK, .hp (hpA (w0.st_mp x7.now_ (mset x15 p1 x13))))]) (ks := [HK]) rfl (dg0 rfl) rfl rfl (fun S' hM hk hok => h_mupH (kv := (fun z : Int => Value.int .i64 z)) (cv := (fun l : List UInt8 => D.y l)) hM hk rfl rfl (gl_mp h16) rfl rfl rfl (keyInt (by kernel_rfl)) rfl (su_mp (x' := (mset x15 p1 x13)) h16)) rfl (yD (by kernel_rfl) (c_sr (o_1 (.i 0) rfl (zA (zF ?_))))))
 cases h; exact eR rfl rfl
theorem zEK (p0 : (Option Nat)) (w0 : Hp) (r : Int) (h : zBZ p0 w0 = some r) : FCH Tryz.prog 69 [.t ((ptT 5 p0))] [] [] (hpA w0) (hpA w0) (.t (.d (.lit (.int .i64 r)))) := by
 refine qR (rs := [.tmp 2]) (n := 10) [] Tryz.func69 rfl rfl (Nat.le_of_ble_eq_true rfl) rfl (pins := []) rfl (L := [(HK, .hp (hpA w0)), (0, .t ((ptT 5 p0)))]) rfl (c_sr (o_1 (.i 0) rfl (zA (zJ (c_sr (o_mv rfl (zI rfl) ?_))))))
 rcases zQ h with ⟨h1, h⟩ | ⟨i2, h1, h⟩
 ·
  refine o_of (e := [(4, .b true)]) (g0 rfl) (h_pn mR (ng := false) rfl rfl rfl (zCz rfl h1) rfl rfl) rfl (zA (c_t rfl rfl (c_sr (o_1 (.i 0) rfl (zA (zF ?_))))))
  cases h; exact eR rfl rfl
 refine o_of (e := [(4, .b false)]) (g0 rfl) (h_pn mR (ng := false) rfl rfl rfl (zC2 rfl h1) rfl rfl) rfl (zA (c_f rfl rfl (zG (c_sr (o_f3 3 rfl (pq rfl h1) rfl (bi h fun x3 h4 h => o_ld (.t (.mpt (OB + cd 6 x3.now_))) rfl (zF0 h4) rfl ?_))))))
 refine bi h fun x5 h6 h => o_of (e := [(9, .i (x5.length : Int))]) (g0 rfl) (h_mlnH (kv := (fun z : Int => Value.int .i64 z)) (cv := (fun l : List UInt8 => D.y l)) mR rfl rfl rfl (gl_mp h6) rfl rfl rfl rfl) rfl (o_1 (.i (x5.length : Int)) rfl (zA (zF ?_)))
 cases h; exact eR rfl rfl
end Go.Proofs.YtjomnccladjpgaaGreat

/-
 Walks of functions: each function does what its model tells. Printed by a program of this claim's own (gen.py) off the given translation.
-/
namespace Go.Proofs.YtjomnccladjpgaaGreat
open Go Go.RowKit
set_option linter.unusedVariables false
set_option maxHeartbeats 4000000
set_option maxRecDepth 20000
theorem zCV (p0 : (List UInt8)) (p1 : (List UInt8)) (r : Bool) (h : zAe p0 p1 = some r) : FC Tryz.prog 18 [.t (.d (.seq 1 (zN p0))), .t (.d (.seq 1 (zN p1)))] [] (.t (.d (.lit (.bool r)))) := by
 refine zD5 (rs := [.tmp 4]) (n := 26) Tryz.func18 rfl rfl (Nat.le_of_ble_eq_true rfl) rfl (pins := []) rfl (L := [(0, .y p0), (1, .y p1)]) rfl (c_sr (o_1 (.b false) rfl (zA (zJ (c_sr (o_1 (.y p0) rfl (o_c (g0 rfl) rfl rfl rfl (lenE _ _) trivial (o_1 (.y p1) rfl (o_c (g0 rfl) rfl rfl rfl (lenE _ _) trivial (o_1 (.b ((p0.length : Int) != (p1.length : Int))) rfl (zA ?_)))))))))))
 refine c_if h rfl (fun h1 h => c_sr (o_1 (.b false) rfl (zA (zF ?_)))) fun h1 h => zG (zJ (c_sr (o_1 (.i 0) rfl (zA (zS (c_lp (fun (z2 : Int) => [(0, .y p0), (1, .y p1), (5, .i z2)]) (fun nl1 z2 => zDF p0 p1 nl1 z2) (p0.length + 1) 0 h (fun _ => rfl) rfl rfl ?_))))))
 ·
  cases h
  exact end0 rfl .r
 rintro nl1 z2 h
 refine zJ (c_sr (o_m2 (.i z2) (.y p0) rfl (o_c (g0 rfl) rfl rfl rfl (lenE _ _) trivial (o_1 (.b (decide (z2 < (p0.length : Int)))) rfl (zA ?_)))))
 refine c_if h rfl (fun h3 h => zG (zJ (zS (zJ (qQ mixed (by kernel_rfl) (d_1 (.y p0) rfl rfl (d_1 (.i z2) rfl rfl ?_))))))) fun h3 h => zAQ (c_sr (o_1 (.b true) rfl (zA (zF ?_))))
 ·
  refine bi h fun x4 h5 h => d_c rfl (dg0 rfl) rfl rfl rfl rfl (idxE h5) (idxC h5) (d_1 (.t (.d (.lit (.int .u8 (x4.toNat : Int))))) rfl rfl (d_1 (.y p1) rfl rfl (d_1 (.i z2) rfl rfl (bi h fun x6 h7 h => d_c rfl (dg0 rfl) rfl rfl rfl rfl (idxE h7) (idxC h7) (d_1 (.t (.d (.lit (.int .u8 (x6.toNat : Int))))) rfl rfl (d_1 (.b ((x4.toNat : Int) != (x6.toNat : Int))) rfl rfl (yD (by kernel_rfl) ?_)))))))
  refine c_if h rfl (fun h8 h => c_sr (o_1 (.b false) rfl (zA (zF ?_)))) fun h8 h => zG (zL (o_m3 (.i z2) (.i (wi (z2 + 1))) (.i (wi (z2 + 1))) rfl (zA ?_)))
  ·
   cases h
   exact end0 rfl .r
  exact lE (wi (z2 + 1)) h rfl rfl
 cases h
 exact end0 rfl .r
theorem zFY (p0 : UInt8) (w0 : Hp) (r : (List UInt8)) (h : zFi p0 = some r) : FCH Tryz.prog 22 [.t (.d (.lit (.int .u8 (p0.toNat : Int))))] [] [] (hpA w0) (hpA w0) (.t (.d (.seq 1 (zN r)))) := by
 refine qR (rs := [.tmp 2]) (n := 17) [0] Tryz.func22 rfl rfl (Nat.le_of_ble_eq_true rfl) rfl (pins := []) rfl (L := [(HK, .hp (hpA w0)), (OB + 0, .free), (0, .t (.d (.lit (.int .u8 (p0.toNat : Int)))))]) rfl (c_sr (o_1 (.n) rfl (zA (c_sr ?_))))
 refine bi h fun x1 h2 h => o_of (e := [((OB + 0), .box (fl (dT cU8) (List.replicate x1 (0 : UInt8)))), (5, .t (.view 0 0 5 1 x1))]) (g0 rfl) (zKr mR rfl rfl rfl rfl rfl rfl rfl (by kernel_rfl) rfl h2 (zH6 (c := cU8) (z := (0 : UInt8)) (by kernel_rfl) x1) rfl rfl rfl rfl) rfl (o_1 (.t (.view 0 0 5 1 x1)) rfl (zA (zJ (c_sr (o_1 (.t (.view 0 0 5 1 x1)) rfl (o_of (e := [(7, .i ((x1 : Nat) : Int))]) (g0 rfl) (h_lln mR rfl rfl rfl rfl rfl rfl) rfl (o_1 (.i 0) rfl ?_)))))))
 refine zA (zS (zDM (fun (q : Int × (List UInt8)) => [(0, .t (.d (.lit (.int .u8 (p0.toNat : Int))))), (3, .t (.view 0 0 5 1 q.2.length)), (7, .i ((x1 : Nat) : Int)), (8, .i q.1), ((OB + 0), .box (fl (dT cU8) q.2)), (HK, .hp (hpA w0))]) (fun nl1 q => zEj x1 p0 nl1 q.1 q.2) (Int.toNat ((x1 : Nat) : Int) + 1) (0, (List.replicate x1 (0 : UInt8))) [] h (fun _ => rfl) rfl trivial ⟨.r, (.vwn (by first | rfl | omega | (simp; done) | (dsimp only; omega) | (simp; omega))), .r, .r, .r, .r, trivial⟩ rfl ?_))
 rintro nl1 ⟨z3, z4⟩ h
 refine c_sr (o_1 (.b (decide (z3 < ((x1 : Nat) : Int)))) rfl (zA (zJ ?_)))
 refine c_if h rfl (fun h5 h => zG (zJ (zS (c_sr (o_m2 (.i z3) (.i z3) rfl (zA (zL ?_))))))) fun h5 h => zAQ (c_sr (o_m2 (.t (.view 0 0 5 1 z4.length)) (.t (.view 0 0 5 1 z4.length)) rfl (zA (c_frz 2 0 rfl rfl (by first | (simp; done) | (rw [List.length_map]; omega)) (zEM _ _) (zEp (c := cU8) (fun _ => rfl) _) rfl ⟨.inr ⟨_, rfl, zCm _⟩, by (repeat (first | exact ObP.nil | refine ObP.cons (.inl rfl) ?_ | refine ObP.cons (.inr (fun _ => rfl)) ?_ | refine ObP.cons (.inr (zIG (zBp _ _))) ?_ | refine ObP.cons (.inr (ob_gb _ _)) ?_))⟩ rfl (zF ?_)))))
 ·
  refine o_m3 (.t (.view 0 0 5 1 z4.length)) (.i z3) (.t (.d (.lit (.int .u8 (p0.toNat : Int))))) rfl (bi h fun x6 h7 h => o_of (e := [(14, .ref (OB + 0) (0 + Int.toNat z3 * 1))]) (g0 rfl) (h_lix mR rfl rfl rfl rfl rfl (idxV rfl h7) rfl rfl rfl) rfl (o_of (e := [((OB + 0), .box (fl (dT cU8) (z4.set (Int.toNat z3) p0)))]) (g0 rfl) (h_lst mR rfl rfl rfl rfl rfl rfl rfl (zIs h7 (fun _ => rfl)) (zKS h7 p0 (fun _ => rfl) rfl)) rfl (zA (zL (o_m2 (.i (wi (z3 + 1))) (.i (wi (z3 + 1))) rfl (zA ?_))))))
  exact ⟨((wi (z3 + 1)), (z4.set (Int.toNat z3) p0)), [], h, rfl, trivial, ⟨.r, (.vwn (by first | rfl | omega | (simp; done) | (dsimp only; omega) | (simp; omega))), .r, .r, .r, .r, trivial⟩, rfl⟩
 cases h; exact eR rfl rfl
theorem zIl (w0 : Hp) (r : (Bool × Hp)) (h : zD8 w0 = some r) : FCH Tryz.prog 4 [] [] [] (hpA w0) (hpA r.2) (.t (.d (.lit (.bool r.1)))) := by
 refine qR (rs := [.tmp 0]) (n := 58) [] Tryz.func4 rfl rfl (Nat.le_of_ble_eq_true rfl) rfl (pins := []) rfl (L := [(HK, .hp (hpA w0))]) rfl (c_sr (o_1 (.b false) rfl (zA (c_sr ?_))))
 refine bi h fun x1 h2 h => o_cH (zGn _ w0 _ h2) (g0 rfl) rfl (a1 (aR rfl)) (.tup (.cons (zHh _ _) (.cons (.flat rfl) .nil))) (o_c (g0 rfl) rfl rfl rfl (congrArg A.tup (zDn (zEw _ _) (zDn rfl zH2))) trivial (o_c (g0 rfl) rfl rfl rfl (congrArg A.t (zEw _ _)) trivial (o_1 (.i x1.2.1) rfl (o_of (e := [(1, .t ((ptT 1 x1.1)))]) (g0 rfl) (h_mv mR (.inr rfl) (zI rfl) rfl rfl) rfl (o_1 (.i x1.2.1) rfl (zA (zJ (c_sr ?_))))))))
 refine o_m3 (.i x1.2.1) (.b (x1.2.1 != 0)) (.b (x1.2.1 != 0)) rfl ?_
 rcases zP h with ⟨h3, h⟩ | ⟨h3, h⟩
 ·
  refine o_k3 rfl h3 (o_pT (.b true) h3 rfl (zA (c_t rfl rfl (c_sr (o_1 (.b false) rfl (zA (zF ?_)))))))
  cases h; exact eR rfl rfl
 refine o_of (e := [(12, .t ((ptT 1 x1.1)))]) (gy rfl rfl rfl h3) (h_mv mR (.inl rfl) (zI rfl) rfl rfl) rfl (bi h fun x4 h5 h => o_cH (zEN _ _ x1.2.2 _ h5) (gy rfl rfl rfl h3) rfl (a2 (qO rfl) (aR rfl)) (r1 rfl) (o_s (.b (x4.1 != 0)) (gy rfl rfl rfl h3) rfl rfl rfl (o_pF (.b (x4.1 != 0)) h3 rfl (zA ?_))))
 refine c_if h rfl (fun h6 h => c_sr (o_1 (.b false) rfl (zA (zF ?_)))) fun h6 h => zG (c_sr (o_mv rfl (zI rfl) ?_))
 ·
  cases h; exact eR rfl rfl
 refine bi h fun x7 h8 h => o_cH (zGc _ x4.2 _ h8) (g0 rfl) rfl (a1 (qO rfl)) (.tup (.cons (zHh _ _) (.cons (.flat rfl) .nil))) (o_c (g0 rfl) rfl rfl rfl (congrArg A.tup (zDn (zEw _ _) (zDn rfl zH2))) trivial (o_c (g0 rfl) rfl rfl rfl (congrArg A.t (zEw _ _)) trivial (o_1 (.i x7.2.1) rfl (o_of (e := [(3, .t ((ptT 3 x7.1)))]) (g0 rfl) (h_mv mR (.inr rfl) (zI rfl) rfl rfl) rfl (o_1 (.i x7.2.1) rfl (zA (zJ (c_sr ?_))))))))
 refine o_m3 (.i x7.2.1) (.b (x7.2.1 != 0)) (.b (x7.2.1 != 0)) rfl ?_
 rcases zP h with ⟨h9, h⟩ | ⟨h9, h⟩
 ·
  refine o_k3 rfl h9 (o_pT (.b true) h9 rfl (o_1 (.b true) rfl (o_k3 rfl rfl (o_pT (.b true) rfl rfl (o_1 (.b true) rfl (o_k4 rfl rfl (o_k2 rfl rfl ?_)))))))
  refine o_pT (.b true) rfl rfl (zA (c_t rfl rfl (c_sr (o_1 (.b false) rfl (zA (zF ?_))))))
  cases h; exact eR rfl rfl
 refine o_of (e := [(24, .t ((ptT 3 x7.1)))]) (gy rfl rfl rfl h9) (h_mv mR (.inl rfl) (zI rfl) rfl rfl) rfl (bi h fun x10 h11 h => o_cR (zAX _ x7.2.2 _ h11) (gy rfl rfl rfl h9) rfl (a1 (qO rfl)) (r1 rfl) (o_s (.b (x10 != 1)) (gy rfl rfl rfl h9) rfl rfl rfl (o_pF (.b (x10 != 1)) h9 rfl (o_1 (.b (x10 != 1)) rfl ?_))))
 rcases zP h with ⟨h12, h⟩ | ⟨h12, h⟩
 ·
  refine o_k3 rfl h12 (o_pT (.b true) h12 rfl (o_1 (.b true) rfl (o_k4 rfl rfl (o_k1 rfl rfl ?_))))
  refine o_k1 rfl rfl (o_pT (.b true) rfl rfl (zA (c_t rfl rfl (c_sr (o_1 (.b false) rfl (zA (zF ?_)))))))
  cases h; exact eR rfl rfl
 refine o_of (e := [(29, .t ((ptT 3 x7.1)))]) (gy rfl rfl rfl h12) (h_mv mR (.inl rfl) (zI rfl) rfl rfl) rfl (bi h fun x13 h14 h => o_cR (zEv _ x7.2.2 _ h14) (gy rfl rfl rfl h12) rfl (a1 (qO rfl)) (r1 rfl) (o_s (.b (x13 != 4)) (gy rfl rfl rfl h12) rfl rfl rfl (o_pF (.b (x13 != 4)) h12 rfl (o_1 (.b (x13 != 4)) rfl ?_))))
 rcases zP h with ⟨h15, h⟩ | ⟨h15, h⟩
 ·
  refine o_k4 rfl h15 (o_k2 rfl h15 (o_pT (.b true) h15 rfl (zA (c_t rfl rfl (c_sr (o_1 (.b false) rfl (zA (zF ?_))))))))
  cases h; exact eR rfl rfl
 refine o_of (e := [(34, .t ((ptT 3 x7.1)))]) (gy rfl rfl rfl h15) (h_mv mR (.inl rfl) (zI rfl) rfl rfl) rfl (bi h fun x16 h17 h => o_cR (zFY _ x7.2.2 _ h17) (gy rfl rfl rfl h15) rfl (a1 (aR rfl)) (r1 rfl) (o_s (.t (.agg [.i 0, .y x16])) (gy rfl rfl rfl h15) rfl rfl rfl (o_s (.t (.own 61 2 (List.map zB [(zC.mk 0 x16)]))) (gy rfl rfl rfl h15) rfl rfl rfl (bi h fun x18 h19 h => o_cH (zDJ _ _ x7.2.2 _ h19) (gy rfl rfl rfl h15) rfl (a2 (qO rfl) (aR rfl)) (r1 rfl) (o_s (.b (x18.1 != 0)) (gy rfl rfl rfl h15) rfl rfl rfl (o_pF (.b (x18.1 != 0)) h15 rfl (zA ?_)))))))
 refine c_if h rfl (fun h20 h => c_sr (o_1 (.b false) rfl (zA (zF ?_)))) fun h20 h => zG (c_sr (o_mv rfl (zI rfl) ?_))
 ·
  cases h; exact eR rfl rfl
 refine bi h fun x21 h22 h => o_cR (zDo _ _ x18.2 _ h22) (g0 rfl) rfl (a2 (qO rfl) (aR rfl)) (r2 rfl) (o_m5 (.tup [.y x21.1, .i x21.2]) (.y x21.1) (.i x21.2) (.y x21.1) (.i x21.2) rfl (zA (c_sr (o_m3 (.i x21.2) (.b (x21.2 == 0)) (.b (x21.2 == 0)) rfl ?_))))
 rcases zP h with ⟨h23, h⟩ | ⟨h23, h⟩
 ·
  refine o_s (.y x21.1) (gy rfl rfl rfl h23) rfl rfl rfl (bi h fun x24 h25 h => o_cR (zFY _ x18.2 _ h25) (gy rfl rfl rfl h23) rfl (a1 (aR rfl)) (r1 rfl) (bi h fun x26 h27 h => o_cA (zCV _ _ _ h27) (gy rfl rfl rfl h23) rfl (.cons .r (.cons .r .nil)) rfl (o_pT (.b x26) h23 rfl (o_1 (.b x26) rfl ?_))))
  rcases zP h with ⟨h28, h⟩ | ⟨h28, h⟩
  ·
   refine o_of (e := [(54, .t ((ptT 3 x7.1)))]) (gy rfl rfl rfl h28) (h_mv mR (.inl rfl) (zI rfl) rfl rfl) rfl (bi h fun x29 h30 h => o_cR (zDs _ x18.2 _ h30) (gy rfl rfl rfl h28) rfl (a1 (qO rfl)) (r1 rfl) (o_s (.b (x29 == 0)) (gy rfl rfl rfl h28) rfl rfl rfl (o_pT (.b (x29 == 0)) h28 rfl (o_1 (.b (x29 == 0)) rfl (zA (zF ?_))))))
   cases h; exact eR rfl rfl
  refine o_k3 rfl h28 (o_pF (.b false) h28 rfl (o_1 (.b false) rfl (zA (zF ?_))))
  cases h; exact eR rfl rfl
 refine o_k3 rfl h23 (o_pF (.b false) h23 rfl (o_1 (.b false) rfl (o_k3 rfl rfl (o_pF (.b false) rfl rfl (o_1 (.b false) rfl (zA (zF ?_)))))))
 cases h; exact eR rfl rfl
theorem zGx (p0 : (List zC)) (r : Bool) (h : zDI p0 = some r) : FC Tryz.prog 32 [.t (.d (.seq 2 (List.map zB p0)))] [] (.t (.d (.lit (.bool r)))) := by
 refine zD5 (rs := [.tmp 2]) (n := 19) Tryz.func32 rfl rfl (Nat.le_of_ble_eq_true rfl) rfl (pins := []) rfl (L := [(0, .t (.d (.seq 2 (List.map zB p0))))]) rfl (c_sr (o_1 (.b false) rfl (zA (zJ (c_sr (o_1 (.t (.d (.seq 2 (List.map zB p0)))) rfl (o_c (g0 rfl) rfl rfl rfl (lenE _ _) trivial (o_1 (.b (decide ((p0.length : Int) > 10))) rfl (zA ?_)))))))))
 refine c_if h rfl (fun h1 h => c_sr (o_1 (.b false) rfl (zA (zF ?_)))) fun h1 h => zG (zJ (c_sr (o_1 (.t (.d (.seq 2 (List.map zB p0)))) rfl (o_c (g0 rfl) rfl rfl rfl (lenE _ _) trivial (o_1 (.i 0) rfl (zA (zS ?_)))))))
 ·
  cases h
  exact end0 rfl .r
 refine c_lp (fun (z2 : Int) => [(8, .t (.d (.seq 2 (List.map zB p0)))), (9, .i (p0.length : Int)), (10, .i z2)]) (fun nl1 z2 => zAv p0 nl1 z2) (p0.length + 1) 0 h (fun _ => rfl) rfl rfl ?_
 rintro nl1 z2 h
 refine c_sr (o_1 (.b (decide (z2 < (p0.length : Int)))) rfl (zA (zJ ?_)))
 refine c_if h rfl (fun h3 h => zG (zJ (zS (c_sr ?_)))) fun h3 h => zAQ (c_sr (o_1 (.b true) rfl (zA (zF ?_))))
 ·
  refine bi h fun x4 h5 h => o_c (g0 rfl) rfl rfl rfl (idxE h5) (idxC h5) (o_m2 (.t (.agg [.i x4.Home, .y x4.Data])) (.box [.i 0, .n]) rfl (o_st (.box [.i x4.Home, .y x4.Data]) (g0 rfl) rfl rfl rfl (zA (c_sr (o_m2 (.ref 4 1) (.y x4.Data) rfl (o_c (g0 rfl) rfl rfl rfl (lenE _ _) trivial (o_1 (.b (decide ((x4.Data.length : Int) > 100))) rfl ?_)))))))
  refine zA (c_if h rfl (fun h6 h => c_sr (o_1 (.b false) rfl (zA (zF ?_)))) fun h6 h => zG (zL (o_m2 (.i (wi (z2 + 1))) (.i (wi (z2 + 1))) rfl (zA ?_))))
  ·
   cases h
   exact end0 rfl .r
  exact lE (wi (z2 + 1)) h rfl rfl
 cases h
 exact end0 rfl .r
theorem zKk (p0 : (List zAx)) (r : Bool) (h : zHG p0 = some r) : FC Tryz.prog 9 [.t (.d (.seq 4 (List.map zBK p0)))] [] (.t (.d (.lit (.bool r)))) := by
 refine zD5 (rs := [.tmp 2]) (n := 25) Tryz.func9 rfl rfl (Nat.le_of_ble_eq_true rfl) rfl (pins := []) rfl (L := [(0, .t (.d (.seq 4 (List.map zBK p0))))]) rfl (c_sr (o_1 (.b false) rfl (zA (yY r (fun (_ : Unit) => [(0, .t (.d (.seq 4 (List.map zBK p0))))]) (fun _ => zFJ p0) ?_ ?_))))
 ·
  refine c_sr (o_1 (.t (.d (.seq 4 (List.map zBK p0)))) rfl (o_c (g0 rfl) rfl rfl rfl (lenE _ _) trivial (o_1 (.i 0) rfl (zA (zS (c_lp (fun (z1 : Int) => [(0, .t (.d (.seq 4 (List.map zBK p0)))), (5, .t (.d (.seq 4 (List.map zBK p0)))), (6, .i (p0.length : Int)), (7, .i z1)]) (fun nl2 z1 => zDk p0 nl2 z1) (p0.length + 1) 0 h (fun _ => rfl) rfl rfl ?_))))))
  rintro nl2 z1 h
  refine c_sr (o_1 (.b (decide (z1 < (p0.length : Int)))) rfl (zA (zJ (c_if h rfl (fun h2 h => zG (zJ (zS (c_sr ?_)))) fun h2 h => zAQ ?_))))
  ·
   refine bi h fun x3 h4 h => o_c (g0 rfl) rfl rfl rfl (idxE h4) (idxC h4) (o_m2 (.t (.agg [.i x3.Kind, .i x3.N, .seq 2 (List.map zB x3.W), .y x3.B])) (.box [.i 0, .i 0, .n, .n]) rfl (o_st (.box [.i x3.Kind, .i x3.N, .d (.seq 2 (List.map zB x3.W)), .y x3.B]) (g0 rfl) rfl rfl rfl (zA (c_sr (o_m2 (.ref 4 3) (.y x3.B) rfl (o_c (g0 rfl) rfl rfl rfl (lenE _ _) trivial (o_m2 (.b (decide ((x3.B.length : Int) > 100))) (.b (decide ((x3.B.length : Int) > 100))) rfl ?_)))))))
   rcases zP h with ⟨h5, h⟩ | ⟨h5, h⟩
   ·
    refine o_k4 rfl h5 (o_pT (.b true) h5 rfl (zA (c_t rfl rfl (c_sr (o_1 (.b false) rfl (zA (zF ?_)))))))
    cases h
    exact end0 rfl .r
   refine o_s (.ref 4 2) (gy rfl rfl rfl h5) rfl rfl rfl (o_s (.t (.d (.seq 2 (List.map zB x3.W)))) (gy rfl rfl rfl h5) rfl rfl rfl (bi h fun x6 h7 h => o_cA (zGx _ _ h7) (gy rfl rfl rfl h5) rfl (.cons .r .nil) rfl (o_s (.b (!x6)) (gy rfl rfl rfl h5) rfl rfl rfl (o_pF (.b (!x6)) h5 rfl (zA ?_)))))
   refine c_if h rfl (fun h8 h => c_sr (o_1 (.b false) rfl (zA (zF ?_)))) fun h8 h => zG (zL (o_m2 (.i (wi (z1 + 1))) (.i (wi (z1 + 1))) rfl (zA ?_)))
   ·
    cases h
    exact end0 rfl .r
   exact lE (wi (z1 + 1)) h rfl rfl
  exact lE () h rfl rfl
 rintro ⟨⟩ h
 refine c_sr (o_1 (.t (.d (.seq 4 (List.map zBK p0)))) rfl (o_c (g0 rfl) rfl rfl rfl (lenE _ _) trivial (o_m2 (.b (decide ((p0.length : Int) ≤ 30))) (.b (decide ((p0.length : Int) ≤ 30))) rfl (zA (zF ?_)))))
 cases h
 exact end0 rfl .r
end Go.Proofs.YtjomnccladjpgaaGreat
