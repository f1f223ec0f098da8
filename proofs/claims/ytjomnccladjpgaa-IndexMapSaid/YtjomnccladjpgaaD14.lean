/-
  Texts joined: see the remark at the head of each part.
-/
import Derived.Test.YtjomnccladjpgaaD12
import Derived.Test.YtjomnccladjpgaaD11
import Derived.Test.YtjomnccladjpgaaD09
import Derived.Test.YtjomnccladjpgaaD08
import Derived.Test.YtjomnccladjpgaaD13
import Derived.Test.YtjomnccladjpgaaD10
import Derived.ScopeJumps
set_option linter.unusedVariables false
set_option linter.unusedSimpArgs false
/-
 Walks of functions: each function does what its model tells. Printed by a program of this claim's own (gen.py) off the given translation.
-/
namespace Go.Proofs.Ytjomnccladjpgaa
open Go Go.RowKit
set_option linter.unusedVariables false
set_option maxHeartbeats 4000000
set_option maxRecDepth 20000
theorem zEO (p1 : Int) (r : (List UInt8)) (h : zCv p1 = some r) : FC Try.prog 138 [.t (.d (.lit (.slice none 0 0))), .t (.d (.lit (.int .i64 p1)))] [] (.t (.own 5 1 (qE r))) := by
 refine zDl (rs := [.tmp 4]) (n := 27) Try.func138 rfl rfl (Nat.le_of_ble_eq_true rfl) rfl (pins := []) rfl (L := [(0, .n), (1, .i p1)]) rfl (c_sr (o_1 (.n) rfl (zB (zL (c_sr (o_m2 (.i p1) (.b (decide (p1 < 0))) rfl (zB ?_)))))))
 refine c_if h rfl (fun h1 h => zS ?_) fun h1 h => zK (zL (c_sr (o_m2 (.i p1) (.n) rfl (o_of (e := [(10, .i 0)]) (g0 rfl) (h_cap0 mR rfl rfl rfl rfl rfl) rfl (o_m5 (.n) (.i 0) (.i (wi (0 - 0))) (.i (wi (p1 - (wi (0 - 0))))) (.i (wi (p1 - (wi (0 - 0))))) rfl (zB (c_sr ?_)))))))
 ·
  exact qV h
 refine o_m2 (.i (wi (p1 - (wi (0 - 0))))) (.b (decide ((wi (p1 - (wi (0 - 0)))) > 0))) rfl (zB ?_)
 refine c_if h rfl (fun h2 h => zS (o_m2 (.n) (.n) rfl (o_of (e := [(19, .i 0)]) (g0 rfl) (h_cap0 mR rfl rfl rfl rfl rfl) rfl (o_of (e := [(20, .n)]) (g0 rfl) (h_slnil mR rfl rfl rfl rfl rfl rfl rfl) rfl (o_1 (.i (wi (p1 - (wi (0 - 0))))) rfl ?_))))) fun h2 h => zK (c_sr (o_m2 (.n) (.n) rfl (zB (zJ ?_))))
 ·
  refine bi h fun x3 h4 h => o_of (e := [(22, .fr 5 1)]) (g0 rfl) (h_apfr mR rfl rfl rfl rfl h4 rfl rfl) rfl (o_m2 (.n) (.i 0) rfl (o_of (e := [(22, .any), (25, .t (.own 5 1 (qE [])))]) (g0 rfl) (h_slfr mR rfl rfl rfl rfl rfl rfl rfl rfl rfl) rfl (o_2 (.y []) (.t (.own 5 1 (qE []))) (g0 rfl) rfl rfl rfl (zB (c_sr (o_2 (.y []) (.t (.own 5 1 (qE []))) (g0 rfl) rfl rfl rfl (o_2 (.y []) (.t (.own 5 1 (qE []))) (g0 rfl) rfl rfl rfl ?_)))))))
  refine zB (zJ ?_)
  cases h
  exact end0 rfl .r
 cases h
 exact end0 rfl (.t (.nilOwn _ _))
theorem zEe (p0 : (List (List UInt8))) (r : (List UInt8)) (h : zC9 p0 = some r) : FC Try.prog 131 [.t (.d (.seq 1 (List.map (cSl 1 cU8) p0)))] [] (.t (.own 5 1 (qE r))) := by
 refine zDl (rs := [.tmp 2]) (n := 36) Try.func131 rfl rfl (Nat.le_of_ble_eq_true rfl) rfl (pins := []) rfl (L := [(0, .t (.d (.seq 1 (List.map (cSl 1 cU8) p0))))]) rfl (c_sr (o_1 (.n) rfl (zB (c_sr (o_1 (.i 0) rfl (zB (zEM r (fun (y1 : Int) => [(0, .t (.d (.seq 1 (List.map (cSl 1 cU8) p0)))), (3, .i y1)]) (fun y1 => zCh p0 y1) ?_ ?_)))))))
 ·
  refine c_sr (o_1 (.t (.d (.seq 1 (List.map (cSl 1 cU8) p0)))) rfl (o_c (g0 rfl) rfl rfl rfl (lenE _ _) trivial (o_1 (.i 0) rfl (zB (qC (c_lp (fun (q : Int × Int) => [(0, .t (.d (.seq 1 (List.map (cSl 1 cU8) p0)))), (3, .i q.1), (9, .t (.d (.seq 1 (List.map (cSl 1 cU8) p0)))), (10, .i (p0.length : Int)), (11, .i q.2)]) (fun nl3 q => zBX p0 nl3 q.1 q.2) (p0.length + 1) (0, 0) h (fun _ => rfl) rfl rfl ?_))))))
  rintro nl3 ⟨z11, z12⟩ h
  refine c_sr (o_1 (.b (decide (z12 < (p0.length : Int)))) rfl (zB (zL (c_if h rfl (fun h13 h => zK (zL (qC (c_sr ?_)))) fun h13 h => zAs ?_))))
  ·
   refine bi h fun x14 h15 h => o_c (g0 rfl) rfl rfl rfl (idxE h15) (idxC h15) (o_m2 (.y x14) (.y x14) rfl (zB (c_sr (o_m2 (.i z11) (.y x14) rfl (o_c (g0 rfl) rfl rfl rfl (lenE _ _) trivial (o_m2 (.i (wi (z11 + (x14.length : Int)))) (.i (wi (z11 + (x14.length : Int)))) rfl (zB (c_sr ?_))))))))
   refine o_m2 (.i (wi (z11 + (x14.length : Int)))) (.b (decide ((wi (z11 + (x14.length : Int))) < 0))) rfl (zB (c_if h rfl (fun h16 h => zS ?_) fun h16 h => zK (zS (o_m2 (.i (wi (z12 + 1))) (.i (wi (z12 + 1))) rfl (zB ?_)))))
   ·
    exact qV h
   exact lE ((wi (z11 + (x14.length : Int))), (wi (z12 + 1))) h rfl rfl
  exact lE z11 h rfl rfl
 rintro y1 h
 refine c_sr (o_1 (.i y1) rfl (bi h fun x2 h3 h => o_cA (zEO _ _ h3) (g0 rfl) rfl (.cons .r (.cons .r .nil)) rfl (o_2 (.y x2) (.t (.own 5 1 (qE x2))) (g0 rfl) rfl rfl rfl (zB (zL (c_sr (o_1 (.t (.d (.seq 1 (List.map (cSl 1 cU8) p0)))) rfl (o_c (g0 rfl) rfl rfl rfl (lenE _ _) trivial (o_1 (.i 0) rfl ?_)))))))))
 refine zB (qC (c_lp (fun (q : (List UInt8) × Int) => [(6, .t (.own 5 1 (qE q.1))), (25, .t (.d (.seq 1 (List.map (cSl 1 cU8) p0)))), (26, .i (p0.length : Int)), (27, .i q.2)]) (fun nl2 q => zBb p0 nl2 q.1 q.2) (p0.length + 1) (x2, 0) h (fun _ => rfl) rfl rfl ?_))
 rintro nl2 ⟨z4, z5⟩ h
 refine c_sr (o_1 (.b (decide (z5 < (p0.length : Int)))) rfl (zB (zL ?_)))
 refine c_if h rfl (fun h6 h => zK (zL (qC (c_sr ?_)))) fun h6 h => zAs (c_sr (o_2 (.y z4) (.t (.own 5 1 (qE z4))) (g0 rfl) rfl rfl rfl (o_2 (.y z4) (.t (.own 5 1 (qE z4))) (g0 rfl) rfl rfl rfl (zB (zJ ?_)))))
 ·
  refine bi h fun x7 h8 h => o_c (g0 rfl) rfl rfl rfl (idxE h8) (idxC h8) (o_m2 (.y x7) (.y x7) rfl (zB (zS (o_2 (.y z4) (.t (.own 5 1 (qE z4))) (g0 rfl) rfl rfl rfl (o_1 (.y x7) rfl ?_)))))
  refine bi h fun x9 h10 h => o_2c (g0 rfl) rfl rfl rfl (appE (c := cU8) h10) (appC (c := cU8) h10) (o_2 (.y x9) (.t (.own 5 1 (qE x9))) (g0 rfl) rfl rfl rfl (zB (zS (o_m2 (.i (wi (z5 + 1))) (.i (wi (z5 + 1))) rfl (zB ?_)))))
  exact lE (x9, (wi (z5 + 1))) h rfl rfl
 cases h
 exact end0 rfl .r
theorem zGP (p0 : (Option Nat)) (p1 : Int) (w0 : Hp) (r : ((List qF) × Int)) (h : zDD p0 p1 w0 = some r) : FCH Try.prog 110 [.t ((ptT 3 p0)), .t (.d (.lit (.int .i64 p1)))] [] [] (hpA w0) (hpA w0) (.tup [.d (.seq 2 (List.map zT r.1)), .d (.lit (.int .i64 r.2))]) := by
 refine qY (rs := [.tmp 4, .tmp 5]) (n := 88) [] Try.func110 rfl rfl (Nat.le_of_ble_eq_true rfl) rfl (pins := []) rfl (L := [(HK, .hp (hpA w0)), (0, .t ((ptT 3 p0))), (1, .i p1)]) rfl (c_sr (o_m2 (.n) (.i 0) rfl (zB (c_sr (o_1 (.n) rfl (zB (c_sr (o_m2 (.i p1) (.i p1) rfl (zB (qC (zIu (fun (q : (List qF) × Int) => [(0, .t ((ptT 3 p0))), (1, .i p1), (6, .t (.own 100 2 (List.map zT q.1))), (7, .i q.2), (HK, .hp (hpA w0))]) (fun nl1 q => yW p0 w0 p1 nl1 q.1 q.2) (16400) ([], p1) [] h (fun _ => rfl) rfl trivial ⟨.r, .r, (.t (.nilOwn _ _)), .r, .r, trivial⟩ rfl ?_)))))))))))
 rintro nl1 ⟨z1, z2⟩ h
 refine zL (qC (c_sr (o_mv rfl (zM rfl) (o_1 (.i z2) rfl (bi h fun x3 h4 h => o_cR (zE6 _ _ w0 _ h4) (g0 rfl) rfl (a2 (yJ rfl) (aR rfl)) (r1 rfl) (o_1 (.box [.i 0, .i 0, .n, .b false]) rfl (o_st (.box [.i x3.kind_, .i x3.number_, .y x3.data_, .b x3.ok_]) (g0 rfl) rfl rfl rfl (zB ?_))))))))
 refine zEM r (fun (q : (Option Nat) × Int × Bool) => [(0, .t ((ptT 3 p0))), (1, .i p1), (6, .t (.own 100 2 (List.map zT z1))), (7, .i z2), (8, .box [.i x3.kind_, .i x3.number_, .y x3.data_, .b x3.ok_]), (51, .ref 8 1), (52, .i x3.number_), (53, .t ((ptT 3 q.1))), (54, .i q.2.1), (55, .b q.2.2), (HK, .hp (hpA w0))]) (fun q => zC2 (yW p0 w0 p1 nl1) p0 z2 w0 x3 z1 q.1 q.2.1 q.2.2) ?_ ?_
 ·
  refine qC (c_sr (o_m4 (.ref 8 3) (.b x3.ok_) (.b (!x3.ok_)) (.b (!x3.ok_)) rfl (zB (c_if h rfl (fun h17 h => c_sr (o_m2 (.n) (.i 0) rfl (zB (zJ ?_)))) fun h17 h => ?_))))
  ·
   cases h
   exact ⟨⟨_, rfl, (.tup (.cons (.d (.nil _)) (.cons .r .nil)))⟩, trivial, rfl⟩
  refine zEM r (fun (y18 : Bool) => [(0, .t ((ptT 3 p0))), (1, .i p1), (6, .t (.own 100 2 (List.map zT z1))), (7, .i z2), (8, .box [.i x3.kind_, .i x3.number_, .y x3.data_, .b x3.ok_]), (20, .b y18), (HK, .hp (hpA w0))]) (fun y18 => zBg (yW p0 w0 p1 nl1) z1 z2 p1 x3 p0 w0 y18) ?_ ?_
  ·
   refine zS (o_m4 (.ref 8 0) (.i x3.kind_) (.b (x3.kind_ == 3)) (.b (x3.kind_ == 3)) rfl ?_)
   rcases zF h with ⟨h29, h⟩ | ⟨h29, h⟩
   ·
    refine o_s (.t (.d (.seq 2 (List.map zT z1)))) (gy rfl rfl rfl h29) rfl rfl rfl (o_c (gy rfl rfl rfl h29) rfl rfl rfl (lenE _ _) trivial (o_s (.b (decide ((z1.length : Int) > 0))) (gy rfl rfl rfl h29) rfl rfl rfl (o_pT (.b (decide ((z1.length : Int) > 0))) h29 rfl (o_1 (.b (decide ((z1.length : Int) > 0))) rfl ?_))))
    rcases zF h with ⟨h30, h⟩ | ⟨h30, h⟩
    ·
     refine o_s (.ref 8 1) (gy rfl rfl rfl h30) rfl rfl rfl (o_s (.i x3.number_) (gy rfl rfl rfl h30) rfl rfl rfl (o_s (.t (.d (.seq 2 (List.map zT z1)))) (gy rfl rfl rfl h30) rfl rfl rfl (o_c (gy rfl rfl rfl h30) rfl rfl rfl (lenE _ _) trivial (o_s (.b (x3.number_ == (z1.length : Int))) (gy rfl rfl rfl h30) rfl rfl rfl (o_pT (.b (x3.number_ == (z1.length : Int))) h30 rfl (o_1 (.b (x3.number_ == (z1.length : Int))) rfl ?_))))))
     rcases zF h with ⟨h31, h⟩ | ⟨h31, h⟩
     ·
      refine o_s (.ref 8 2) (gy rfl rfl rfl h31) rfl rfl rfl (o_s (.y x3.data_) (gy rfl rfl rfl h31) rfl rfl rfl (bi h fun x32 h33 h => o_cA (zE7 _ _ h33) (gy rfl rfl rfl h31) rfl (.cons .r .nil) rfl (o_pT (.b x32) h31 rfl (o_1 (.b x32) rfl (zB ?_)))))
      exact lE x32 h rfl rfl
     refine o_k3 rfl h31 (o_pF (.b false) h31 rfl (o_1 (.b false) rfl (zB ?_)))
     exact lE false h rfl rfl
    refine o_k4 rfl h30 (o_k1 rfl h30 (o_pF (.b false) h30 rfl (o_1 (.b false) rfl (o_k3 rfl rfl (o_pF (.b false) rfl rfl (o_1 (.b false) rfl (zB ?_)))))))
    exact lE false h rfl rfl
   refine o_k3 rfl h29 (o_pF (.b false) h29 rfl (o_1 (.b false) rfl (o_k4 rfl rfl (o_k1 rfl rfl (o_pF (.b false) rfl rfl (o_1 (.b false) rfl (o_k3 rfl rfl (o_pF (.b false) rfl rfl (o_1 (.b false) rfl (zB ?_))))))))))
   exact lE false h rfl rfl
  rintro y18 h
  refine c_if h rfl (fun h19 h => c_sr (o_2 (.t (.d (.seq 2 (List.map zT z1)))) (.t (.own 100 2 (List.map zT z1))) (g0 rfl) rfl rfl rfl (o_m4 (.i z2) (.i (wi (z2 + 1))) (.i p1) (.i (wi ((wi (z2 + 1)) - p1))) rfl (o_2 (.t (.d (.seq 2 (List.map zT z1)))) (.t (.own 100 2 (List.map zT z1))) (g0 rfl) rfl rfl rfl (o_1 (.i (wi ((wi (z2 + 1)) - p1))) rfl (zB (zJ ?_))))))) fun h19 h => zL (zAC zBM (by kernel_rfl) (d_1 (.ref 8 0) rfl rfl (d_1 (.i x3.kind_) rfl rfl (d_1 (.b (x3.kind_ != 1)) rfl rfl (d_1 (.b (x3.kind_ != 1)) rfl rfl ?_)))))
  ·
   cases h; exact eR rfl rfl
  rcases zF h with ⟨h20, h⟩ | ⟨h20, h⟩
  ·
   refine d_k1 rfl rfl h20 (d_k1 rfl rfl h20 (d_k1 rfl rfl h20 (d_k1 rfl rfl h20 (d_k1 rfl rfl h20 (d_pT (.b true) h20 rfl rfl (d_1 (.b true) rfl rfl (zAd (by kernel_rfl) ?_)))))))
   refine c_t rfl rfl (c_sr (o_m2 (.n) (.i 0) rfl (zB (zJ ?_))))
   cases h
   exact ⟨⟨_, rfl, (.tup (.cons (.d (.nil _)) (.cons .r .nil)))⟩, trivial, rfl⟩
  refine d_s (.ref 8 1) rfl (dgy rfl rfl rfl rfl h20) rfl rfl rfl rfl (d_s (.i x3.number_) rfl (dgy rfl rfl rfl rfl h20) rfl rfl rfl rfl ?_)
  rcases qQ h with ⟨h21, h⟩ | ⟨i22, h21, h⟩
  ·
   refine d_h0 [] (e := [(53, .t (.d (.lit (.pointer none))))]) (ks := [53]) rfl (dgy rfl rfl rfl rfl h20) rfl rfl (fun S' hM hok => h_mv hM (.inl rfl) ((zM rfl).trans (zAE h21)) rfl (hok _ rfl rfl)) rfl (bi h fun x23 h24 h => d_cR (zBL _ w0 _ h24) rfl (dgy rfl rfl rfl rfl h20) rfl (a1 (aR rfl)) (r1 rfl) (d_s (.b (decide (x3.number_ ≥ x23))) rfl (dgy rfl rfl rfl rfl h20) rfl rfl rfl rfl (d_pF (.b (decide (x3.number_ ≥ x23))) h20 rfl rfl (d_1 (.b (decide (x3.number_ ≥ x23))) rfl rfl (zAd (by kernel_rfl) ?_)))))
   refine c_if h rfl (fun h25 h => c_sr (o_m2 (.n) (.i 0) rfl (zB (zJ ?_)))) fun h25 h => zK ?_
   ·
    cases h
    exact ⟨⟨_, rfl, (.tup (.cons (.d (.nil _)) (.cons .r .nil)))⟩, trivial, rfl⟩
   exact lE (none, x23, (decide (x3.number_ ≥ x23))) h rfl rfl
  refine d_h0 [] (e := [(53, .t (.hpt (cd 3 i22) 0))]) (ks := [53]) rfl (dgy rfl rfl rfl rfl h20) rfl rfl (fun S' hM hok => h_mv hM (.inl rfl) ((zM rfl).trans (yA h21)) rfl (hok _ rfl rfl)) rfl (bi h fun x26 h27 h => d_cR (zBL _ w0 _ h27) rfl (dgy rfl rfl rfl rfl h20) rfl (a1 aH) (r1 rfl) (d_s (.b (decide (x3.number_ ≥ x26))) rfl (dgy rfl rfl rfl rfl h20) rfl rfl rfl rfl (d_pF (.b (decide (x3.number_ ≥ x26))) h20 rfl rfl (d_1 (.b (decide (x3.number_ ≥ x26))) rfl rfl (zAd (by kernel_rfl) ?_)))))
  refine c_if h rfl (fun h28 h => c_sr (o_m2 (.n) (.i 0) rfl (zB (zJ ?_)))) fun h28 h => zK ?_
  ·
   cases h
   exact ⟨⟨_, rfl, (.tup (.cons (.d (.nil _)) (.cons .r .nil)))⟩, trivial, rfl⟩
  exact lE ((some i22), x26, (decide (x3.number_ ≥ x26))) h rfl rfl
 rintro ⟨y5, y6, y7⟩ h
 refine c_sr (o_mv rfl (zM rfl) (o_m2 (.i z2) (.i (wi (z2 + 1))) rfl (bi h fun x8 h9 h => o_cR (zE6 _ _ w0 _ h9) (g0 rfl) rfl (a2 (yJ rfl) (aR rfl)) (r1 rfl) (o_1 (.box [.i 0, .i 0, .n, .b false]) rfl (o_st (.box [.i x8.kind_, .i x8.number_, .y x8.data_, .b x8.ok_]) (g0 rfl) rfl rfl rfl (zB (zL (c_sr (o_m4 (.ref 9 3) (.b x8.ok_) (.b (!x8.ok_)) (.b (!x8.ok_)) rfl ?_)))))))))
 rcases zF h with ⟨h10, h⟩ | ⟨h10, h⟩
 ·
  refine o_k3 rfl h10 (o_pT (.b true) h10 rfl (o_1 (.b true) rfl (o_k4 rfl rfl (o_k1 rfl rfl ?_))))
  refine o_pT (.b true) rfl rfl (zB (c_t rfl rfl (c_sr (o_m2 (.n) (.i 0) rfl (zB (zJ ?_))))))
  cases h
  exact ⟨⟨_, rfl, (.tup (.cons (.d (.nil _)) (.cons .r .nil)))⟩, trivial, rfl⟩
 refine o_s (.ref 9 0) (gy rfl rfl rfl h10) rfl rfl rfl (o_s (.i x8.kind_) (gy rfl rfl rfl h10) rfl rfl rfl (o_s (.b (x8.kind_ != 2)) (gy rfl rfl rfl h10) rfl rfl rfl (o_pF (.b (x8.kind_ != 2)) h10 rfl (o_1 (.b (x8.kind_ != 2)) rfl ?_))))
 rcases zF h with ⟨h11, h⟩ | ⟨h11, h⟩
 ·
  refine o_k4 rfl h11 (o_k1 rfl h11 (o_pT (.b true) h11 rfl (zB (c_t rfl rfl (c_sr (o_m2 (.n) (.i 0) rfl (zB (zJ ?_))))))))
  cases h
  exact ⟨⟨_, rfl, (.tup (.cons (.d (.nil _)) (.cons .r .nil)))⟩, trivial, rfl⟩
 refine o_s (.ref 9 1) (gy rfl rfl rfl h11) rfl rfl rfl (o_s (.i x8.number_) (gy rfl rfl rfl h11) rfl rfl rfl (o_s (.ref 8 1) (gy rfl rfl rfl h11) rfl rfl rfl (o_s (.i x3.number_) (gy rfl rfl rfl h11) rfl rfl rfl (o_s (.b (x8.number_ != x3.number_)) (gy rfl rfl rfl h11) rfl rfl rfl (o_pF (.b (x8.number_ != x3.number_)) h11 rfl (zB ?_))))))
 refine c_if h rfl (fun h12 h => c_sr (o_m2 (.n) (.i 0) rfl (zB (zJ ?_)))) fun h12 h => zK (zAC zBM (by kernel_rfl) (d_2 (.t (.d (.seq 2 (List.map zT z1)))) (.t (.own 100 2 (List.map zT z1))) rfl (dg0 rfl) rfl rfl rfl rfl rfl (d_1 (.ref 8 1) rfl rfl (d_1 (.i x3.number_) rfl rfl (d_1 (.ref 8 2) rfl rfl (d_1 (.y x3.data_) rfl rfl (d_1 (.ref 9 2) rfl rfl (d_1 (.y x8.data_) rfl rfl ?_))))))))
 ·
  cases h
  exact ⟨⟨_, rfl, (.tup (.cons (.d (.nil _)) (.cons .r .nil)))⟩, trivial, rfl⟩
 refine d_1 (.t (.own 41 1 (List.map (cSl 1 cU8) [x3.data_, x8.data_]))) rfl rfl (bi h fun x13 h14 h => d_ca (zEe _ _ h14) rfl (dg0 rfl) rfl rfl rfl rfl rfl rfl rfl rfl (.cons .r .nil) rfl rfl (d_1 (.t (.agg [.i x3.number_, .y x13])) rfl rfl (d_1 (.t (.own 100 2 (List.map zT [(qF.mk x3.number_ x13)]))) rfl rfl ?_)))
 refine bi h fun x15 h16 h => d_2c rfl (dg0 rfl) rfl rfl rfl rfl rfl (appE (c := zT) h16) (appC (c := zT) h16) (d_2 (.t (.d (.seq 2 (List.map zT x15)))) (.t (.own 100 2 (List.map zT x15))) rfl (dg0 rfl) rfl rfl rfl rfl rfl (zAd (by kernel_rfl) (zS (o_m3 (.i z2) (.i (wi (z2 + 2))) (.i (wi (z2 + 2))) rfl (zB ?_)))))
 exact lE (x15, (wi (z2 + 2))) h rfl rfl
theorem zED (p0 : (Option Nat)) (w0 : Hp) (r : (List qF)) (h : zA9 p0 w0 = some r) : FCH Try.prog 67 [.t ((ptT 3 p0))] [] [] (hpA w0) (hpA w0) (.t (.own 100 2 (List.map zT r))) := by
 refine qY (rs := [.tmp 2]) (n := 22) [] Try.func67 rfl rfl (Nat.le_of_ble_eq_true rfl) rfl (pins := []) rfl (L := [(HK, .hp (hpA w0)), (0, .t ((ptT 3 p0)))]) rfl (c_sr (o_1 (.n) rfl (zB (c_sr (o_1 (.n) rfl (zB (c_sr (o_1 (.i 0) rfl (zB (qC (zIu (fun (q : (List qF) × Int) => [(0, .t ((ptT 3 p0))), (3, .t (.own 100 2 (List.map zT q.1))), (4, .i q.2), (HK, .hp (hpA w0))]) (fun nl1 q => zBQ p0 w0 nl1 q.1 q.2) (16400) ([], 0) [] h (fun _ => rfl) rfl trivial ⟨.r, (.t (.nilOwn _ _)), .r, .r, trivial⟩ rfl ?_)))))))))))
 rintro nl1 ⟨z1, z2⟩ h
 refine qC (c_sr (o_mv rfl (zM rfl) (o_1 (.i z2) rfl ?_)))
 refine bi h fun x3 h4 h => o_cR (zGP _ _ w0 _ h4) (g0 rfl) rfl (a2 (yJ rfl) (aR rfl)) (r2 rfl) (o_m5 (.tup [.d (.seq 2 (List.map zT x3.1)), .i x3.2]) (.t (.d (.seq 2 (List.map zT x3.1)))) (.i x3.2) (.t (.d (.seq 2 (List.map zT x3.1)))) (.i x3.2) rfl (zB (zL (c_sr (o_m2 (.i x3.2) (.b (x3.2 == 0)) rfl (zB ?_))))))
 refine c_if h rfl (fun h5 h => c_sr (o_2 (.t (.d (.seq 2 (List.map zT z1)))) (.t (.own 100 2 (List.map zT z1))) (g0 rfl) rfl rfl rfl (o_2 (.t (.d (.seq 2 (List.map zT z1)))) (.t (.own 100 2 (List.map zT z1))) (g0 rfl) rfl rfl rfl (zB (zJ ?_))))) fun h5 h => zK (c_sr (o_2 (.t (.d (.seq 2 (List.map zT z1)))) (.t (.own 100 2 (List.map zT z1))) (g0 rfl) rfl rfl rfl (o_1 (.t (.d (.seq 2 (List.map zT x3.1)))) rfl ?_)))
 ·
  cases h; exact eR rfl rfl
 refine bi h fun x6 h7 h => o_2c (g0 rfl) rfl rfl rfl (appE (c := zT) h7) (appC (c := zT) h7) (o_2 (.t (.d (.seq 2 (List.map zT x6)))) (.t (.own 100 2 (List.map zT x6))) (g0 rfl) rfl rfl rfl (zB (zS (o_m4 (.i z2) (.i x3.2) (.i (wi (z2 + x3.2))) (.i (wi (z2 + x3.2))) rfl (zB ?_)))))
 exact lE (x6, (wi (z2 + x3.2))) h rfl rfl
theorem zBG (p0 : (Option Nat)) (w0 : Hp) (r : Int) (h : zAK p0 w0 = some r) : FCH Try.prog 69 [.t ((ptT 3 p0))] [] [] (hpA w0) (hpA w0) (.t (.d (.lit (.int .i64 r)))) := by
 refine qY (rs := [.tmp 2]) (n := 31) [] Try.func69 rfl rfl (Nat.le_of_ble_eq_true rfl) rfl (pins := []) rfl (L := [(HK, .hp (hpA w0)), (0, .t ((ptT 3 p0)))]) rfl (c_sr (o_1 (.i 0) rfl (zB (zL (qC (zEM r (fun (y1 : Bool) => [(0, .t ((ptT 3 p0))), (3, .b y1), (HK, .hp (hpA w0))]) (fun y1 => zAc p0 w0 y1) ?_ ?_))))))
 ·
  refine zS (o_mv rfl (zM rfl) ?_)
  rcases qQ h with ⟨h13, h⟩ | ⟨i14, h13, h⟩
  ·
   refine o_of (e := [(5, .b true)]) (g0 rfl) (h_pn mR (ng := false) rfl rfl rfl (zDp rfl h13) rfl rfl) rfl (o_1 (.b true) rfl (o_k4 rfl rfl (o_k1 rfl rfl (o_pT (.b true) rfl rfl (o_1 (.b true) rfl (zB ?_))))))
   exact lE true h rfl rfl
  refine o_of (e := [(5, .b false)]) (g0 rfl) (h_pn mR (ng := false) rfl rfl rfl (zDm rfl h13) rfl rfl) rfl (o_1 (.b false) rfl (o_of (e := [(7, .t (.hpt (cd 3 i14) 0))]) (gy rfl rfl rfl rfl) (h_mv mR (.inl rfl) ((zM rfl).trans (yA h13)) rfl rfl) rfl (o_of (e := [(8, .t (.hpt (cd 3 i14) 0))]) (gy rfl rfl rfl rfl) (h_nc mR rfl rfl rfl rfl rfl) rfl (o_of (e := [(9, .t (.hpt (cd 3 i14) 0))]) (gy rfl rfl rfl rfl) (h_fd mR rfl rfl rfl rfl rfl rfl) rfl (bi h fun x15 h16 h => o_of (e := [(10, .t ((ptT 1 x15.d_)))]) (gy rfl rfl rfl rfl) (h_ld mR rfl rfl rfl rfl (zA7 h16) rfl (zA0 _ _) rfl rfl) rfl ?_)))))
  rcases qQ h with ⟨h17, h⟩ | ⟨i18, h17, h⟩
  ·
   refine o_of (e := [(11, .b true)]) (gy rfl rfl rfl rfl) (h_pn mR (ng := false) rfl rfl rfl (zDp rfl h17) rfl rfl) rfl (o_pF (.b true) rfl rfl (o_1 (.b true) rfl (zB ?_)))
   exact lE true h rfl rfl
  refine o_of (e := [(11, .b false)]) (gy rfl rfl rfl rfl) (h_pn mR (ng := false) rfl rfl rfl (zDm rfl h17) rfl rfl) rfl (o_pF (.b false) rfl rfl (o_1 (.b false) rfl (zB ?_)))
  exact lE false h rfl rfl
 rintro y1 h
 refine c_if h rfl (fun h2 h => c_sr (o_1 (.i 1) rfl (zB (zJ ?_)))) fun h2 h => zL (zAC zBM (by kernel_rfl) ?_)
 ·
  cases h; exact eR rfl rfl
 rcases qQ h with ⟨h3, h⟩ | ⟨i4, h3, h⟩
 ·
  refine d_mv rfl rfl ((zM rfl).trans (zAE h3)) ?_
  exact qV h
 refine d_mv rfl rfl (pq rfl h3) (d_nc rfl rfl rfl (d_fd 0 rfl rfl rfl (bi h fun x5 h6 h => d_h (e := [(17, .t ((ptT 1 x5.d_)))]) (ks := [17]) rfl (dg0 rfl) rfl rfl (fun S' hM hk hok => h_ld hM hk rfl rfl rfl (zA7 h6) rfl (zA0 _ _) rfl (hok _ rfl rfl)) rfl (bi h fun x7 h8 h => d_cR (zDw _ w0 _ h8) rfl (dg0 rfl) rfl (a1 (yJ rfl)) (r1 rfl) (d_1 (.b x7) rfl rfl ?_)))))
 rcases zF h with ⟨h9, h⟩ | ⟨h9, h⟩
 ·
  refine d_k1 rfl rfl h9 (d_k1 rfl rfl h9 (d_k1 rfl rfl h9 (d_k1 rfl rfl h9 (d_k1 rfl rfl h9 (d_k1 rfl rfl h9 (d_k1 rfl rfl h9 (d_k1 rfl rfl h9 (d_k1 rfl rfl h9 (d_k1 rfl rfl h9 ?_)))))))))
  refine d_pT (.b true) h9 rfl rfl (d_1 (.b true) rfl rfl (zAd (by kernel_rfl) (c_t rfl rfl (c_sr (o_1 (.i 30) rfl (zB (zJ ?_)))))))
  cases h; exact eR rfl rfl
 refine d_h0 [] (e := [(20, .t (.hpt (cd 3 i4) 0))]) (ks := [20]) rfl (dgy rfl rfl rfl rfl h9) rfl rfl (fun S' hM hok => h_mv hM (.inl rfl) ((zM rfl).trans (yA h3)) rfl (hok _ rfl rfl)) rfl (d_h0 [] (e := [(21, .t (.hpt (cd 3 i4) 0))]) (ks := [21]) rfl (dgy rfl rfl rfl rfl h9) rfl rfl (fun S' hM hok => h_nc hM rfl rfl rfl rfl (hok _ rfl rfl)) rfl (d_h0 [] (e := [(22, .t (.hpt (cd 3 i4) 0))]) (ks := [22]) rfl (dgy rfl rfl rfl rfl h9) rfl rfl (fun S' hM hok => h_fd hM rfl rfl rfl rfl rfl (hok _ rfl rfl)) rfl (d_h (e := [(23, .t ((ptT 1 x5.d_)))]) (ks := [23]) rfl (dgy rfl rfl rfl rfl h9) rfl rfl (fun S' hM hk hok => h_ld hM hk rfl rfl rfl (zA7 h6) rfl (zA0 _ _) rfl (hok _ rfl rfl)) rfl ?_)))
 refine bi h fun x10 h11 h => d_cR (zCK _ w0 _ h11) rfl (dgy rfl rfl rfl rfl h9) rfl (a1 (yJ rfl)) (r1 rfl) (d_h0 [] (e := [(25, .t (.hpt (cd 3 i4) 0))]) (ks := [25]) rfl (dgy rfl rfl rfl rfl h9) rfl rfl (fun S' hM hok => h_mv hM (.inl rfl) ((zM rfl).trans (yA h3)) rfl (hok _ rfl rfl)) rfl (d_h0 [] (e := [(26, .t (.hpt (cd 3 i4) 0))]) (ks := [26]) rfl (dgy rfl rfl rfl rfl h9) rfl rfl (fun S' hM hok => h_nc hM rfl rfl rfl rfl (hok _ rfl rfl)) rfl (d_h0 [] (e := [(27, .t (.hpt (cd 3 i4) 5))]) (ks := [27]) rfl (dgy rfl rfl rfl rfl h9) rfl rfl (fun S' hM hok => h_fd hM rfl rfl rfl rfl rfl (hok _ rfl rfl)) rfl (d_h (e := [(28, .i x5.life_)]) (ks := [28]) rfl (dgy rfl rfl rfl rfl h9) rfl rfl (fun S' hM hk hok => h_ld hM hk rfl rfl rfl (zA7 h6) rfl rfl rfl (hok _ rfl rfl)) rfl (d_s (.b (x10 != x5.life_)) rfl (dgy rfl rfl rfl rfl h9) rfl rfl rfl rfl (d_pF (.b (x10 != x5.life_)) h9 rfl rfl (d_1 (.b (x10 != x5.life_)) rfl rfl ?_)))))))
 refine zAd (by kernel_rfl) (c_if h rfl (fun h12 h => c_sr (o_1 (.i 30) rfl (zB (zJ ?_)))) fun h12 h => zK (c_sr (o_1 (.i 0) rfl (zB (zJ ?_)))))
 ·
  cases h; exact eR rfl rfl
 cases h; exact eR rfl rfl
theorem zFf (p0 : (Option Nat)) (w0 : Hp) (r : (Int × Hp)) (h : zBu p0 w0 = some r) : FCH Try.prog 111 [.t ((ptT 3 p0))] [] [] (hpA w0) (hpA r.2) (.t (.d (.lit (.int .i64 r.1)))) := by
 refine qY (rs := [.tmp 2]) (n := 60) [] Try.func111 rfl rfl (Nat.le_of_ble_eq_true rfl) rfl (pins := []) rfl (L := [(HK, .hp (hpA w0)), (0, .t ((ptT 3 p0)))]) rfl (c_sr (o_1 (.i 0) rfl (zB (c_sr (o_mv rfl (zM rfl) ?_)))))
 rcases qQ h with ⟨h1, h⟩ | ⟨i2, h1, h⟩
 ·
  exact qV h
 refine o_nf 3 rfl (pq rfl h1) rfl (bi h fun x3 h4 h => o_ld (.i x3.slot_) rfl (zA7 h4) rfl (o_m2 (.i (wi (1 - x3.slot_))) (.i (wi (1 - x3.slot_))) rfl (zB (zL (zL (zAC zBM (by kernel_rfl) (d_mv rfl rfl (pq rfl h1) (d_nc rfl rfl rfl (d_fd 0 rfl rfl rfl ?_)))))))))
 refine d_h (e := [(14, .t ((ptT 1 x3.d_)))]) (ks := [14]) rfl (dg0 rfl) rfl rfl (fun S' hM hk hok => h_ld hM hk rfl rfl rfl (zA7 h4) rfl (zA0 _ _) rfl (hok _ rfl rfl)) rfl (d_1 (.i (wi (1 - x3.slot_))) rfl rfl (d_mv rfl rfl (pq rfl h1) (d_nc rfl rfl rfl (d_fd 2 rfl rfl rfl (d_ld (.i x3.base_) rfl rfl (zA7 h4) rfl (d_mv rfl rfl (pq rfl h1) (d_nc rfl rfl rfl (d_fd 1 rfl rfl rfl (d_ld (.i x3.size_) rfl rfl (zA7 h4) rfl (d_1 (.i (wi (x3.base_ + x3.size_))) rfl rfl (d_mv rfl rfl (pq rfl h1) (d_nc rfl rfl rfl ?_))))))))))))
 refine d_fd 1 rfl rfl rfl (d_ld (.i x3.size_) rfl rfl (zA7 h4) rfl (bi h fun x5 h6 h => d_cR (zD5 _ _ w0 _ h6) rfl (dg0 rfl) rfl (a2 (aR rfl) (aR rfl)) (r1 rfl) (bi h fun x7 h8 h => d_cH (zBa _ _ _ w0 _ h8) rfl (dg0 rfl) rfl (a3 (yJ rfl) (aR rfl) (aR rfl)) (r1 rfl) (d_1 (.i x7.1) rfl rfl (zAd (by kernel_rfl) (c_sr (o_m2 (.i x7.1) (.b (x7.1 != 0)) rfl (zB ?_))))))))
 refine c_if h rfl (fun h9 h => c_sr (o_m2 (.i x7.1) (.i x7.1) rfl (zB (zJ ?_)))) fun h9 h => zK (zL (c_sr (o_f3 0 rfl (pq rfl h1) rfl ?_)))
 ·
  cases h; exact eR rfl rfl
 refine bi h fun x10 h11 h => o_of (e := [(37, .t ((ptT 1 x10.d_)))]) (g0 rfl) (h_ld mR rfl rfl rfl rfl (zA7 h11) rfl (zA0 _ _) rfl rfl) rfl (bi h fun x12 h13 h => o_cH (zBY _ x7.2 _ h13) (g0 rfl) rfl (a1 (yJ rfl)) (r1 rfl) (o_1 (.i x12.1) rfl (zB (c_sr (o_m2 (.i x12.1) (.b (x12.1 != 0)) rfl (zB ?_))))))
 refine c_if h rfl (fun h14 h => c_sr (o_m2 (.i x12.1) (.i x12.1) rfl (zB (zJ ?_)))) fun h14 h => zK (c_sr (o_mv rfl (pq rfl h1) (o_mv rfl (pq rfl h1) (o_1 (.i (wi (1 - x3.slot_))) rfl (o_nf 3 rfl rfl rfl ?_)))))
 ·
  cases h; exact eR rfl rfl
 refine bi h fun x15 h16 h => o_sH rfl (zA7 h16) (zHM (x' := (zU.mk x15.d_ x15.size_ x15.base_ (wi (1 - x3.slot_)) x15.used_ x15.life_ x15.commits_)) h16) rfl rfl (o_nf 4 rfl rfl rfl (o_sH rfl (zA7 (zAG h16)) (zHM (x' := (zU.mk x15.d_ x15.size_ x15.base_ (wi (1 - x3.slot_)) 0 x15.life_ x15.commits_)) (zAG h16)) rfl rfl (zB (zL (zAC zBM (by kernel_rfl) (d_mv rfl rfl (pq rfl h1) (d_nc rfl rfl rfl (d_fd 2 rfl rfl rfl (d_ld (.i ((zU.mk x15.d_ x15.size_ x15.base_ (wi (1 - x3.slot_)) 0 x15.life_ x15.commits_).base_)) rfl rfl (zA7 (zAG (zAG h16))) rfl (d_mv rfl rfl (pq rfl h1) (d_nc rfl rfl rfl ?_)))))))))))
 refine d_fd 1 rfl rfl rfl (d_ld (.i ((zU.mk x15.d_ x15.size_ x15.base_ (wi (1 - x3.slot_)) 0 x15.life_ x15.commits_).size_)) rfl rfl (zA7 (zAG (zAG h16))) rfl (d_1 (.i (wi (((zU.mk x15.d_ x15.size_ x15.base_ (wi (1 - x3.slot_)) 0 x15.life_ x15.commits_).base_) + ((zU.mk x15.d_ x15.size_ x15.base_ (wi (1 - x3.slot_)) 0 x15.life_ x15.commits_).size_)))) rfl rfl (d_nc rfl rfl rfl (d_fd 2 rfl rfl rfl (d_h (e := [(HK, .hp (hpA (((x12.2.st_lg i2 (zU.mk x15.d_ x15.size_ x15.base_ (wi (1 - x3.slot_)) x15.used_ x15.life_ x15.commits_)).st_lg i2 (zU.mk x15.d_ x15.size_ x15.base_ (wi (1 - x3.slot_)) 0 x15.life_ x15.commits_)).st_lg i2 (zU.mk x15.d_ x15.size_ (wi (((zU.mk x15.d_ x15.size_ x15.base_ (wi (1 - x3.slot_)) 0 x15.life_ x15.commits_).base_) + ((zU.mk x15.d_ x15.size_ x15.base_ (wi (1 - x3.slot_)) 0 x15.life_ x15.commits_).size_))) (wi (1 - x3.slot_)) 0 x15.life_ x15.commits_))))]) (ks := [HK]) rfl (dg0 rfl) rfl rfl (fun S' hM hk hok => h_st hM hk rfl rfl rfl rfl (zA7 (zAG (zAG h16))) rfl rfl (Nat.le_of_ble_eq_true rfl) rfl (zHM (x' := (zU.mk x15.d_ x15.size_ (wi (((zU.mk x15.d_ x15.size_ x15.base_ (wi (1 - x3.slot_)) 0 x15.life_ x15.commits_).base_) + ((zU.mk x15.d_ x15.size_ x15.base_ (wi (1 - x3.slot_)) 0 x15.life_ x15.commits_).size_))) (wi (1 - x3.slot_)) 0 x15.life_ x15.commits_)) (zAG (zAG h16)))) rfl (zAd (by kernel_rfl) (c_sr (o_1 (.i 0) rfl (zB (zJ ?_))))))))))
 cases h; exact eR rfl rfl
theorem zCj (p0 : (Option Nat)) (w0 : Hp) (r : (Int × Hp)) (h : zAM p0 w0 = some r) : FCH Try.prog 68 [.t ((ptT 3 p0))] [] [] (hpA w0) (hpA r.2) (.t (.d (.lit (.int .i64 r.1)))) := by
 refine qY (rs := [.tmp 2]) (n := 30) [] Try.func68 rfl rfl (Nat.le_of_ble_eq_true rfl) rfl (pins := []) rfl (L := [(HK, .hp (hpA w0)), (0, .t ((ptT 3 p0)))]) rfl (c_sr (o_1 (.i 0) rfl (zB (zL (c_sr (o_mv rfl (zM rfl) ?_))))))
 refine bi h fun x1 h2 h => o_cR (zBG _ w0 _ h2) (g0 rfl) rfl (a1 (yJ rfl)) (r1 rfl) (o_1 (.i x1) rfl (zB (c_sr (o_m2 (.i x1) (.b (x1 != 0)) rfl (zB ?_)))))
 refine c_if h rfl (fun h3 h => c_sr (o_m2 (.i x1) (.i x1) rfl (zB (zJ ?_)))) fun h3 h => zK (zL (zL (zAC zBM (by kernel_rfl) ?_)))
 ·
  cases h; exact eR rfl rfl
 rcases qQ h with ⟨h4, h⟩ | ⟨i5, h4, h⟩
 ·
  refine d_mv rfl rfl ((zM rfl).trans (zAE h4)) ?_
  exact qV h
 refine d_mv rfl rfl (pq rfl h4) (d_nc rfl rfl rfl (d_fd 2 rfl rfl rfl ?_))
 refine bi h fun x6 h7 h => d_ld (.i x6.base_) rfl rfl (zA7 h7) rfl (d_mv rfl rfl (pq rfl h4) (d_nc rfl rfl rfl (d_fd 1 rfl rfl rfl (d_ld (.i x6.size_) rfl rfl (zA7 h7) rfl (d_1 (.i (wi (2305843009213693952 - x6.size_))) rfl rfl (d_1 (.b (decide (x6.base_ > (wi (2305843009213693952 - x6.size_))))) rfl rfl (zAd (by kernel_rfl) ?_)))))))
 refine c_if h rfl (fun h8 h => c_sr (o_1 (.i 3) rfl (zB (zJ ?_)))) fun h8 h => zK (zL (c_sr (o_f3 0 rfl (pq rfl h4) rfl (o_of (e := [(23, .t ((ptT 1 x6.d_)))]) (g0 rfl) (h_ld mR rfl rfl rfl rfl (zA7 h7) rfl (zA0 _ _) rfl rfl) rfl ?_))))
 ·
  cases h; exact eR rfl rfl
 refine bi h fun x9 h10 h => o_cH (zBY _ w0 _ h10) (g0 rfl) rfl (a1 (yJ rfl)) (r1 rfl) (o_1 (.i x9.1) rfl (zB (c_sr (o_m2 (.i x9.1) (.b (x9.1 != 0)) rfl (zB ?_)))))
 refine c_if h rfl (fun h11 h => c_sr (o_m2 (.i x9.1) (.i x9.1) rfl (zB (zJ ?_)))) fun h11 h => zK (c_sr (o_mv rfl (pq rfl h4) ?_))
 ·
  cases h; exact eR rfl rfl
 refine bi h fun x12 h13 h => o_cH (zFf _ x9.2 _ h13) (g0 rfl) rfl (a1 aH) (r1 rfl) (o_1 (.i x12.1) rfl (zB (zJ ?_)))
 cases h; exact eR rfl rfl
theorem zIJ (p0 : (Option Nat)) (w0 : Hp) (r : ((Option Nat) × Int × Hp)) (h : zDJ p0 w0 = some r) : FCH Try.prog 14 [.t ((ptT 1 p0))] [] [] (hpA w0) (hpA r.2.2) (.tup [(ptT 3 r.1), .d (.lit (.int .i64 r.2.1))]) := by
 refine qY (rs := [.tmp 2, .tmp 3]) (n := 83) [] Try.func14 rfl rfl (Nat.le_of_ble_eq_true rfl) rfl (pins := []) rfl (L := [(HK, .hp (hpA w0)), (0, .t ((ptT 1 p0)))]) rfl (c_sr (o_of (e := [(2, .t (.d (.lit (.pointer none))))]) (g0 rfl) (h_mv mR (.inr rfl) rfl rfl rfl) rfl (o_1 (.i 0) rfl (zB (zL (qC (c_sr (o_mv rfl (zM rfl) ?_))))))))
 refine bi h fun x1 h2 h => o_cR (zBn _ w0 _ h2) (g0 rfl) rfl (a1 (yJ rfl)) (r1 rfl) (o_m2 (.b (x1 == 0)) (.b (x1 == 0)) rfl (zB ?_))
 refine c_if h rfl (fun h3 h => c_sr (o_of (e := [(2, .t (.d (.lit (.pointer none))))]) (g0 rfl) (h_mv mR (.inr rfl) rfl rfl rfl) rfl (o_1 (.i 1) rfl (zB (zJ ?_))))) fun h3 h => c_sr (o_mv rfl (zM rfl) ?_)
 ·
  cases h; exact eR rfl rfl
 refine bi h fun x4 h5 h => o_cR (zDw _ w0 _ h5) (g0 rfl) rfl (a1 (yJ rfl)) (r1 rfl) (o_1 (.b x4) rfl (zB ?_))
 refine c_if h rfl (fun h6 h => c_sr (o_of (e := [(2, .t (.d (.lit (.pointer none))))]) (g0 rfl) (h_mv mR (.inr rfl) rfl rfl rfl) rfl (o_1 (.i 30) rfl (zB (zJ ?_))))) fun h6 h => zK (c_sr ?_)
 ·
  cases h; exact eR rfl rfl
 rcases qQ h with ⟨h7, h⟩ | ⟨i8, h7, h⟩
 ·
  refine o_mv rfl ((zM rfl).trans (zAE h7)) (o_mv rfl ((zM rfl).trans (zAE h7)) (bi h fun x9 h10 h => o_cR (zCK _ w0 _ h10) (g0 rfl) rfl (a1 (aR rfl)) (r1 rfl) (o_of (e := [(21, .ag [.d (.lit (.pointer none)), .i 0, .i 0, .i 0, .i 0, .i x9, .i 0])]) (g0 rfl) (h_bd mR rfl rfl rfl rfl) rfl (o_of (e := [(HK, .hp (hpA (w0.nw_lg (zU.mk none 0 0 0 0 x9 0)))), (22, .t (.hpt (cd 3 w0.ln_lg) 0))]) (g0 rfl) (h_box mR rfl rfl rfl rfl rfl (fr_lg _) (nw_lg _ (zU.mk none 0 0 0 0 x9 0))) rfl (o_of (e := [(4, .t (.hpt (cd 3 w0.ln_lg) 0))]) (g0 rfl) (h_mv mR (.inr rfl) rfl rfl rfl) rfl (zB (zEM r (fun (y11 : Hp) => [(4, .t (.hpt (cd 3 w0.ln_lg) 0)), (HK, .hp (hpA y11))]) (fun y11 => zFc w0 y11) ?_ ?_)))))))
  ·
   refine c_sr (o_1 (.i 0) rfl (zB (qC (c_lp (fun (q : Int × Hp) => [(0, .t ((ptT 1 p0))), (4, .t (.hpt (cd 3 w0.ln_lg) 0)), (23, .i q.1), (HK, .hp (hpA q.2))]) (fun nl2 q => zCe w0 nl2 q.1 q.2) (Int.toNat 2 + 1) (0, (w0.nw_lg (zU.mk none 0 0 0 0 x9 0))) h (fun _ => rfl) rfl rfl ?_))))
   rintro nl2 ⟨z24, z25⟩ h
   refine c_sr (o_1 (.b (decide (z24 < 2))) rfl (zB (zL ?_)))
   refine c_if h rfl (fun h26 h => zK (zL (qC (c_sr (o_m2 (.i z24) (.i z24) rfl (zB (c_sr ?_))))))) fun h26 h => zAs ?_
   ·
    refine o_mv rfl ((zM rfl).trans (zAE h7)) (o_1 (.i z24) rfl (bi h fun x27 h28 h => o_cR (zEJ _ _ z25 _ h28) (g0 rfl) rfl (a2 (aR rfl) (aR rfl)) (r3 rfl) (o_m7 (.tup [.i x27.1, .i x27.2.1, .b x27.2.2]) (.i x27.1) (.i x27.2.1) (.b x27.2.2) (.i x27.1) (.i x27.2.1) (.b x27.2.2) rfl (zB (zEM r (fun (y29 : Bool) => [(0, .t ((ptT 1 p0))), (4, .t (.hpt (cd 3 w0.ln_lg) 0)), (5, .i z24), (6, .i x27.1), (7, .i x27.2.1), (23, .i z24), (41, .b y29), (HK, .hp (hpA z25))]) (fun y29 => zD6 (zCe w0 nl2) z25 w0 z24 x27 y29) ?_ ?_)))))
    ·
     refine zS (o_m2 (.b x27.2.2) (.b x27.2.2) rfl ?_)
     rcases zF h with ⟨h33, h⟩ | ⟨h33, h⟩
     ·
      refine o_s (.i x27.1) (gy rfl rfl rfl h33) rfl rfl rfl (o_of (e := [(36, .t (.hpt (cd 3 w0.ln_lg) 0))]) (gy rfl rfl rfl h33) (h_mv mR (.inl rfl) rfl rfl rfl) rfl (o_of (e := [(37, .t (.hpt (cd 3 w0.ln_lg) 0))]) (gy rfl rfl rfl h33) (h_nc mR rfl rfl rfl rfl rfl) rfl (o_of (e := [(38, .t (.hpt (cd 3 w0.ln_lg) 2))]) (gy rfl rfl rfl h33) (h_fd mR rfl rfl rfl rfl rfl rfl) rfl (bi h fun x34 h35 h => o_of (e := [(39, .i x34.base_)]) (gy rfl rfl rfl h33) (h_ld mR rfl rfl rfl rfl (zA7 h35) rfl rfl rfl rfl) rfl (o_s (.b (decide (x27.1 > x34.base_))) (gy rfl rfl rfl h33) rfl rfl rfl (o_pT (.b (decide (x27.1 > x34.base_))) h33 rfl (zB ?_)))))))
      exact lE (decide (x27.1 > x34.base_)) h rfl rfl
     refine o_k4 rfl h33 (o_k2 rfl h33 (o_pF (.b false) h33 rfl (zB ?_)))
     exact lE false h rfl rfl
    rintro y29 h
    refine c_if h rfl (fun h30 h => zS (o_mv (y := .t (.hpt (cd 3 w0.ln_lg) 0)) rfl rfl (o_mv (y := .t (.hpt (cd 3 w0.ln_lg) 0)) rfl rfl (o_mv (y := .t (.hpt (cd 3 w0.ln_lg) 0)) rfl rfl (o_m3 (.i x27.1) (.i x27.2.1) (.i z24) rfl (o_nf 2 rfl rfl rfl ?_)))))) fun h30 h => zK (zS (o_m2 (.i (wi (z24 + 1))) (.i (wi (z24 + 1))) rfl (zB ?_)))
    ·
     refine bi h fun x31 h32 h => o_sH rfl (zA7 h32) (zHM (x' := (zU.mk x31.d_ x31.size_ x27.1 x31.slot_ x31.used_ x31.life_ x31.commits_)) h32) rfl rfl (o_nf 1 rfl rfl rfl (o_sH rfl (zA7 (zAG h32)) (zHM (x' := (zU.mk x31.d_ x27.2.1 x27.1 x31.slot_ x31.used_ x31.life_ x31.commits_)) (zAG h32)) rfl rfl (o_nf 3 rfl rfl rfl (o_sH rfl (zA7 (zAG (zAG h32))) (zHM (x' := (zU.mk x31.d_ x27.2.1 x27.1 z24 x31.used_ x31.life_ x31.commits_)) (zAG (zAG h32))) rfl rfl (zB (zS (o_m2 (.i (wi (z24 + 1))) (.i (wi (z24 + 1))) rfl ?_)))))))
     refine zB ?_
     exact lE ((wi (z24 + 1)), (((z25.st_lg w0.ln_lg (zU.mk x31.d_ x31.size_ x27.1 x31.slot_ x31.used_ x31.life_ x31.commits_)).st_lg w0.ln_lg (zU.mk x31.d_ x27.2.1 x27.1 x31.slot_ x31.used_ x31.life_ x31.commits_)).st_lg w0.ln_lg (zU.mk x31.d_ x27.2.1 x27.1 z24 x31.used_ x31.life_ x31.commits_))) h rfl rfl
    exact lE ((wi (z24 + 1)), z25) h rfl rfl
   exact lE z25 h rfl rfl
  rintro y11 h
  refine zL (c_sr (o_f3 2 rfl rfl rfl (bi h fun x12 h13 h => o_ld (.i x12.base_) rfl (zA7 h13) rfl (o_1 (.b (x12.base_ == 0)) rfl (zB ?_)))))
  refine c_if h rfl (fun h14 h => c_sr (o_of (e := [(2, .t (.d (.lit (.pointer none))))]) (g0 rfl) (h_mv mR (.inr rfl) rfl rfl rfl) rfl (o_1 (.i 11) rfl (zB (zJ ?_))))) fun h14 h => zK (zL (zL (zAC zBM (by kernel_rfl) (d_mv (y := .t (.hpt (cd 3 w0.ln_lg) 0)) rfl rfl rfl (d_nc rfl rfl rfl (d_fd 2 rfl rfl rfl (d_ld (.i x12.base_) rfl rfl (zA7 h13) rfl (d_mv (y := .t (.hpt (cd 3 w0.ln_lg) 0)) rfl rfl rfl (d_nc rfl rfl rfl ?_)))))))))
  ·
   cases h; exact eR rfl rfl
  refine d_fd 1 rfl rfl rfl (d_ld (.i x12.size_) rfl rfl (zA7 h13) rfl (d_1 (.i (wi (2305843009213693952 - x12.size_))) rfl rfl (d_1 (.b (decide (x12.base_ > (wi (2305843009213693952 - x12.size_))))) rfl rfl (zAd (by kernel_rfl) ?_))))
  refine c_if h rfl (fun h15 h => c_sr (o_of (e := [(2, .t (.d (.lit (.pointer none))))]) (g0 rfl) (h_mv mR (.inr rfl) rfl rfl rfl) rfl (o_1 (.i 3) rfl (zB (zJ ?_))))) fun h15 h => zK (zL (c_sr (o_mv (y := .t (.hpt (cd 3 w0.ln_lg) 0)) rfl rfl (o_mv (y := .t (.hpt (cd 3 w0.ln_lg) 0)) rfl rfl ?_))))
  ·
   cases h; exact eR rfl rfl
  refine bi h fun x16 h17 h => o_cR (zED _ y11 _ h17) (g0 rfl) rfl (a1 aH) (r1 rfl) (bi h fun x18 h19 h => o_cH (zEE _ _ y11 _ h19) (g0 rfl) rfl (a2 aH (aR rfl)) (r1 rfl) (o_1 (.i x18.1) rfl (zB (c_sr (o_m2 (.i x18.1) (.b (x18.1 != 0)) rfl (zB ?_))))))
  refine c_if h rfl (fun h20 h => c_sr (o_1 (.i x18.1) rfl (o_of (e := [(2, .t (.d (.lit (.pointer none))))]) (g0 rfl) (h_mv mR (.inr rfl) rfl rfl rfl) rfl (o_1 (.i x18.1) rfl (zB (zJ ?_)))))) fun h20 h => zK (zL (c_sr (o_mv (y := .t (.hpt (cd 3 w0.ln_lg) 0)) rfl rfl ?_)))
  ·
   cases h; exact eR rfl rfl
  refine bi h fun x21 h22 h => o_cH (zCj _ x18.2 _ h22) (g0 rfl) rfl (a1 aH) (r1 rfl) (o_1 (.i x21.1) rfl (zB (c_sr (o_m2 (.i x21.1) (.b (x21.1 != 0)) rfl (zB ?_)))))
  refine c_if h rfl (fun h23 h => c_sr (o_1 (.i x21.1) rfl (o_of (e := [(2, .t (.d (.lit (.pointer none))))]) (g0 rfl) (h_mv mR (.inr rfl) rfl rfl rfl) rfl (o_1 (.i x21.1) rfl (zB (zJ ?_)))))) fun h23 h => zK (c_sr (o_mv (y := .t (.hpt (cd 3 w0.ln_lg) 0)) rfl rfl (o_of (e := [(2, .t (.hpt (cd 3 w0.ln_lg) 0))]) (g0 rfl) (h_mv mR (.inr rfl) rfl rfl rfl) rfl (o_1 (.i 0) rfl (zB (zJ ?_))))))
  ·
   cases h; exact eR rfl rfl
  cases h; exact eR rfl rfl
 refine o_mv rfl (pq rfl h7) (o_mv rfl (pq rfl h7) (bi h fun x36 h37 h => o_cR (zCK _ w0 _ h37) (g0 rfl) rfl (a1 aH) (r1 rfl) (o_of (e := [(21, .ag [.hpt (cd 1 i8) 0, .i 0, .i 0, .i 0, .i 0, .i x36, .i 0])]) (g0 rfl) (h_bd mR rfl rfl rfl rfl) rfl (o_of (e := [(HK, .hp (hpA (w0.nw_lg (zU.mk (some i8) 0 0 0 0 x36 0)))), (22, .t (.hpt (cd 3 w0.ln_lg) 0))]) (g0 rfl) (h_box mR rfl rfl rfl rfl rfl (fr_lg _) (nw_lg _ (zU.mk (some i8) 0 0 0 0 x36 0))) rfl (o_of (e := [(4, .t (.hpt (cd 3 w0.ln_lg) 0))]) (g0 rfl) (h_mv mR (.inr rfl) rfl rfl rfl) rfl (zB (zEM r (fun (y38 : Hp) => [(4, .t (.hpt (cd 3 w0.ln_lg) 0)), (HK, .hp (hpA y38))]) (fun y38 => zCW w0 y38) ?_ ?_)))))))
 ·
  refine c_sr (o_1 (.i 0) rfl (zB (qC (c_lp (fun (q : Int × Hp) => [(0, .t ((ptT 1 p0))), (4, .t (.hpt (cd 3 w0.ln_lg) 0)), (23, .i q.1), (HK, .hp (hpA q.2))]) (fun nl5 q => yE i8 w0 nl5 q.1 q.2) (Int.toNat 2 + 1) (0, (w0.nw_lg (zU.mk (some i8) 0 0 0 0 x36 0))) h (fun _ => rfl) rfl rfl ?_))))
  rintro nl5 ⟨z51, z52⟩ h
  refine c_sr (o_1 (.b (decide (z51 < 2))) rfl (zB (zL ?_)))
  refine c_if h rfl (fun h53 h => zK (zL (qC (c_sr (o_m2 (.i z51) (.i z51) rfl (zB (c_sr ?_))))))) fun h53 h => zAs ?_
  ·
   refine o_mv rfl (pq rfl h7) (o_1 (.i z51) rfl (bi h fun x54 h55 h => o_cR (zEJ _ _ z52 _ h55) (g0 rfl) rfl (a2 aH (aR rfl)) (r3 rfl) (o_m7 (.tup [.i x54.1, .i x54.2.1, .b x54.2.2]) (.i x54.1) (.i x54.2.1) (.b x54.2.2) (.i x54.1) (.i x54.2.1) (.b x54.2.2) rfl (zB (zEM r (fun (y56 : Bool) => [(0, .t ((ptT 1 p0))), (4, .t (.hpt (cd 3 w0.ln_lg) 0)), (5, .i z51), (6, .i x54.1), (7, .i x54.2.1), (23, .i z51), (41, .b y56), (HK, .hp (hpA z52))]) (fun y56 => zCb (yE i8 w0 nl5) z52 w0 z51 x54 y56) ?_ ?_)))))
   ·
    refine zS (o_m2 (.b x54.2.2) (.b x54.2.2) rfl ?_)
    rcases zF h with ⟨h60, h⟩ | ⟨h60, h⟩
    ·
     refine o_s (.i x54.1) (gy rfl rfl rfl h60) rfl rfl rfl (o_of (e := [(36, .t (.hpt (cd 3 w0.ln_lg) 0))]) (gy rfl rfl rfl h60) (h_mv mR (.inl rfl) rfl rfl rfl) rfl (o_of (e := [(37, .t (.hpt (cd 3 w0.ln_lg) 0))]) (gy rfl rfl rfl h60) (h_nc mR rfl rfl rfl rfl rfl) rfl (o_of (e := [(38, .t (.hpt (cd 3 w0.ln_lg) 2))]) (gy rfl rfl rfl h60) (h_fd mR rfl rfl rfl rfl rfl rfl) rfl (bi h fun x61 h62 h => o_of (e := [(39, .i x61.base_)]) (gy rfl rfl rfl h60) (h_ld mR rfl rfl rfl rfl (zA7 h62) rfl rfl rfl rfl) rfl (o_s (.b (decide (x54.1 > x61.base_))) (gy rfl rfl rfl h60) rfl rfl rfl (o_pT (.b (decide (x54.1 > x61.base_))) h60 rfl (zB ?_)))))))
     exact lE (decide (x54.1 > x61.base_)) h rfl rfl
    refine o_k4 rfl h60 (o_k2 rfl h60 (o_pF (.b false) h60 rfl (zB ?_)))
    exact lE false h rfl rfl
   rintro y56 h
   refine c_if h rfl (fun h57 h => zS (o_mv (y := .t (.hpt (cd 3 w0.ln_lg) 0)) rfl rfl (o_mv (y := .t (.hpt (cd 3 w0.ln_lg) 0)) rfl rfl (o_mv (y := .t (.hpt (cd 3 w0.ln_lg) 0)) rfl rfl (o_m3 (.i x54.1) (.i x54.2.1) (.i z51) rfl (o_nf 2 rfl rfl rfl ?_)))))) fun h57 h => zK (zS (o_m2 (.i (wi (z51 + 1))) (.i (wi (z51 + 1))) rfl (zB ?_)))
   ·
    refine bi h fun x58 h59 h => o_sH rfl (zA7 h59) (zHM (x' := (zU.mk x58.d_ x58.size_ x54.1 x58.slot_ x58.used_ x58.life_ x58.commits_)) h59) rfl rfl (o_nf 1 rfl rfl rfl (o_sH rfl (zA7 (zAG h59)) (zHM (x' := (zU.mk x58.d_ x54.2.1 x54.1 x58.slot_ x58.used_ x58.life_ x58.commits_)) (zAG h59)) rfl rfl (o_nf 3 rfl rfl rfl (o_sH rfl (zA7 (zAG (zAG h59))) (zHM (x' := (zU.mk x58.d_ x54.2.1 x54.1 z51 x58.used_ x58.life_ x58.commits_)) (zAG (zAG h59))) rfl rfl (zB (zS (o_m2 (.i (wi (z51 + 1))) (.i (wi (z51 + 1))) rfl ?_)))))))
    refine zB ?_
    exact lE ((wi (z51 + 1)), (((z52.st_lg w0.ln_lg (zU.mk x58.d_ x58.size_ x54.1 x58.slot_ x58.used_ x58.life_ x58.commits_)).st_lg w0.ln_lg (zU.mk x58.d_ x54.2.1 x54.1 x58.slot_ x58.used_ x58.life_ x58.commits_)).st_lg w0.ln_lg (zU.mk x58.d_ x54.2.1 x54.1 z51 x58.used_ x58.life_ x58.commits_))) h rfl rfl
   exact lE ((wi (z51 + 1)), z52) h rfl rfl
  exact lE z52 h rfl rfl
 rintro y38 h
 refine zL (c_sr (o_f3 2 rfl rfl rfl (bi h fun x39 h40 h => o_ld (.i x39.base_) rfl (zA7 h40) rfl (o_1 (.b (x39.base_ == 0)) rfl (zB ?_)))))
 refine c_if h rfl (fun h41 h => c_sr (o_of (e := [(2, .t (.d (.lit (.pointer none))))]) (g0 rfl) (h_mv mR (.inr rfl) rfl rfl rfl) rfl (o_1 (.i 11) rfl (zB (zJ ?_))))) fun h41 h => zK (zL (zL (zAC zBM (by kernel_rfl) (d_mv (y := .t (.hpt (cd 3 w0.ln_lg) 0)) rfl rfl rfl (d_nc rfl rfl rfl (d_fd 2 rfl rfl rfl (d_ld (.i x39.base_) rfl rfl (zA7 h40) rfl (d_mv (y := .t (.hpt (cd 3 w0.ln_lg) 0)) rfl rfl rfl (d_nc rfl rfl rfl ?_)))))))))
 ·
  cases h; exact eR rfl rfl
 refine d_fd 1 rfl rfl rfl (d_ld (.i x39.size_) rfl rfl (zA7 h40) rfl (d_1 (.i (wi (2305843009213693952 - x39.size_))) rfl rfl (d_1 (.b (decide (x39.base_ > (wi (2305843009213693952 - x39.size_))))) rfl rfl (zAd (by kernel_rfl) ?_))))
 refine c_if h rfl (fun h42 h => c_sr (o_of (e := [(2, .t (.d (.lit (.pointer none))))]) (g0 rfl) (h_mv mR (.inr rfl) rfl rfl rfl) rfl (o_1 (.i 3) rfl (zB (zJ ?_))))) fun h42 h => zK (zL (c_sr (o_mv (y := .t (.hpt (cd 3 w0.ln_lg) 0)) rfl rfl (o_mv (y := .t (.hpt (cd 3 w0.ln_lg) 0)) rfl rfl ?_))))
 ·
  cases h; exact eR rfl rfl
 refine bi h fun x43 h44 h => o_cR (zED _ y38 _ h44) (g0 rfl) rfl (a1 aH) (r1 rfl) (bi h fun x45 h46 h => o_cH (zEE _ _ y38 _ h46) (g0 rfl) rfl (a2 aH (aR rfl)) (r1 rfl) (o_1 (.i x45.1) rfl (zB (c_sr (o_m2 (.i x45.1) (.b (x45.1 != 0)) rfl (zB ?_))))))
 refine c_if h rfl (fun h47 h => c_sr (o_1 (.i x45.1) rfl (o_of (e := [(2, .t (.d (.lit (.pointer none))))]) (g0 rfl) (h_mv mR (.inr rfl) rfl rfl rfl) rfl (o_1 (.i x45.1) rfl (zB (zJ ?_)))))) fun h47 h => zK (zL (c_sr (o_mv (y := .t (.hpt (cd 3 w0.ln_lg) 0)) rfl rfl ?_)))
 ·
  cases h; exact eR rfl rfl
 refine bi h fun x48 h49 h => o_cH (zCj _ x45.2 _ h49) (g0 rfl) rfl (a1 aH) (r1 rfl) (o_1 (.i x48.1) rfl (zB (c_sr (o_m2 (.i x48.1) (.b (x48.1 != 0)) rfl (zB ?_)))))
 refine c_if h rfl (fun h50 h => c_sr (o_1 (.i x48.1) rfl (o_of (e := [(2, .t (.d (.lit (.pointer none))))]) (g0 rfl) (h_mv mR (.inr rfl) rfl rfl rfl) rfl (o_1 (.i x48.1) rfl (zB (zJ ?_)))))) fun h50 h => zK (c_sr (o_mv (y := .t (.hpt (cd 3 w0.ln_lg) 0)) rfl rfl (o_of (e := [(2, .t (.hpt (cd 3 w0.ln_lg) 0))]) (g0 rfl) (h_mv mR (.inr rfl) rfl rfl rfl) rfl (o_1 (.i 0) rfl (zB (zJ ?_))))))
 ·
  cases h; exact eR rfl rfl
 cases h; exact eR rfl rfl
theorem zF2 (p0 : (Option Nat)) (p1 : Int) (w0 : Hp) (r : ((List UInt8) × Int)) (h : zBk p0 p1 w0 = some r) : FCH Try.prog 57 [.t ((ptT 3 p0)), .t (.d (.lit (.int .i64 p1)))] [] [] (hpA w0) (hpA w0) (.tup [.d (.seq 1 (qE r.1)), .d (.lit (.int .i64 r.2))]) := by
 refine qY (rs := [.tmp 4, .tmp 5]) (n := 30) [] Try.func57 rfl rfl (Nat.le_of_ble_eq_true rfl) rfl (pins := []) rfl (L := [(HK, .hp (hpA w0)), (0, .t ((ptT 3 p0))), (1, .i p1)]) rfl (c_sr (o_m2 (.n) (.i 0) rfl (zB (zL (c_sr (o_mv rfl (zM rfl) ?_))))))
 refine bi h fun x1 h2 h => o_cR (zBG _ w0 _ h2) (g0 rfl) rfl (a1 (yJ rfl)) (r1 rfl) (o_1 (.i x1) rfl (zB (c_sr (o_m2 (.i x1) (.b (x1 != 0)) rfl (zB ?_)))))
 refine c_if h rfl (fun h3 h => c_sr (o_m3 (.i x1) (.n) (.i x1) rfl (zB (zJ ?_)))) fun h3 h => zK (zL (c_sr (o_m3 (.i p1) (.b (decide (p1 < 0))) (.b (decide (p1 < 0))) rfl ?_)))
 ·
  cases h
  exact ⟨⟨_, rfl, (.tup (.cons (.d (.nil _)) (.cons .r .nil)))⟩, trivial, rfl⟩
 rcases zF h with ⟨h4, h⟩ | ⟨h4, h⟩
 ·
  refine o_k4 rfl h4 (o_pT (.b true) h4 rfl (zB (c_t rfl rfl (c_sr (o_m2 (.n) (.i 31) rfl (zB (zJ ?_)))))))
  cases h
  exact ⟨⟨_, rfl, (.tup (.cons (.d (.nil _)) (.cons .r .nil)))⟩, trivial, rfl⟩
 refine o_s (.i p1) (gy rfl rfl rfl h4) rfl rfl rfl (o_of (e := [(16, .t ((ptT 3 p0)))]) (gy rfl rfl rfl h4) (h_mv mR (.inl rfl) (zM rfl) rfl rfl) rfl (bi h fun x5 h6 h => o_cR (zBL _ w0 _ h6) (gy rfl rfl rfl h4) rfl (a1 (yJ rfl)) (r1 rfl) (o_s (.b (decide (p1 ≥ x5))) (gy rfl rfl rfl h4) rfl rfl rfl (o_pF (.b (decide (p1 ≥ x5))) h4 rfl (zB ?_)))))
 refine c_if h rfl (fun h7 h => c_sr (o_m2 (.n) (.i 31) rfl (zB (zJ ?_)))) fun h7 h => zK (zL (zAC zBM (by kernel_rfl) ?_))
 ·
  cases h
  exact ⟨⟨_, rfl, (.tup (.cons (.d (.nil _)) (.cons .r .nil)))⟩, trivial, rfl⟩
 rcases qQ h with ⟨h8, h⟩ | ⟨i9, h8, h⟩
 ·
  refine d_mv rfl rfl ((zM rfl).trans (zAE h8)) ?_
  exact qV h
 refine d_mv rfl rfl (pq rfl h8) (d_nc rfl rfl rfl (d_fd 0 rfl rfl rfl (bi h fun x10 h11 h => d_h (e := [(23, .t ((ptT 1 x10.d_)))]) (ks := [23]) rfl (dg0 rfl) rfl rfl (fun S' hM hk hok => h_ld hM hk rfl rfl rfl (zA7 h11) rfl (zA0 _ _) rfl (hok _ rfl rfl)) rfl (d_mv rfl rfl (pq rfl h8) (d_1 (.i p1) rfl rfl (bi h fun x12 h13 h => d_cR (zC6 _ _ w0 _ h13) rfl (dg0 rfl) rfl (a2 aH (aR rfl)) (r1 rfl) ?_))))))
 refine bi h fun x14 h15 h => d_cR (zCc _ _ w0 _ h15) rfl (dg0 rfl) rfl (a2 (yJ rfl) (aR rfl)) (r2 rfl) (d_1 (.y x14.1) rfl rfl (d_1 (.i x14.2) rfl rfl (d_1 (.y x14.1) rfl rfl (d_1 (.i x14.2) rfl rfl (zAd (by kernel_rfl) (zJ ?_))))))
 cases h; exact eR rfl rfl
end Go.Proofs.Ytjomnccladjpgaa

/-
 Walks of functions: each function does what its model tells. Printed by a program of this claim's own (gen.py) off the given translation.
-/
namespace Go.Proofs.Ytjomnccladjpgaa
open Go Go.RowKit
set_option linter.unusedVariables false
set_option maxHeartbeats 4000000
set_option maxRecDepth 20000
end Go.Proofs.Ytjomnccladjpgaa

/-
 Walks of functions: each function does what its model tells. Printed by a program of this claim's own (gen.py) off the given translation.
-/
namespace Go.Proofs.Ytjomnccladjpgaa
open Go Go.RowKit
set_option linter.unusedVariables false
set_option maxHeartbeats 4000000
set_option maxRecDepth 20000
theorem zFl (p0 : (Option Nat)) (w0 : Hp) (r : ((Option Nat) × Int × Hp)) (h : zBr p0 w0 = some r) : FCH Try.prog 76 [.t ((ptT 3 p0))] [] [] (hpA w0) (hpA r.2.2) (.tup [(ptT 5 r.1), .d (.lit (.int .i64 r.2.1))]) := by
 refine qY (rs := [.tmp 2, .tmp 3]) (n := 18) [0] Try.func76 rfl rfl (Nat.le_of_ble_eq_true rfl) rfl (pins := []) rfl (L := [(HK, .hp (hpA w0)), (OB + 0, .free), (0, .t ((ptT 3 p0)))]) rfl (c_sr (o_of (e := [(2, .t (.d (.lit (.pointer none))))]) (g0 rfl) (h_mv mR (.inr rfl) rfl rfl rfl) rfl (o_1 (.i 0) rfl (zB (zL (c_sr (o_mv rfl (zM rfl) ?_)))))))
 refine bi h fun x1 h2 h => o_cR (zBG _ w0 _ h2) (g0 rfl) rfl (a1 (yJ rfl)) (r1 rfl) (o_1 (.i x1) rfl (zB (c_sr (o_m2 (.i x1) (.b (x1 != 0)) rfl (zB ?_)))))
 refine c_if h rfl (fun h3 h => c_sr (o_1 (.i x1) rfl (o_of (e := [(2, .t (.d (.lit (.pointer none))))]) (g0 rfl) (h_mv mR (.inr rfl) rfl rfl rfl) rfl (o_1 (.i x1) rfl (zB (zJ ?_)))))) fun h3 h => zK (c_sr ?_)
 ·
  cases h; exact eR rfl rfl
 rcases qQ h with ⟨h4, h⟩ | ⟨i5, h4, h⟩
 ·
  refine o_mv rfl ((zM rfl).trans (zAE h4)) (o_mv rfl ((zM rfl).trans (zAE h4)) ?_)
  exact qV h
 refine o_mv rfl (pq rfl h4) (o_f3 6 rfl (pq rfl h4) rfl (bi h fun x6 h7 h => o_ld (.i x6.commits_) rfl (zA7 h7) rfl (o_of (e := [(HK, .hp (hpA (w0.nw_mp ([] : (List (Int × (List UInt8))))))), (15, .t (.mpt (OB + cd 6 w0.ln_mp)))]) (g0 rfl) (h_mkmH rfl rfl rfl rfl (fr_mp _) (nw_mp _ _)) rfl (o_of (e := [(16, .ag [.hpt (cd 3 i5) 0, .i x6.commits_, .b false, .mpt (OB + cd 6 w0.ln_mp)])]) (g0 rfl) (h_bd mR rfl rfl rfl rfl) rfl (o_of (e := [(HK, .hp (hpA ((w0.nw_mp ([] : (List (Int × (List UInt8))))).nw_tx (zCD.mk (some i5) x6.commits_ false w0.ln_mp)))), (17, .t (.hpt (cd 5 ((w0.nw_mp ([] : (List (Int × (List UInt8))))).ln_tx)) 0))]) (g0 rfl) (h_box mR rfl rfl rfl rfl rfl (fr_tx _) (nw_tx _ (zCD.mk (some i5) x6.commits_ false w0.ln_mp))) rfl (o_of (e := [(2, .t (.hpt (cd 5 ((w0.nw_mp ([] : (List (Int × (List UInt8))))).ln_tx)) 0))]) (g0 rfl) (h_mv mR (.inr rfl) rfl rfl rfl) rfl (o_1 (.i 0) rfl (zB (zJ ?_)))))))))
 cases h; exact eR rfl rfl
theorem zCk (p0 : (Option Nat)) (w0 : Hp) (r : Int) (h : zBN p0 w0 = some r) : FCH Try.prog 83 [.t ((ptT 5 p0))] [] [] (hpA w0) (hpA w0) (.t (.d (.lit (.int .i64 r)))) := by
 refine qY (rs := [.tmp 2]) (n := 39) [] Try.func83 rfl rfl (Nat.le_of_ble_eq_true rfl) rfl (pins := []) rfl (L := [(HK, .hp (hpA w0)), (0, .t ((ptT 5 p0)))]) rfl (c_sr (o_1 (.i 0) rfl (zB (zL (c_sr (o_mv rfl (zM rfl) ?_))))))
 rcases qQ h with ⟨h1, h⟩ | ⟨i2, h1, h⟩
 ·
  refine o_of (e := [(5, .b true)]) (g0 rfl) (h_pn mR (ng := false) rfl rfl rfl (zDp rfl h1) rfl rfl) rfl (o_1 (.b true) rfl (o_k4 rfl rfl (o_k1 rfl rfl (o_pT (.b true) rfl rfl (zB (c_t rfl rfl (c_sr (o_1 (.i 1) rfl (zB (zJ ?_))))))))))
  cases h; exact eR rfl rfl
 refine o_of (e := [(5, .b false)]) (g0 rfl) (h_pn mR (ng := false) rfl rfl rfl (zDm rfl h1) rfl rfl) rfl (o_1 (.b false) rfl (o_of (e := [(7, .t (.hpt (cd 5 i2) 0))]) (gy rfl rfl rfl rfl) (h_mv mR (.inl rfl) ((zM rfl).trans (yA h1)) rfl rfl) rfl (o_of (e := [(8, .t (.hpt (cd 5 i2) 0))]) (gy rfl rfl rfl rfl) (h_nc mR rfl rfl rfl rfl rfl) rfl (o_of (e := [(9, .t (.hpt (cd 5 i2) 3))]) (gy rfl rfl rfl rfl) (h_fd mR rfl rfl rfl rfl rfl rfl) rfl ?_))))
 refine bi h fun x3 h4 h => o_of (e := [(10, .t (.mpt (OB + cd 6 x3.now_)))]) (gy rfl rfl rfl rfl) (h_ld mR rfl rfl rfl rfl (zGT h4) rfl rfl rfl rfl) rfl (o_of (e := [(11, .b false)]) (gy rfl rfl rfl rfl) (h_mn (ng := false) mR rfl rfl rfl rfl rfl rfl) rfl (o_pF (.b false) rfl rfl (zB (c_f rfl rfl (zK (zL (c_sr ?_)))))))
 refine o_f3 0 rfl (pq rfl h1) rfl (o_of (e := [(16, .t ((ptT 3 x3.l_)))]) (g0 rfl) (h_ld mR rfl rfl rfl rfl (zGT h4) rfl (zA0 _ _) rfl rfl) rfl (bi h fun x5 h6 h => o_cR (zBG _ w0 _ h6) (g0 rfl) rfl (a1 (yJ rfl)) (r1 rfl) (o_1 (.i x5) rfl (zB (c_sr (o_m2 (.i x5) (.b (x5 != 0)) rfl (zB ?_)))))))
 refine c_if h rfl (fun h7 h => c_sr (o_m2 (.i x5) (.i x5) rfl (zB (zJ ?_)))) fun h7 h => zK (zL (zL (zAC zBM (by kernel_rfl) (d_mv rfl rfl (pq rfl h1) (d_nc rfl rfl rfl (d_fd 2 rfl rfl rfl (d_ld (.b x3.over_) rfl rfl (zGT h4) rfl (d_1 (.b x3.over_) rfl rfl ?_))))))))
 ·
  cases h; exact eR rfl rfl
 rcases zF h with ⟨h8, h⟩ | ⟨h8, h⟩
 ·
  refine d_k1 rfl rfl h8 (d_k1 rfl rfl h8 (d_k1 rfl rfl h8 (d_k1 rfl rfl h8 (d_k1 rfl rfl h8 (d_k1 rfl rfl h8 (d_k1 rfl rfl h8 (d_k1 rfl rfl h8 (d_k1 rfl rfl h8 (d_k1 rfl rfl h8 (d_k1 rfl rfl h8 (d_k1 rfl rfl h8 ?_)))))))))))
  refine d_pT (.b true) h8 rfl rfl (zAd (by kernel_rfl) (c_t rfl rfl (c_sr (o_1 (.i 34) rfl (zB (zJ ?_))))))
  cases h; exact eR rfl rfl
 refine d_h0 [] (e := [(26, .t (.hpt (cd 5 i2) 0))]) (ks := [26]) rfl (dgy rfl rfl rfl rfl h8) rfl rfl (fun S' hM hok => h_mv hM (.inl rfl) ((zM rfl).trans (yA h1)) rfl (hok _ rfl rfl)) rfl (d_h0 [] (e := [(27, .t (.hpt (cd 5 i2) 0))]) (ks := [27]) rfl (dgy rfl rfl rfl rfl h8) rfl rfl (fun S' hM hok => h_nc hM rfl rfl rfl rfl (hok _ rfl rfl)) rfl (d_h0 [] (e := [(28, .t (.hpt (cd 5 i2) 1))]) (ks := [28]) rfl (dgy rfl rfl rfl rfl h8) rfl rfl (fun S' hM hok => h_fd hM rfl rfl rfl rfl rfl (hok _ rfl rfl)) rfl (d_h (e := [(29, .i x3.at_)]) (ks := [29]) rfl (dgy rfl rfl rfl rfl h8) rfl rfl (fun S' hM hk hok => h_ld hM hk rfl rfl rfl (zGT h4) rfl rfl rfl (hok _ rfl rfl)) rfl (d_h0 [] (e := [(30, .t (.hpt (cd 5 i2) 0))]) (ks := [30]) rfl (dgy rfl rfl rfl rfl h8) rfl rfl (fun S' hM hok => h_mv hM (.inl rfl) ((zM rfl).trans (yA h1)) rfl (hok _ rfl rfl)) rfl (d_h0 [] (e := [(31, .t (.hpt (cd 5 i2) 0))]) (ks := [31]) rfl (dgy rfl rfl rfl rfl h8) rfl rfl (fun S' hM hok => h_nc hM rfl rfl rfl rfl (hok _ rfl rfl)) rfl (d_h0 [] (e := [(32, .t (.hpt (cd 5 i2) 0))]) (ks := [32]) rfl (dgy rfl rfl rfl rfl h8) rfl rfl (fun S' hM hok => h_fd hM rfl rfl rfl rfl rfl (hok _ rfl rfl)) rfl (d_h (e := [(33, .t ((ptT 3 x3.l_)))]) (ks := [33]) rfl (dgy rfl rfl rfl rfl h8) rfl rfl (fun S' hM hk hok => h_ld hM hk rfl rfl rfl (zGT h4) rfl (zA0 _ _) rfl (hok _ rfl rfl)) rfl ?_)))))))
 rcases qQ h with ⟨h9, h⟩ | ⟨i10, h9, h⟩
 ·
  exact qV h
 refine d_h0 [] (e := [(34, .t (.hpt (cd 3 i10) 0))]) (ks := [34]) rfl (dgy rfl rfl rfl rfl h8) rfl rfl (fun S' hM hok => h_nc hM rfl (zM rfl) (zFb h9) rfl (hok _ rfl rfl)) rfl (d_h0 [] (e := [(35, .t (.hpt (cd 3 i10) 6))]) (ks := [35]) rfl (dgy rfl rfl rfl rfl h8) rfl rfl (fun S' hM hok => h_fd hM rfl rfl rfl rfl rfl (hok _ rfl rfl)) rfl (bi h fun x11 h12 h => d_h (e := [(36, .i x11.commits_)]) (ks := [36]) rfl (dgy rfl rfl rfl rfl h8) rfl rfl (fun S' hM hk hok => h_ld hM hk rfl rfl rfl (zA7 h12) rfl rfl rfl (hok _ rfl rfl)) rfl (d_s (.b (x3.at_ != x11.commits_)) rfl (dgy rfl rfl rfl rfl h8) rfl rfl rfl rfl (d_pF (.b (x3.at_ != x11.commits_)) h8 rfl rfl (zAd (by kernel_rfl) ?_)))))
 refine c_if h rfl (fun h13 h => c_sr (o_1 (.i 34) rfl (zB (zJ ?_)))) fun h13 h => zK (c_sr (o_1 (.i 0) rfl (zB (zJ ?_))))
 ·
  cases h; exact eR rfl rfl
 cases h; exact eR rfl rfl
theorem zF6 (p0 : (Option Nat)) (p1 : Int) (w0 : Hp) (r : ((List UInt8) × Int)) (h : zCE p0 p1 w0 = some r) : FCH Try.prog 31 [.t ((ptT 5 p0)), .t (.d (.lit (.int .i64 p1)))] [] [] (hpA w0) (hpA w0) (.tup [.d (.seq 1 (qE r.1)), .d (.lit (.int .i64 r.2))]) := by
 refine qY (rs := [.tmp 4, .tmp 5]) (n := 34) [] Try.func31 rfl rfl (Nat.le_of_ble_eq_true rfl) rfl (pins := []) rfl (L := [(HK, .hp (hpA w0)), (0, .t ((ptT 5 p0))), (1, .i p1)]) rfl (c_sr (o_m2 (.n) (.i 0) rfl (zB (zL (c_sr (o_mv rfl (zM rfl) ?_))))))
 refine bi h fun x1 h2 h => o_cR (zCk _ w0 _ h2) (g0 rfl) rfl (a1 (yJ rfl)) (r1 rfl) (o_1 (.i x1) rfl (zB (c_sr (o_m2 (.i x1) (.b (x1 != 0)) rfl (zB ?_)))))
 refine c_if h rfl (fun h3 h => c_sr (o_m3 (.i x1) (.n) (.i x1) rfl (zB (zJ ?_)))) fun h3 h => zK (zL (c_sr (o_mv rfl (zM rfl) ?_)))
 ·
  cases h
  exact ⟨⟨_, rfl, (.tup (.cons (.d (.nil _)) (.cons .r .nil)))⟩, trivial, rfl⟩
 rcases qQ h with ⟨h4, h⟩ | ⟨i5, h4, h⟩
 ·
  exact qV h
 refine o_nf 3 rfl (pq rfl h4) rfl (bi h fun x6 h7 h => o_ld (.t (.mpt (OB + cd 6 x6.now_))) rfl (zGT h7) rfl (o_1 (.i p1) rfl (bi h fun x8 h9 h => o_of (e := [(20, .tup [.y ((zY x8 p1).getD ([] : (List UInt8))), .b ((zY x8 p1).isSome)])]) (g0 rfl) (h_mlk2H (kv := (fun z : Int => Value.int .i64 z)) (cv := (fun l : List UInt8 => D.y l)) mR rfl rfl rfl (gl_mp h9) rfl rfl (keyInt (by kernel_rfl)) rfl rfl (fun _ => RepD.nilSeq _ _) rfl rfl) rfl (o_m5 (.tup [.y ((zY x8 p1).getD ([] : (List UInt8))), .b ((zY x8 p1).isSome)]) (.y ((zY x8 p1).getD ([] : (List UInt8)))) (.b ((zY x8 p1).isSome)) (.y ((zY x8 p1).getD ([] : (List UInt8)))) (.b ((zY x8 p1).isSome)) rfl (zB (c_sr (o_1 (.b ((zY x8 p1).isSome)) rfl (zB ?_))))))))
 refine c_if h rfl (fun h10 h => c_sr (o_1 (.y ((zY x8 p1).getD ([] : (List UInt8)))) rfl ?_)) fun h10 h => zK (c_sr (o_f3 0 rfl (pq rfl h4) rfl (o_of (e := [(29, .t ((ptT 3 x6.l_)))]) (g0 rfl) (h_ld mR rfl rfl rfl rfl (zGT h7) rfl (zA0 _ _) rfl rfl) rfl (o_1 (.i p1) rfl ?_))))
 ·
  refine bi h fun x11 h12 h => o_cA (zC7 _ _ h12) (g0 rfl) rfl (.cons .r .nil) rfl (o_m2 (.y x11) (.i 0) rfl (zB (zJ ?_)))
  cases h; exact eR rfl rfl
 refine bi h fun x13 h14 h => o_cR (zF2 _ _ w0 _ h14) (g0 rfl) rfl (a2 (yJ rfl) (aR rfl)) (r2 rfl) (o_m4 (.y x13.1) (.i x13.2) (.y x13.1) (.i x13.2) rfl (zB (zJ ?_)))
 cases h; exact eR rfl rfl
theorem zB4 (p0 : (Option Nat)) (p1 : Int) (p2 : (List UInt8)) (w0 : Hp) (r : (Int × Hp)) (h : yZ p0 p1 p2 w0 = some r) : FCH Try.prog 77 [.t ((ptT 5 p0)), .t (.d (.lit (.int .i64 p1))), .t (.d (.seq 1 (qE p2)))] [] [] (hpA w0) (hpA r.2) (.t (.d (.lit (.int .i64 r.1)))) := by
 refine qY (rs := [.tmp 6]) (n := 36) [] Try.func77 rfl rfl (Nat.le_of_ble_eq_true rfl) rfl (pins := []) rfl (L := [(HK, .hp (hpA w0)), (0, .t ((ptT 5 p0))), (1, .i p1), (2, .y p2)]) rfl (c_sr (o_1 (.i 0) rfl (zB (zL (c_sr (o_mv rfl (zM rfl) ?_))))))
 refine bi h fun x1 h2 h => o_cR (zCk _ w0 _ h2) (g0 rfl) rfl (a1 (yJ rfl)) (r1 rfl) (o_1 (.i x1) rfl (zB (c_sr (o_m2 (.i x1) (.b (x1 != 0)) rfl (zB ?_)))))
 refine c_if h rfl (fun h3 h => c_sr (o_m2 (.i x1) (.i x1) rfl (zB (zJ ?_)))) fun h3 h => zK (zL (qC (c_sr (o_m3 (.i p1) (.b (decide (p1 < 0))) (.b (decide (p1 < 0))) rfl ?_))))
 ·
  cases h; exact eR rfl rfl
 rcases zF h with ⟨h4, h⟩ | ⟨h4, h⟩
 ·
  refine o_k4 rfl h4 (o_k3 rfl h4 (o_pT (.b true) h4 rfl (o_1 (.b true) rfl (zB (c_t rfl rfl (c_sr (o_1 (.i 31) rfl (zB (zJ ?_)))))))))
  cases h; exact eR rfl rfl
 refine o_s (.i p1) (gy rfl rfl rfl h4) rfl rfl rfl (o_of (e := [(18, .t ((ptT 5 p0)))]) (gy rfl rfl rfl h4) (h_mv mR (.inl rfl) (zM rfl) rfl rfl) rfl ?_)
 rcases qQ h with ⟨h5, h⟩ | ⟨i6, h5, h⟩
 ·
  exact qV h
 refine o_of (e := [(19, .t (.hpt (cd 5 i6) 0))]) (gy rfl rfl rfl h4) (h_nc mR rfl (zM rfl) (zFb h5) rfl rfl) rfl (o_of (e := [(20, .t (.hpt (cd 5 i6) 0))]) (gy rfl rfl rfl h4) (h_fd mR rfl rfl rfl rfl rfl rfl) rfl (bi h fun x7 h8 h => o_of (e := [(21, .t ((ptT 3 x7.l_)))]) (gy rfl rfl rfl h4) (h_ld mR rfl rfl rfl rfl (zGT h8) rfl (zA0 _ _) rfl rfl) rfl (bi h fun x9 h10 h => o_cR (zBL _ w0 _ h10) (gy rfl rfl rfl h4) rfl (a1 (yJ rfl)) (r1 rfl) (o_s (.b (decide (p1 ≥ x9))) (gy rfl rfl rfl h4) rfl rfl rfl (o_pF (.b (decide (p1 ≥ x9))) h4 rfl (o_1 (.b (decide (p1 ≥ x9))) rfl (zB ?_)))))))
 refine c_if h rfl (fun h11 h => c_sr (o_1 (.i 31) rfl (zB (zJ ?_)))) fun h11 h => c_sr (o_1 (.y p2) rfl (o_c (g0 rfl) rfl rfl rfl (lenE _ _) trivial (o_m2 (.b ((p2.length : Int) != 64)) (.b ((p2.length : Int) != 64)) rfl (zB ?_))))
 ·
  cases h; exact eR rfl rfl
 refine c_if h rfl (fun h12 h => c_sr (o_1 (.i 2) rfl (zB (zJ ?_)))) fun h12 h => zK (zL (zAC zBM (by kernel_rfl) (d_mv rfl rfl (pq rfl h5) (d_nc rfl rfl rfl (d_fd 3 rfl rfl rfl (d_ld (.t (.mpt (OB + cd 6 x7.now_))) rfl rfl (zGT h8) rfl (d_1 (.i p1) rfl rfl (d_1 (.y p2) rfl rfl ?_))))))))
 ·
  cases h; exact eR rfl rfl
 refine bi h fun x13 h14 h => d_ca (zC7 _ _ h14) rfl (dg0 rfl) rfl rfl rfl rfl rfl rfl rfl rfl (.cons .r .nil) rfl rfl (bi h fun x15 h16 h => d_h (e := [(HK, .hp (hpA (w0.st_mp x7.now_ (mset x15 p1 x13))))]) (ks := [HK]) rfl (dg0 rfl) rfl rfl (fun S' hM hk hok => h_mupH (kv := (fun z : Int => Value.int .i64 z)) (cv := (fun l : List UInt8 => D.y l)) hM hk rfl rfl (gl_mp h16) rfl rfl rfl (keyInt (by kernel_rfl)) rfl (su_mp (x' := (mset x15 p1 x13)) h16)) rfl (zAd (by kernel_rfl) (c_sr (o_1 (.i 0) rfl (zB (zJ ?_))))))
 cases h; exact eR rfl rfl
end Go.Proofs.Ytjomnccladjpgaa

/-
 slices.Clone over bytes: what comes back is the caller's own.
-/
namespace Go.Proofs.Ytjomnccladjpgaa
open Go Go.RowKit
set_option linter.unusedVariables false
set_option maxHeartbeats 4000000
set_option maxRecDepth 20000
theorem zEP (p0 : List UInt8) (r : List UInt8) (h : yB p0 = some r) : FC Try.prog 84 [.t (.d (.seq 1 (qE p0)))] [] (.t (.own 5 1 (List.map cU8 r))) := by
 refine zDl (rs := [.tmp 2]) (n := 8) Try.func84 rfl rfl (Nat.le_of_ble_eq_true rfl) rfl (pins := []) rfl (L := [(0, .t (.d (.seq 1 (qE p0))))]) rfl ?_
 have hr : r = p0 := by
  have := (zGC h).2
  simpa using this
 refine zL ?_
 refine zS ?_
 refine o_s (.t (.d (.lit (.slice none 0 0)))) (g0 rfl) rfl rfl rfl ?_
 refine zB ?_
 refine yG ?_
 refine zL ?_
 refine zL ?_
 refine c_nil (l1 := [_]) (k := 1) (l := qE p0) rfl rfl rfl rfl ?_
 refine o_s (.t (.d (.seq 1 (qE p0)))) (g0 rfl) rfl rfl rfl ?_
 refine zB ⟨rfl, rfl, fun b hb => ?_⟩
 refine yG ?_
 refine zJM rfl (fun hc => ?_) (fun hc => ?_)
 ·
  have hb := hb hc
  have hp : p0 = [] := by unfold qE at hb; simpa using hb
  refine zL ?_
  refine zS ?_
  refine o_s (.t (.d (.lit (.slice none 0 0)))) (g0 rfl) rfl rfl rfl ?_
  refine zB ?_
  refine yG ?_
  refine zJ ?_
  repeat (refine zI6 ?_)
  subst hr hp
  exact end0 rfl (.t (.nilOwn _ _))
 ·
  refine zK ?_
  refine yG ?_
  refine zL ?_
  refine zS ?_
  refine o_b0 (.t (.own 5 1 (List.map cU8 []))) (g0 rfl) rfl rfl rfl rfl rfl ?_
  refine o_s (.t (.d (.seq 1 (qE p0)))) (g0 rfl) rfl rfl rfl ?_
  refine o_2c (g0 rfl) rfl rfl rfl (appE (c := cU8) h) (appC (c := cU8) h) ?_
  refine o_2 (.t (.d (.seq 1 (qE r)))) (.t (.own 5 1 (qE r))) (g0 rfl) rfl rfl rfl ?_
  refine zB ?_
  refine yG ?_
  refine zJ ?_
  exact end0 rfl (.refl _)
end Go.Proofs.Ytjomnccladjpgaa

/-
 A scope with one label, to which the run jumps back.
-/
namespace Go.Proofs.Ytjomnccladjpgaa
open Go Go.RowKit
set_option linter.unusedVariables false
def zHx (l : Nat) (K : SL → Prop) (Q : Exit → SL → Prop) : Exit → SL → Prop
 | .goto l', L => l' = l ∧ K L
 | e, L => Q e L
section
variable {P : Program} {pins : List Nat} {N : Nat} {Q : Exit → SL → Prop} {L : SL} {K : SL → Prop} {l : Nat}
theorem gq_goto (h : K L) : zHx l K Q (.goto l) L := ⟨rfl, h⟩
theorem zI0 {b : Frame} {a : Act} {k : List Item} {cs : List Frame} {w : World} {c : Code} : step P (lone (b.atR a (.code (.scope c) :: k)) cs w) = .next (lone (b.atR a (.code c :: .inScope c :: k)) cs w) :=
 step_lone_go (by simp [stepG, stepG.exec, Frame.atR])
theorem zFQ {b : Frame} {a : Act} {k : List Item} {cs : List Frame} {w : World} {c : Code} : step P (lone (b.atR a (.inScope c :: k)) cs w) = .next (lone (b.atR a k) cs w) :=
 step_lone_go (by simp [stepG, stepG.exec, Frame.atR])
theorem c_goto (h : Q (.goto l) L) : qI P pins N (.goto l) Q L := fun Fe ne hF w0 m0 o0 G a w hS => wpIn_goto ⟨L, h, hS⟩
def zFC (P : Program) (pins : List Nat) (N : Nat) (c r : Code) (Q : Exit → SL → Prop) (L : SL) : Prop :=
 ∀ (Fe : Fence) (ne : Nat), WideP pins Fe → ∀ (w0 : World) (m0 : Mem) (o0 : OwnM) (G : GD) (a : Act) (w : World), St w0 m0 o0 G pins N L a w → ∀ (b : Frame) (k : List Item) (cs : List Frame), b.roundOf = Fe.round → Fe.fn b.fn → Fe.room (cs.length + 1 + ne) →
  ∃ e a' w', (∃ L', Q e L' ∧ StX e w0 m0 o0 G pins N L' a' w') ∧ ArrivesIn (Machine.fenced P Fe) P (lone (b.atR a (.code r :: .inScope c :: k)) cs w) b k cs e a' w'
theorem scope_of {c r : Code} (hf : findLabel c l = some r) (h : qI P pins N r (zHx l (zFC P pins N c r Q) Q) L) : zFC P pins N c r Q L := by
 intro Fe ne hF w0 m0 o0 G a w hS b k cs hro hb hr
 have hg : gotoIn l (.inScope c :: k) = some (.code r :: .inScope c :: k) := by simp [gotoIn, hf]
 obtain ⟨e, a₁, w₁, ⟨L₁, hq, hS₁⟩, harr⟩ := h Fe ne hF w0 m0 o0 G a w hS b (.inScope c :: k) cs hro hb hr
 cases e with
 | normal => exact ⟨.normal, a₁, w₁, ⟨L₁, hq, hS₁⟩, StepsIn.trans harr (.one (fenced_calm hb hr rfl) zFQ)⟩
 | exit id => exact ⟨.exit id, a₁, w₁, ⟨L₁, hq, hS₁⟩, fun k' hk => harr.1 k' (by simp [exitTo, hk]), fun h1 hk => harr.2 h1 (by simp [exitTo, hk])⟩
 | goto l' =>
  obtain ⟨rfl, hJ⟩ := hq
  obtain ⟨e₂, a₂, w₂, hq₂, harr₂⟩ := hJ Fe ne hF w0 m0 o0 G a₁ w₁ hS₁ b k cs hro hb hr
  exact ⟨e₂, a₂, w₂, hq₂, .of_steps (harr.1 _ hg) harr₂⟩
 | ret => exact ⟨_, a₁, w₁, ⟨L₁, hq, hS₁⟩, harr⟩
 | panic ch => exact ⟨_, a₁, w₁, ⟨L₁, hq, hS₁⟩, harr⟩
 | outgrown => exact ⟨_, a₁, w₁, ⟨L₁, hq, hS₁⟩, harr⟩
theorem zIt {c : Code} (l : Nat) (r : Code) (hf : findLabel c l = some r) (h : qI P pins N c (zHx l (zFC P pins N c r Q) Q) L) : qI P pins N (.scope c) Q L := by
 intro Fe ne hF w0 m0 o0 G a w hS b k cs hro hb hr
 have hg : gotoIn l (.inScope c :: k) = some (.code r :: .inScope c :: k) := by simp [gotoIn, hf]
 have st : StepsIn (Machine.fenced P Fe) P (lone (b.atR a (.code (.scope c) :: k)) cs w) (lone (b.atR a (.code c :: .inScope c :: k)) cs w) := .one (fenced_calm hb hr rfl) zI0
 obtain ⟨e, a₁, w₁, ⟨L₁, hq, hS₁⟩, harr⟩ := h Fe ne hF w0 m0 o0 G a w hS b (.inScope c :: k) cs hro hb hr
 cases e with
 | normal => exact ⟨.normal, a₁, w₁, ⟨L₁, hq, hS₁⟩, StepsIn.trans st (StepsIn.trans harr (.one (fenced_calm hb hr rfl) zFQ))⟩
 | exit id => exact ⟨.exit id, a₁, w₁, ⟨L₁, hq, hS₁⟩, fun k' hk => StepsIn.trans st (harr.1 k' (by simp [exitTo, hk])), fun h1 hk => let ⟨k₁, h2, h3⟩ := harr.2 h1 (by simp [exitTo, hk]); ⟨k₁, h2, StepsIn.trans st h3⟩⟩
 | goto l' =>
  obtain ⟨rfl, hJ⟩ := hq
  obtain ⟨e₂, a₂, w₂, hq₂, harr₂⟩ := hJ Fe ne hF w0 m0 o0 G a₁ w₁ hS₁ b k cs hro hb hr
  exact ⟨e₂, a₂, w₂, hq₂, .of_steps (StepsIn.trans st (harr.1 _ hg)) harr₂⟩
 | ret => exact ⟨_, a₁, w₁, ⟨L₁, hq, hS₁⟩, .of_steps st harr⟩
 | panic ch => exact ⟨_, a₁, w₁, ⟨L₁, hq, hS₁⟩, .of_steps st harr⟩
 | outgrown => exact ⟨_, a₁, w₁, ⟨L₁, hq, hS₁⟩, .of_steps st harr⟩
theorem zIs {c : Code} {Q' : Exit → SL → Prop} (h : qI P pins N c Q L) (hq : ∀ e L', Q e L' → Q' e L') : qI P pins N c Q' L :=
 fun Fe ne hF w0 m0 o0 G a w hS => wpIn_mono (h Fe ne hF w0 m0 o0 G a w hS) fun e a' w' ⟨L', h1, h2⟩ => ⟨L', hq e L' h1, h2⟩
theorem c_lab {X : Type} {c b : Code} (F : X → SL) (M : Nat → X → Prop) (n0 : Nat) (x0 : X) (js0 : List Nat) (hf : findLabel c l = some (.seq .skip b)) (h0 : M n0 x0) (hb : fgtB pins js0 L = true) (hh : zF3 L) (hw : WkS (fgtL js0 L) (F x0)) (hr : zEq (F x0) = true)
  (round : ∀ n x, M n x → qI P pins N b (zHx l (fun L' => ∃ n' x' js, n' < n ∧ M n' x' ∧ fgtB pins js L' = true ∧ zF3 L' ∧ WkS (fgtL js L') (F x') ∧ zEq (F x') = true) Q) (F x)) :
  qI P pins N (.seq (.label l) b) (zHx l (zFC P pins N c (.seq .skip b) Q) Q) L := by
 have key : ∀ n x, M n x → qI P pins N b (zHx l (zFC P pins N c (.seq .skip b) Q) Q) (F x) := by
  intro n
  induction n using Nat.strongRecOn with
  | _ n ih =>
   intro x hx
   refine zIs (round n x hx) fun e L' hq => ?_
   cases e with
   | goto l' =>
    obtain ⟨rfl, n', x', js, hlt, hM, q1, q2, q3, q4⟩ := hq
    refine ⟨rfl, fun Fe ne hF w0 m0 o0 G a w hS => ?_⟩
    have hc : qI P pins N (.seq .skip b) (zHx l' (zFC P pins N c (.seq .skip b) Q) Q) (F x') := zL (zK (ih n' hlt x' hM))
    exact scope_of hf hc Fe ne hF w0 m0 o0 G a w (St.weaken (hS.fgt _ _ q1 q2) q3 q4)
   | _ => exact hq
 intro Fe ne hF w0 m0 o0 G a w hS
 exact zL (Q := zHx l (zFC P pins N c (.seq .skip b) Q) Q) (fun Fe ne hF w0 m0 o0 G a w hS => wpIn_label ⟨F x0, key n0 x0 h0, hS⟩) Fe ne hF w0 m0 o0 G a w (St.weaken (hS.fgt _ _ hb hh) hw hr)
end
end Go.Proofs.Ytjomnccladjpgaa
