/-
 Walks of functions: each function does what its model tells. Printed by a program of this claim's own (gen.py) off the given translation.
-/
import Derived.Test.YtjomnccladjpgaaGreatQ09
import Derived.Test.YtjomnccladjpgaaGreatQ11
import Derived.Test.YtjomnccladjpgaaGreatQ12
import Derived.Test.YtjomnccladjpgaaGreatQ07
import Derived.Test.YtjomnccladjpgaaGreatQ10
import Derived.Test.YtjomnccladjpgaaGreatQ13
set_option linter.unusedVariables false
set_option linter.unusedSimpArgs false
namespace Go.Proofs.YtjomnccladjpgaaGreat
open Go Go.RowKit
set_option linter.unusedVariables false
set_option maxHeartbeats 4000000
set_option maxRecDepth 20000
theorem zE5 (p1 : Int) (r : (List UInt8)) (h : zCa p1 = some r) : FC Tryz.prog 99 [.t (.d (.lit (.slice none 0 0))), .t (.d (.lit (.int .i64 p1)))] [] (.t (.own 5 1 (zN r))) := by
 refine zD5 (rs := [.tmp 4]) (n := 27) Tryz.func99 rfl rfl (Nat.le_of_ble_eq_true rfl) rfl (pins := []) rfl (L := [(0, .n), (1, .i p1)]) rfl (c_sr (o_1 (.n) rfl (zA (zJ (c_sr (o_m2 (.i p1) (.b (decide (p1 < 0))) rfl (zA ?_)))))))
 refine c_if h rfl (fun h1 h => zL ?_) fun h1 h => zG (zJ (c_sr (o_m2 (.i p1) (.n) rfl (o_of (e := [(10, .i 0)]) (g0 rfl) (h_cap0 mR rfl rfl rfl rfl rfl) rfl (o_m5 (.n) (.i 0) (.i (wi (0 - 0))) (.i (wi (p1 - (wi (0 - 0))))) (.i (wi (p1 - (wi (0 - 0))))) rfl (zA (c_sr ?_)))))))
 ·
  exact qF h
 refine o_m2 (.i (wi (p1 - (wi (0 - 0))))) (.b (decide ((wi (p1 - (wi (0 - 0)))) > 0))) rfl (zA ?_)
 refine c_if h rfl (fun h2 h => zL (o_m2 (.n) (.n) rfl (o_of (e := [(19, .i 0)]) (g0 rfl) (h_cap0 mR rfl rfl rfl rfl rfl) rfl (o_of (e := [(20, .n)]) (g0 rfl) (h_slnil mR rfl rfl rfl rfl rfl rfl rfl) rfl (o_1 (.i (wi (p1 - (wi (0 - 0))))) rfl ?_))))) fun h2 h => zG (c_sr (o_m2 (.n) (.n) rfl (zA (zF ?_))))
 ·
  refine bi h fun x3 h4 h => o_of (e := [(22, .fr 5 1)]) (g0 rfl) (h_apfr mR rfl rfl rfl rfl h4 rfl rfl) rfl (o_m2 (.n) (.i 0) rfl (o_of (e := [(22, .any), (25, .t (.own 5 1 (zN [])))]) (g0 rfl) (h_slfr mR rfl rfl rfl rfl rfl rfl rfl rfl rfl) rfl (o_2 (.y []) (.t (.own 5 1 (zN []))) (g0 rfl) rfl rfl rfl (zA (c_sr (o_2 (.y []) (.t (.own 5 1 (zN []))) (g0 rfl) rfl rfl rfl (o_2 (.y []) (.t (.own 5 1 (zN []))) (g0 rfl) rfl rfl rfl ?_)))))))
  refine zA (zF ?_)
  cases h
  exact end0 rfl .r
 cases h
 exact end0 rfl (.t (.nilOwn _ _))
theorem zE7 (p0 : (List (List UInt8))) (r : (List UInt8)) (h : zAf p0 = some r) : FC Tryz.prog 89 [.t (.d (.seq 1 (List.map (cSl 1 cU8) p0)))] [] (.t (.own 5 1 (zN r))) := by
 refine zD5 (rs := [.tmp 2]) (n := 36) Tryz.func89 rfl rfl (Nat.le_of_ble_eq_true rfl) rfl (pins := []) rfl (L := [(0, .t (.d (.seq 1 (List.map (cSl 1 cU8) p0))))]) rfl (c_sr (o_1 (.n) rfl (zA (c_sr (o_1 (.i 0) rfl (zA (yY r (fun (y1 : Int) => [(0, .t (.d (.seq 1 (List.map (cSl 1 cU8) p0)))), (3, .i y1)]) (fun y1 => zA4 p0 y1) ?_ ?_)))))))
 ·
  refine c_sr (o_1 (.t (.d (.seq 1 (List.map (cSl 1 cU8) p0)))) rfl (o_c (g0 rfl) rfl rfl rfl (lenE _ _) trivial (o_1 (.i 0) rfl (zA (zS (c_lp (fun (q : Int × Int) => [(0, .t (.d (.seq 1 (List.map (cSl 1 cU8) p0)))), (3, .i q.1), (9, .t (.d (.seq 1 (List.map (cSl 1 cU8) p0)))), (10, .i (p0.length : Int)), (11, .i q.2)]) (fun nl3 q => yR p0 nl3 q.1 q.2) (p0.length + 1) (0, 0) h (fun _ => rfl) rfl rfl ?_))))))
  rintro nl3 ⟨z11, z12⟩ h
  refine c_sr (o_1 (.b (decide (z12 < (p0.length : Int)))) rfl (zA (zJ (c_if h rfl (fun h13 h => zG (zJ (zS (c_sr ?_)))) fun h13 h => zAQ ?_))))
  ·
   refine bi h fun x14 h15 h => o_c (g0 rfl) rfl rfl rfl (idxE h15) (idxC h15) (o_m2 (.y x14) (.y x14) rfl (zA (c_sr (o_m2 (.i z11) (.y x14) rfl (o_c (g0 rfl) rfl rfl rfl (lenE _ _) trivial (o_m2 (.i (wi (z11 + (x14.length : Int)))) (.i (wi (z11 + (x14.length : Int)))) rfl (zA (c_sr ?_))))))))
   refine o_m2 (.i (wi (z11 + (x14.length : Int)))) (.b (decide ((wi (z11 + (x14.length : Int))) < 0))) rfl (zA (c_if h rfl (fun h16 h => zL ?_) fun h16 h => zG (zL (o_m2 (.i (wi (z12 + 1))) (.i (wi (z12 + 1))) rfl (zA ?_)))))
   ·
    exact qF h
   exact lE ((wi (z11 + (x14.length : Int))), (wi (z12 + 1))) h rfl rfl
  exact lE z11 h rfl rfl
 rintro y1 h
 refine c_sr (o_1 (.i y1) rfl (bi h fun x2 h3 h => o_cA (zE5 _ _ h3) (g0 rfl) rfl (.cons .r (.cons .r .nil)) rfl (o_2 (.y x2) (.t (.own 5 1 (zN x2))) (g0 rfl) rfl rfl rfl (zA (zJ (c_sr (o_1 (.t (.d (.seq 1 (List.map (cSl 1 cU8) p0)))) rfl (o_c (g0 rfl) rfl rfl rfl (lenE _ _) trivial (o_1 (.i 0) rfl ?_)))))))))
 refine zA (zS (c_lp (fun (q : (List UInt8) × Int) => [(6, .t (.own 5 1 (zN q.1))), (25, .t (.d (.seq 1 (List.map (cSl 1 cU8) p0)))), (26, .i (p0.length : Int)), (27, .i q.2)]) (fun nl2 q => yP p0 nl2 q.1 q.2) (p0.length + 1) (x2, 0) h (fun _ => rfl) rfl rfl ?_))
 rintro nl2 ⟨z4, z5⟩ h
 refine c_sr (o_1 (.b (decide (z5 < (p0.length : Int)))) rfl (zA (zJ ?_)))
 refine c_if h rfl (fun h6 h => zG (zJ (zS (c_sr ?_)))) fun h6 h => zAQ (c_sr (o_2 (.y z4) (.t (.own 5 1 (zN z4))) (g0 rfl) rfl rfl rfl (o_2 (.y z4) (.t (.own 5 1 (zN z4))) (g0 rfl) rfl rfl rfl (zA (zF ?_)))))
 ·
  refine bi h fun x7 h8 h => o_c (g0 rfl) rfl rfl rfl (idxE h8) (idxC h8) (o_m2 (.y x7) (.y x7) rfl (zA (zL (o_2 (.y z4) (.t (.own 5 1 (zN z4))) (g0 rfl) rfl rfl rfl (o_1 (.y x7) rfl ?_)))))
  refine bi h fun x9 h10 h => o_2c (g0 rfl) rfl rfl rfl (appE (c := cU8) h10) (appC (c := cU8) h10) (o_2 (.y x9) (.t (.own 5 1 (zN x9))) (g0 rfl) rfl rfl rfl (zA (zL (o_m2 (.i (wi (z5 + 1))) (.i (wi (z5 + 1))) rfl (zA ?_)))))
  exact lE (x9, (wi (z5 + 1))) h rfl rfl
 cases h
 exact end0 rfl .r
theorem zHP (p0 : (Option Nat)) (p1 : Int) (w0 : Hp) (r : ((List zC) × Int)) (h : zEd p0 p1 w0 = some r) : FCH Tryz.prog 75 [.t ((ptT 3 p0)), .t (.d (.lit (.int .i64 p1)))] [] [] (hpA w0) (hpA w0) (.tup [.d (.seq 2 (List.map zB r.1)), .d (.lit (.int .i64 r.2))]) := by
 refine qR (rs := [.tmp 4, .tmp 5]) (n := 88) [] Tryz.func75 rfl rfl (Nat.le_of_ble_eq_true rfl) rfl (pins := []) rfl (L := [(HK, .hp (hpA w0)), (0, .t ((ptT 3 p0))), (1, .i p1)]) rfl (c_sr (o_m2 (.n) (.i 0) rfl (zA (c_sr (o_1 (.n) rfl (zA (c_sr (o_m2 (.i p1) (.i p1) rfl (zA (zS (zDM (fun (q : (List zC) × Int) => [(0, .t ((ptT 3 p0))), (1, .i p1), (6, .t (.own 61 2 (List.map zB q.1))), (7, .i q.2), (HK, .hp (hpA w0))]) (fun nl1 q => qA p0 w0 p1 nl1 q.1 q.2) (16400) ([], p1) [] h (fun _ => rfl) rfl trivial ⟨.r, .r, (.t (.nilOwn _ _)), .r, .r, trivial⟩ rfl ?_)))))))))))
 rintro nl1 ⟨z1, z2⟩ h
 refine zJ (zS (c_sr (o_mv rfl (zI rfl) (o_1 (.i z2) rfl (bi h fun x3 h4 h => o_cR (zFq _ _ w0 _ h4) (g0 rfl) rfl (a2 (qO rfl) (aR rfl)) (r1 rfl) (o_1 (.box [.i 0, .i 0, .n, .b false]) rfl (o_st (.box [.i x3.kind_, .i x3.number_, .y x3.data_, .b x3.ok_]) (g0 rfl) rfl rfl rfl (zA ?_))))))))
 refine yY r (fun (q : (Option Nat) × Int × Bool) => [(0, .t ((ptT 3 p0))), (1, .i p1), (6, .t (.own 61 2 (List.map zB z1))), (7, .i z2), (8, .box [.i x3.kind_, .i x3.number_, .y x3.data_, .b x3.ok_]), (51, .ref 8 1), (52, .i x3.number_), (53, .t ((ptT 3 q.1))), (54, .i q.2.1), (55, .b q.2.2), (HK, .hp (hpA w0))]) (fun q => zCt (qA p0 w0 p1 nl1) p0 z2 w0 x3 z1 q.1 q.2.1 q.2.2) ?_ ?_
 ·
  refine zS (c_sr (o_m4 (.ref 8 3) (.b x3.ok_) (.b (!x3.ok_)) (.b (!x3.ok_)) rfl (zA (c_if h rfl (fun h17 h => c_sr (o_m2 (.n) (.i 0) rfl (zA (zF ?_)))) fun h17 h => ?_))))
  ·
   cases h
   exact ⟨⟨_, rfl, (.tup (.cons (.d (.nil _)) (.cons .r .nil)))⟩, trivial, rfl⟩
  refine yY r (fun (y18 : Bool) => [(0, .t ((ptT 3 p0))), (1, .i p1), (6, .t (.own 61 2 (List.map zB z1))), (7, .i z2), (8, .box [.i x3.kind_, .i x3.number_, .y x3.data_, .b x3.ok_]), (20, .b y18), (HK, .hp (hpA w0))]) (fun y18 => qE (qA p0 w0 p1 nl1) z1 z2 p1 x3 p0 w0 y18) ?_ ?_
  ·
   refine zL (o_m4 (.ref 8 0) (.i x3.kind_) (.b (x3.kind_ == 3)) (.b (x3.kind_ == 3)) rfl ?_)
   rcases zP h with ⟨h29, h⟩ | ⟨h29, h⟩
   ·
    refine o_s (.t (.d (.seq 2 (List.map zB z1)))) (gy rfl rfl rfl h29) rfl rfl rfl (o_c (gy rfl rfl rfl h29) rfl rfl rfl (lenE _ _) trivial (o_s (.b (decide ((z1.length : Int) > 0))) (gy rfl rfl rfl h29) rfl rfl rfl (o_pT (.b (decide ((z1.length : Int) > 0))) h29 rfl (o_1 (.b (decide ((z1.length : Int) > 0))) rfl ?_))))
    rcases zP h with ⟨h30, h⟩ | ⟨h30, h⟩
    ·
     refine o_s (.ref 8 1) (gy rfl rfl rfl h30) rfl rfl rfl (o_s (.i x3.number_) (gy rfl rfl rfl h30) rfl rfl rfl (o_s (.t (.d (.seq 2 (List.map zB z1)))) (gy rfl rfl rfl h30) rfl rfl rfl (o_c (gy rfl rfl rfl h30) rfl rfl rfl (lenE _ _) trivial (o_s (.b (x3.number_ == (z1.length : Int))) (gy rfl rfl rfl h30) rfl rfl rfl (o_pT (.b (x3.number_ == (z1.length : Int))) h30 rfl (o_1 (.b (x3.number_ == (z1.length : Int))) rfl ?_))))))
     rcases zP h with ⟨h31, h⟩ | ⟨h31, h⟩
     ·
      refine o_s (.ref 8 2) (gy rfl rfl rfl h31) rfl rfl rfl (o_s (.y x3.data_) (gy rfl rfl rfl h31) rfl rfl rfl (bi h fun x32 h33 h => o_cA (zFo _ _ h33) (gy rfl rfl rfl h31) rfl (.cons .r .nil) rfl (o_pT (.b x32) h31 rfl (o_1 (.b x32) rfl (zA ?_)))))
      exact lE x32 h rfl rfl
     refine o_k3 rfl h31 (o_pF (.b false) h31 rfl (o_1 (.b false) rfl (zA ?_)))
     exact lE false h rfl rfl
    refine o_k4 rfl h30 (o_k1 rfl h30 (o_pF (.b false) h30 rfl (o_1 (.b false) rfl (o_k3 rfl rfl (o_pF (.b false) rfl rfl (o_1 (.b false) rfl (zA ?_)))))))
    exact lE false h rfl rfl
   refine o_k3 rfl h29 (o_pF (.b false) h29 rfl (o_1 (.b false) rfl (o_k4 rfl rfl (o_k1 rfl rfl (o_pF (.b false) rfl rfl (o_1 (.b false) rfl (o_k3 rfl rfl (o_pF (.b false) rfl rfl (o_1 (.b false) rfl (zA ?_))))))))))
   exact lE false h rfl rfl
  rintro y18 h
  refine c_if h rfl (fun h19 h => c_sr (o_2 (.t (.d (.seq 2 (List.map zB z1)))) (.t (.own 61 2 (List.map zB z1))) (g0 rfl) rfl rfl rfl (o_m4 (.i z2) (.i (wi (z2 + 1))) (.i p1) (.i (wi ((wi (z2 + 1)) - p1))) rfl (o_2 (.t (.d (.seq 2 (List.map zB z1)))) (.t (.own 61 2 (List.map zB z1))) (g0 rfl) rfl rfl rfl (o_1 (.i (wi ((wi (z2 + 1)) - p1))) rfl (zA (zF ?_))))))) fun h19 h => zJ (qQ mixed (by kernel_rfl) (d_1 (.ref 8 0) rfl rfl (d_1 (.i x3.kind_) rfl rfl (d_1 (.b (x3.kind_ != 1)) rfl rfl (d_1 (.b (x3.kind_ != 1)) rfl rfl ?_)))))
  ·
   cases h; exact eR rfl rfl
  rcases zP h with ⟨h20, h⟩ | ⟨h20, h⟩
  ·
   refine d_k1 rfl rfl h20 (d_k1 rfl rfl h20 (d_k1 rfl rfl h20 (d_k1 rfl rfl h20 (d_k1 rfl rfl h20 (d_pT (.b true) h20 rfl rfl (d_1 (.b true) rfl rfl (yD (by kernel_rfl) ?_)))))))
   refine c_t rfl rfl (c_sr (o_m2 (.n) (.i 0) rfl (zA (zF ?_))))
   cases h
   exact ⟨⟨_, rfl, (.tup (.cons (.d (.nil _)) (.cons .r .nil)))⟩, trivial, rfl⟩
  refine d_s (.ref 8 1) rfl (dgy rfl rfl rfl rfl h20) rfl rfl rfl rfl (d_s (.i x3.number_) rfl (dgy rfl rfl rfl rfl h20) rfl rfl rfl rfl ?_)
  rcases zQ h with ⟨h21, h⟩ | ⟨i22, h21, h⟩
  ·
   refine d_h0 [] (e := [(53, .t (.d (.lit (.pointer none))))]) (ks := [53]) rfl (dgy rfl rfl rfl rfl h20) rfl rfl (fun S' hM hok => h_mv hM (.inl rfl) ((zI rfl).trans (qL h21)) rfl (hok _ rfl rfl)) rfl (bi h fun x23 h24 h => d_cR (zAX _ w0 _ h24) rfl (dgy rfl rfl rfl rfl h20) rfl (a1 (aR rfl)) (r1 rfl) (d_s (.b (decide (x3.number_ ≥ x23))) rfl (dgy rfl rfl rfl rfl h20) rfl rfl rfl rfl (d_pF (.b (decide (x3.number_ ≥ x23))) h20 rfl rfl (d_1 (.b (decide (x3.number_ ≥ x23))) rfl rfl (yD (by kernel_rfl) ?_)))))
   refine c_if h rfl (fun h25 h => c_sr (o_m2 (.n) (.i 0) rfl (zA (zF ?_)))) fun h25 h => zG ?_
   ·
    cases h
    exact ⟨⟨_, rfl, (.tup (.cons (.d (.nil _)) (.cons .r .nil)))⟩, trivial, rfl⟩
   exact lE (none, x23, (decide (x3.number_ ≥ x23))) h rfl rfl
  refine d_h0 [] (e := [(53, .t (.hpt (cd 3 i22) 0))]) (ks := [53]) rfl (dgy rfl rfl rfl rfl h20) rfl rfl (fun S' hM hok => h_mv hM (.inl rfl) ((zI rfl).trans (qM h21)) rfl (hok _ rfl rfl)) rfl (bi h fun x26 h27 h => d_cR (zAX _ w0 _ h27) rfl (dgy rfl rfl rfl rfl h20) rfl (a1 aH) (r1 rfl) (d_s (.b (decide (x3.number_ ≥ x26))) rfl (dgy rfl rfl rfl rfl h20) rfl rfl rfl rfl (d_pF (.b (decide (x3.number_ ≥ x26))) h20 rfl rfl (d_1 (.b (decide (x3.number_ ≥ x26))) rfl rfl (yD (by kernel_rfl) ?_)))))
  refine c_if h rfl (fun h28 h => c_sr (o_m2 (.n) (.i 0) rfl (zA (zF ?_)))) fun h28 h => zG ?_
  ·
   cases h
   exact ⟨⟨_, rfl, (.tup (.cons (.d (.nil _)) (.cons .r .nil)))⟩, trivial, rfl⟩
  exact lE ((some i22), x26, (decide (x3.number_ ≥ x26))) h rfl rfl
 rintro ⟨y5, y6, y7⟩ h
 refine c_sr (o_mv rfl (zI rfl) (o_m2 (.i z2) (.i (wi (z2 + 1))) rfl (bi h fun x8 h9 h => o_cR (zFq _ _ w0 _ h9) (g0 rfl) rfl (a2 (qO rfl) (aR rfl)) (r1 rfl) (o_1 (.box [.i 0, .i 0, .n, .b false]) rfl (o_st (.box [.i x8.kind_, .i x8.number_, .y x8.data_, .b x8.ok_]) (g0 rfl) rfl rfl rfl (zA (zJ (c_sr (o_m4 (.ref 9 3) (.b x8.ok_) (.b (!x8.ok_)) (.b (!x8.ok_)) rfl ?_)))))))))
 rcases zP h with ⟨h10, h⟩ | ⟨h10, h⟩
 ·
  refine o_k3 rfl h10 (o_pT (.b true) h10 rfl (o_1 (.b true) rfl (o_k4 rfl rfl (o_k1 rfl rfl ?_))))
  refine o_pT (.b true) rfl rfl (zA (c_t rfl rfl (c_sr (o_m2 (.n) (.i 0) rfl (zA (zF ?_))))))
  cases h
  exact ⟨⟨_, rfl, (.tup (.cons (.d (.nil _)) (.cons .r .nil)))⟩, trivial, rfl⟩
 refine o_s (.ref 9 0) (gy rfl rfl rfl h10) rfl rfl rfl (o_s (.i x8.kind_) (gy rfl rfl rfl h10) rfl rfl rfl (o_s (.b (x8.kind_ != 2)) (gy rfl rfl rfl h10) rfl rfl rfl (o_pF (.b (x8.kind_ != 2)) h10 rfl (o_1 (.b (x8.kind_ != 2)) rfl ?_))))
 rcases zP h with ⟨h11, h⟩ | ⟨h11, h⟩
 ·
  refine o_k4 rfl h11 (o_k1 rfl h11 (o_pT (.b true) h11 rfl (zA (c_t rfl rfl (c_sr (o_m2 (.n) (.i 0) rfl (zA (zF ?_))))))))
  cases h
  exact ⟨⟨_, rfl, (.tup (.cons (.d (.nil _)) (.cons .r .nil)))⟩, trivial, rfl⟩
 refine o_s (.ref 9 1) (gy rfl rfl rfl h11) rfl rfl rfl (o_s (.i x8.number_) (gy rfl rfl rfl h11) rfl rfl rfl (o_s (.ref 8 1) (gy rfl rfl rfl h11) rfl rfl rfl (o_s (.i x3.number_) (gy rfl rfl rfl h11) rfl rfl rfl (o_s (.b (x8.number_ != x3.number_)) (gy rfl rfl rfl h11) rfl rfl rfl (o_pF (.b (x8.number_ != x3.number_)) h11 rfl (zA ?_))))))
 refine c_if h rfl (fun h12 h => c_sr (o_m2 (.n) (.i 0) rfl (zA (zF ?_)))) fun h12 h => zG (qQ mixed (by kernel_rfl) (d_2 (.t (.d (.seq 2 (List.map zB z1)))) (.t (.own 61 2 (List.map zB z1))) rfl (dg0 rfl) rfl rfl rfl rfl rfl (d_1 (.ref 8 1) rfl rfl (d_1 (.i x3.number_) rfl rfl (d_1 (.ref 8 2) rfl rfl (d_1 (.y x3.data_) rfl rfl (d_1 (.ref 9 2) rfl rfl (d_1 (.y x8.data_) rfl rfl ?_))))))))
 ·
  cases h
  exact ⟨⟨_, rfl, (.tup (.cons (.d (.nil _)) (.cons .r .nil)))⟩, trivial, rfl⟩
 refine d_1 (.t (.own 40 1 (List.map (cSl 1 cU8) [x3.data_, x8.data_]))) rfl rfl (bi h fun x13 h14 h => d_ca (zE7 _ _ h14) rfl (dg0 rfl) rfl rfl rfl rfl rfl rfl rfl rfl (.cons .r .nil) rfl rfl (d_1 (.t (.agg [.i x3.number_, .y x13])) rfl rfl (d_1 (.t (.own 61 2 (List.map zB [(zC.mk x3.number_ x13)]))) rfl rfl ?_)))
 refine bi h fun x15 h16 h => d_2c rfl (dg0 rfl) rfl rfl rfl rfl rfl (appE (c := zB) h16) (appC (c := zB) h16) (d_2 (.t (.d (.seq 2 (List.map zB x15)))) (.t (.own 61 2 (List.map zB x15))) rfl (dg0 rfl) rfl rfl rfl rfl rfl (yD (by kernel_rfl) (zL (o_m3 (.i z2) (.i (wi (z2 + 2))) (.i (wi (z2 + 2))) rfl (zA ?_)))))
 exact lE (x15, (wi (z2 + 2))) h rfl rfl
theorem zEz (p0 : (Option Nat)) (w0 : Hp) (r : (List zC)) (h : zCE p0 w0 = some r) : FCH Tryz.prog 50 [.t ((ptT 3 p0))] [] [] (hpA w0) (hpA w0) (.t (.own 61 2 (List.map zB r))) := by
 refine qR (rs := [.tmp 2]) (n := 22) [] Tryz.func50 rfl rfl (Nat.le_of_ble_eq_true rfl) rfl (pins := []) rfl (L := [(HK, .hp (hpA w0)), (0, .t ((ptT 3 p0)))]) rfl (c_sr (o_1 (.n) rfl (zA (c_sr (o_1 (.n) rfl (zA (c_sr (o_1 (.i 0) rfl (zA (zS (zDM (fun (q : (List zC) × Int) => [(0, .t ((ptT 3 p0))), (3, .t (.own 61 2 (List.map zB q.1))), (4, .i q.2), (HK, .hp (hpA w0))]) (fun nl1 q => zBB p0 w0 nl1 q.1 q.2) (16400) ([], 0) [] h (fun _ => rfl) rfl trivial ⟨.r, (.t (.nilOwn _ _)), .r, .r, trivial⟩ rfl ?_)))))))))))
 rintro nl1 ⟨z1, z2⟩ h
 refine zS (c_sr (o_mv rfl (zI rfl) (o_1 (.i z2) rfl ?_)))
 refine bi h fun x3 h4 h => o_cR (zHP _ _ w0 _ h4) (g0 rfl) rfl (a2 (qO rfl) (aR rfl)) (r2 rfl) (o_m5 (.tup [.d (.seq 2 (List.map zB x3.1)), .i x3.2]) (.t (.d (.seq 2 (List.map zB x3.1)))) (.i x3.2) (.t (.d (.seq 2 (List.map zB x3.1)))) (.i x3.2) rfl (zA (zJ (c_sr (o_m2 (.i x3.2) (.b (x3.2 == 0)) rfl (zA ?_))))))
 refine c_if h rfl (fun h5 h => c_sr (o_2 (.t (.d (.seq 2 (List.map zB z1)))) (.t (.own 61 2 (List.map zB z1))) (g0 rfl) rfl rfl rfl (o_2 (.t (.d (.seq 2 (List.map zB z1)))) (.t (.own 61 2 (List.map zB z1))) (g0 rfl) rfl rfl rfl (zA (zF ?_))))) fun h5 h => zG (c_sr (o_2 (.t (.d (.seq 2 (List.map zB z1)))) (.t (.own 61 2 (List.map zB z1))) (g0 rfl) rfl rfl rfl (o_1 (.t (.d (.seq 2 (List.map zB x3.1)))) rfl ?_)))
 ·
  cases h; exact eR rfl rfl
 refine bi h fun x6 h7 h => o_2c (g0 rfl) rfl rfl rfl (appE (c := zB) h7) (appC (c := zB) h7) (o_2 (.t (.d (.seq 2 (List.map zB x6)))) (.t (.own 61 2 (List.map zB x6))) (g0 rfl) rfl rfl rfl (zA (zL (o_m4 (.i z2) (.i x3.2) (.i (wi (z2 + x3.2))) (.i (wi (z2 + x3.2))) rfl (zA ?_)))))
 exact lE (x6, (wi (z2 + x3.2))) h rfl rfl
theorem zBr (p0 : (Option Nat)) (w0 : Hp) (r : Int) (h : yU p0 w0 = some r) : FCH Tryz.prog 51 [.t ((ptT 3 p0))] [] [] (hpA w0) (hpA w0) (.t (.d (.lit (.int .i64 r)))) := by
 refine qR (rs := [.tmp 2]) (n := 31) [] Tryz.func51 rfl rfl (Nat.le_of_ble_eq_true rfl) rfl (pins := []) rfl (L := [(HK, .hp (hpA w0)), (0, .t ((ptT 3 p0)))]) rfl (c_sr (o_1 (.i 0) rfl (zA (zJ (zS (yY r (fun (y1 : Bool) => [(0, .t ((ptT 3 p0))), (3, .b y1), (HK, .hp (hpA w0))]) (fun y1 => zAO p0 w0 y1) ?_ ?_))))))
 ·
  refine zL (o_mv rfl (zI rfl) ?_)
  rcases zQ h with ⟨h13, h⟩ | ⟨i14, h13, h⟩
  ·
   refine o_of (e := [(5, .b true)]) (g0 rfl) (h_pn mR (ng := false) rfl rfl rfl (zCz rfl h13) rfl rfl) rfl (o_1 (.b true) rfl (o_k4 rfl rfl (o_k1 rfl rfl (o_pT (.b true) rfl rfl (o_1 (.b true) rfl (zA ?_))))))
   exact lE true h rfl rfl
  refine o_of (e := [(5, .b false)]) (g0 rfl) (h_pn mR (ng := false) rfl rfl rfl (zC2 rfl h13) rfl rfl) rfl (o_1 (.b false) rfl (o_of (e := [(7, .t (.hpt (cd 3 i14) 0))]) (gy rfl rfl rfl rfl) (h_mv mR (.inl rfl) ((zI rfl).trans (qM h13)) rfl rfl) rfl (o_of (e := [(8, .t (.hpt (cd 3 i14) 0))]) (gy rfl rfl rfl rfl) (h_nc mR rfl rfl rfl rfl rfl) rfl (o_of (e := [(9, .t (.hpt (cd 3 i14) 0))]) (gy rfl rfl rfl rfl) (h_fd mR rfl rfl rfl rfl rfl rfl) rfl (bi h fun x15 h16 h => o_of (e := [(10, .t ((ptT 1 x15.d_)))]) (gy rfl rfl rfl rfl) (h_ld mR rfl rfl rfl rfl (zAj h16) rfl (qI _ _) rfl rfl) rfl ?_)))))
  rcases zQ h with ⟨h17, h⟩ | ⟨i18, h17, h⟩
  ·
   refine o_of (e := [(11, .b true)]) (gy rfl rfl rfl rfl) (h_pn mR (ng := false) rfl rfl rfl (zCz rfl h17) rfl rfl) rfl (o_pF (.b true) rfl rfl (o_1 (.b true) rfl (zA ?_)))
   exact lE true h rfl rfl
  refine o_of (e := [(11, .b false)]) (gy rfl rfl rfl rfl) (h_pn mR (ng := false) rfl rfl rfl (zC2 rfl h17) rfl rfl) rfl (o_pF (.b false) rfl rfl (o_1 (.b false) rfl (zA ?_)))
  exact lE false h rfl rfl
 rintro y1 h
 refine c_if h rfl (fun h2 h => c_sr (o_1 (.i 1) rfl (zA (zF ?_)))) fun h2 h => zJ (qQ mixed (by kernel_rfl) ?_)
 ·
  cases h; exact eR rfl rfl
 rcases zQ h with ⟨h3, h⟩ | ⟨i4, h3, h⟩
 ·
  refine d_mv rfl rfl ((zI rfl).trans (qL h3)) ?_
  exact qF h
 refine d_mv rfl rfl (pq rfl h3) (d_nc rfl rfl rfl (d_fd 0 rfl rfl rfl (bi h fun x5 h6 h => d_h (e := [(17, .t ((ptT 1 x5.d_)))]) (ks := [17]) rfl (dg0 rfl) rfl rfl (fun S' hM hk hok => h_ld hM hk rfl rfl rfl (zAj h6) rfl (qI _ _) rfl (hok _ rfl rfl)) rfl (bi h fun x7 h8 h => d_cR (zEa _ w0 _ h8) rfl (dg0 rfl) rfl (a1 (qO rfl)) (r1 rfl) (d_1 (.b x7) rfl rfl ?_)))))
 rcases zP h with ⟨h9, h⟩ | ⟨h9, h⟩
 ·
  refine d_k1 rfl rfl h9 (d_k1 rfl rfl h9 (d_k1 rfl rfl h9 (d_k1 rfl rfl h9 (d_k1 rfl rfl h9 (d_k1 rfl rfl h9 (d_k1 rfl rfl h9 (d_k1 rfl rfl h9 (d_k1 rfl rfl h9 (d_k1 rfl rfl h9 ?_)))))))))
  refine d_pT (.b true) h9 rfl rfl (d_1 (.b true) rfl rfl (yD (by kernel_rfl) (c_t rfl rfl (c_sr (o_1 (.i 30) rfl (zA (zF ?_)))))))
  cases h; exact eR rfl rfl
 refine d_h0 [] (e := [(20, .t (.hpt (cd 3 i4) 0))]) (ks := [20]) rfl (dgy rfl rfl rfl rfl h9) rfl rfl (fun S' hM hok => h_mv hM (.inl rfl) ((zI rfl).trans (qM h3)) rfl (hok _ rfl rfl)) rfl (d_h0 [] (e := [(21, .t (.hpt (cd 3 i4) 0))]) (ks := [21]) rfl (dgy rfl rfl rfl rfl h9) rfl rfl (fun S' hM hok => h_nc hM rfl rfl rfl rfl (hok _ rfl rfl)) rfl (d_h0 [] (e := [(22, .t (.hpt (cd 3 i4) 0))]) (ks := [22]) rfl (dgy rfl rfl rfl rfl h9) rfl rfl (fun S' hM hok => h_fd hM rfl rfl rfl rfl rfl (hok _ rfl rfl)) rfl (d_h (e := [(23, .t ((ptT 1 x5.d_)))]) (ks := [23]) rfl (dgy rfl rfl rfl rfl h9) rfl rfl (fun S' hM hk hok => h_ld hM hk rfl rfl rfl (zAj h6) rfl (qI _ _) rfl (hok _ rfl rfl)) rfl ?_)))
 refine bi h fun x10 h11 h => d_cR (zC0 _ w0 _ h11) rfl (dgy rfl rfl rfl rfl h9) rfl (a1 (qO rfl)) (r1 rfl) (d_h0 [] (e := [(25, .t (.hpt (cd 3 i4) 0))]) (ks := [25]) rfl (dgy rfl rfl rfl rfl h9) rfl rfl (fun S' hM hok => h_mv hM (.inl rfl) ((zI rfl).trans (qM h3)) rfl (hok _ rfl rfl)) rfl (d_h0 [] (e := [(26, .t (.hpt (cd 3 i4) 0))]) (ks := [26]) rfl (dgy rfl rfl rfl rfl h9) rfl rfl (fun S' hM hok => h_nc hM rfl rfl rfl rfl (hok _ rfl rfl)) rfl (d_h0 [] (e := [(27, .t (.hpt (cd 3 i4) 5))]) (ks := [27]) rfl (dgy rfl rfl rfl rfl h9) rfl rfl (fun S' hM hok => h_fd hM rfl rfl rfl rfl rfl (hok _ rfl rfl)) rfl (d_h (e := [(28, .i x5.life_)]) (ks := [28]) rfl (dgy rfl rfl rfl rfl h9) rfl rfl (fun S' hM hk hok => h_ld hM hk rfl rfl rfl (zAj h6) rfl rfl rfl (hok _ rfl rfl)) rfl (d_s (.b (x10 != x5.life_)) rfl (dgy rfl rfl rfl rfl h9) rfl rfl rfl rfl (d_pF (.b (x10 != x5.life_)) h9 rfl rfl (d_1 (.b (x10 != x5.life_)) rfl rfl ?_)))))))
 refine yD (by kernel_rfl) (c_if h rfl (fun h12 h => c_sr (o_1 (.i 30) rfl (zA (zF ?_)))) fun h12 h => zG (c_sr (o_1 (.i 0) rfl (zA (zF ?_)))))
 ·
  cases h; exact eR rfl rfl
 cases h; exact eR rfl rfl
theorem zGZ (p0 : (Option Nat)) (w0 : Hp) (r : (Int × Hp)) (h : zBz p0 w0 = some r) : FCH Tryz.prog 63 [.t ((ptT 3 p0))] [] [] (hpA w0) (hpA r.2) (.t (.d (.lit (.int .i64 r.1)))) := by
 refine qR (rs := [.tmp 2]) (n := 60) [] Tryz.func63 rfl rfl (Nat.le_of_ble_eq_true rfl) rfl (pins := []) rfl (L := [(HK, .hp (hpA w0)), (0, .t ((ptT 3 p0)))]) rfl (c_sr (o_1 (.i 0) rfl (zA (c_sr (o_mv rfl (zI rfl) ?_)))))
 rcases zQ h with ⟨h1, h⟩ | ⟨i2, h1, h⟩
 ·
  exact qF h
 refine o_nf 3 rfl (pq rfl h1) rfl (bi h fun x3 h4 h => o_ld (.i x3.slot_) rfl (zAj h4) rfl (o_m2 (.i (wi (1 - x3.slot_))) (.i (wi (1 - x3.slot_))) rfl (zA (zJ (zJ (qQ mixed (by kernel_rfl) (d_mv rfl rfl (pq rfl h1) (d_nc rfl rfl rfl (d_fd 0 rfl rfl rfl ?_)))))))))
 refine d_h (e := [(14, .t ((ptT 1 x3.d_)))]) (ks := [14]) rfl (dg0 rfl) rfl rfl (fun S' hM hk hok => h_ld hM hk rfl rfl rfl (zAj h4) rfl (qI _ _) rfl (hok _ rfl rfl)) rfl (d_1 (.i (wi (1 - x3.slot_))) rfl rfl (d_mv rfl rfl (pq rfl h1) (d_nc rfl rfl rfl (d_fd 2 rfl rfl rfl (d_ld (.i x3.base_) rfl rfl (zAj h4) rfl (d_mv rfl rfl (pq rfl h1) (d_nc rfl rfl rfl (d_fd 1 rfl rfl rfl (d_ld (.i x3.size_) rfl rfl (zAj h4) rfl (d_1 (.i (wi (x3.base_ + x3.size_))) rfl rfl (d_mv rfl rfl (pq rfl h1) (d_nc rfl rfl rfl ?_))))))))))))
 refine d_fd 1 rfl rfl rfl (d_ld (.i x3.size_) rfl rfl (zAj h4) rfl (bi h fun x5 h6 h => d_cR (zET _ _ w0 _ h6) rfl (dg0 rfl) rfl (a2 (aR rfl) (aR rfl)) (r1 rfl) (bi h fun x7 h8 h => d_cH (zBM _ _ _ w0 _ h8) rfl (dg0 rfl) rfl (a3 (qO rfl) (aR rfl) (aR rfl)) (r1 rfl) (d_1 (.i x7.1) rfl rfl (yD (by kernel_rfl) (c_sr (o_m2 (.i x7.1) (.b (x7.1 != 0)) rfl (zA ?_))))))))
 refine c_if h rfl (fun h9 h => c_sr (o_m2 (.i x7.1) (.i x7.1) rfl (zA (zF ?_)))) fun h9 h => zG (zJ (c_sr (o_f3 0 rfl (pq rfl h1) rfl ?_)))
 ·
  cases h; exact eR rfl rfl
 refine bi h fun x10 h11 h => o_of (e := [(37, .t ((ptT 1 x10.d_)))]) (g0 rfl) (h_ld mR rfl rfl rfl rfl (zAj h11) rfl (qI _ _) rfl rfl) rfl (bi h fun x12 h13 h => o_cH (zBG _ x7.2 _ h13) (g0 rfl) rfl (a1 (qO rfl)) (r1 rfl) (o_1 (.i x12.1) rfl (zA (c_sr (o_m2 (.i x12.1) (.b (x12.1 != 0)) rfl (zA ?_))))))
 refine c_if h rfl (fun h14 h => c_sr (o_m2 (.i x12.1) (.i x12.1) rfl (zA (zF ?_)))) fun h14 h => zG (c_sr (o_mv rfl (pq rfl h1) (o_mv rfl (pq rfl h1) (o_1 (.i (wi (1 - x3.slot_))) rfl (o_nf 3 rfl rfl rfl ?_)))))
 ·
  cases h; exact eR rfl rfl
 refine bi h fun x15 h16 h => o_sH rfl (zAj h16) (zHl (x' := (zM.mk x15.d_ x15.size_ x15.base_ (wi (1 - x3.slot_)) x15.used_ x15.life_ x15.commits_)) h16) rfl rfl (o_nf 4 rfl rfl rfl (o_sH rfl (zAj (zR h16)) (zHl (x' := (zM.mk x15.d_ x15.size_ x15.base_ (wi (1 - x3.slot_)) 0 x15.life_ x15.commits_)) (zR h16)) rfl rfl (zA (zJ (qQ mixed (by kernel_rfl) (d_mv rfl rfl (pq rfl h1) (d_nc rfl rfl rfl (d_fd 2 rfl rfl rfl (d_ld (.i ((zM.mk x15.d_ x15.size_ x15.base_ (wi (1 - x3.slot_)) 0 x15.life_ x15.commits_).base_)) rfl rfl (zAj (zR (zR h16))) rfl (d_mv rfl rfl (pq rfl h1) (d_nc rfl rfl rfl ?_)))))))))))
 refine d_fd 1 rfl rfl rfl (d_ld (.i ((zM.mk x15.d_ x15.size_ x15.base_ (wi (1 - x3.slot_)) 0 x15.life_ x15.commits_).size_)) rfl rfl (zAj (zR (zR h16))) rfl (d_1 (.i (wi (((zM.mk x15.d_ x15.size_ x15.base_ (wi (1 - x3.slot_)) 0 x15.life_ x15.commits_).base_) + ((zM.mk x15.d_ x15.size_ x15.base_ (wi (1 - x3.slot_)) 0 x15.life_ x15.commits_).size_)))) rfl rfl (d_nc rfl rfl rfl (d_fd 2 rfl rfl rfl (d_h (e := [(HK, .hp (hpA (((x12.2.st_lg i2 (zM.mk x15.d_ x15.size_ x15.base_ (wi (1 - x3.slot_)) x15.used_ x15.life_ x15.commits_)).st_lg i2 (zM.mk x15.d_ x15.size_ x15.base_ (wi (1 - x3.slot_)) 0 x15.life_ x15.commits_)).st_lg i2 (zM.mk x15.d_ x15.size_ (wi (((zM.mk x15.d_ x15.size_ x15.base_ (wi (1 - x3.slot_)) 0 x15.life_ x15.commits_).base_) + ((zM.mk x15.d_ x15.size_ x15.base_ (wi (1 - x3.slot_)) 0 x15.life_ x15.commits_).size_))) (wi (1 - x3.slot_)) 0 x15.life_ x15.commits_))))]) (ks := [HK]) rfl (dg0 rfl) rfl rfl (fun S' hM hk hok => h_st hM hk rfl rfl rfl rfl (zAj (zR (zR h16))) rfl rfl (Nat.le_of_ble_eq_true rfl) rfl (zHl (x' := (zM.mk x15.d_ x15.size_ (wi (((zM.mk x15.d_ x15.size_ x15.base_ (wi (1 - x3.slot_)) 0 x15.life_ x15.commits_).base_) + ((zM.mk x15.d_ x15.size_ x15.base_ (wi (1 - x3.slot_)) 0 x15.life_ x15.commits_).size_))) (wi (1 - x3.slot_)) 0 x15.life_ x15.commits_)) (zR (zR h16)))) rfl (yD (by kernel_rfl) (c_sr (o_1 (.i 0) rfl (zA (zF ?_))))))))))
 cases h; exact eR rfl rfl
theorem zBS (p0 : (Option Nat)) (w0 : Hp) (r : (Int × Hp)) (h : zU p0 w0 = some r) : FCH Tryz.prog 34 [.t ((ptT 3 p0))] [] [] (hpA w0) (hpA r.2) (.t (.d (.lit (.int .i64 r.1)))) := by
 refine qR (rs := [.tmp 2]) (n := 30) [] Tryz.func34 rfl rfl (Nat.le_of_ble_eq_true rfl) rfl (pins := []) rfl (L := [(HK, .hp (hpA w0)), (0, .t ((ptT 3 p0)))]) rfl (c_sr (o_1 (.i 0) rfl (zA (zJ (c_sr (o_mv rfl (zI rfl) ?_))))))
 refine bi h fun x1 h2 h => o_cR (zBr _ w0 _ h2) (g0 rfl) rfl (a1 (qO rfl)) (r1 rfl) (o_1 (.i x1) rfl (zA (c_sr (o_m2 (.i x1) (.b (x1 != 0)) rfl (zA ?_)))))
 refine c_if h rfl (fun h3 h => c_sr (o_m2 (.i x1) (.i x1) rfl (zA (zF ?_)))) fun h3 h => zG (zJ (zJ (qQ mixed (by kernel_rfl) ?_)))
 ·
  cases h; exact eR rfl rfl
 rcases zQ h with ⟨h4, h⟩ | ⟨i5, h4, h⟩
 ·
  refine d_mv rfl rfl ((zI rfl).trans (qL h4)) ?_
  exact qF h
 refine d_mv rfl rfl (pq rfl h4) (d_nc rfl rfl rfl (d_fd 2 rfl rfl rfl ?_))
 refine bi h fun x6 h7 h => d_ld (.i x6.base_) rfl rfl (zAj h7) rfl (d_mv rfl rfl (pq rfl h4) (d_nc rfl rfl rfl (d_fd 1 rfl rfl rfl (d_ld (.i x6.size_) rfl rfl (zAj h7) rfl (d_1 (.i (wi (2305843009213693952 - x6.size_))) rfl rfl (d_1 (.b (decide (x6.base_ > (wi (2305843009213693952 - x6.size_))))) rfl rfl (yD (by kernel_rfl) ?_)))))))
 refine c_if h rfl (fun h8 h => c_sr (o_1 (.i 3) rfl (zA (zF ?_)))) fun h8 h => zG (zJ (c_sr (o_f3 0 rfl (pq rfl h4) rfl (o_of (e := [(23, .t ((ptT 1 x6.d_)))]) (g0 rfl) (h_ld mR rfl rfl rfl rfl (zAj h7) rfl (qI _ _) rfl rfl) rfl ?_))))
 ·
  cases h; exact eR rfl rfl
 refine bi h fun x9 h10 h => o_cH (zBG _ w0 _ h10) (g0 rfl) rfl (a1 (qO rfl)) (r1 rfl) (o_1 (.i x9.1) rfl (zA (c_sr (o_m2 (.i x9.1) (.b (x9.1 != 0)) rfl (zA ?_)))))
 refine c_if h rfl (fun h11 h => c_sr (o_m2 (.i x9.1) (.i x9.1) rfl (zA (zF ?_)))) fun h11 h => zG (c_sr (o_mv rfl (pq rfl h4) ?_))
 ·
  cases h; exact eR rfl rfl
 refine bi h fun x12 h13 h => o_cH (zGZ _ x9.2 _ h13) (g0 rfl) rfl (a1 aH) (r1 rfl) (o_1 (.i x12.1) rfl (zA (zF ?_)))
 cases h; exact eR rfl rfl
theorem zGc (p0 : (Option Nat)) (w0 : Hp) (r : ((Option Nat) × Int × Hp)) (h : zBs p0 w0 = some r) : FCH Tryz.prog 20 [.t ((ptT 1 p0))] [] [] (hpA w0) (hpA r.2.2) (.tup [(ptT 3 r.1), .d (.lit (.int .i64 r.2.1))]) := by
 refine qR (rs := [.tmp 2, .tmp 3]) (n := 83) [] Tryz.func20 rfl rfl (Nat.le_of_ble_eq_true rfl) rfl (pins := []) rfl (L := [(HK, .hp (hpA w0)), (0, .t ((ptT 1 p0)))]) rfl (c_sr (o_of (e := [(2, .t (.d (.lit (.pointer none))))]) (g0 rfl) (h_mv mR (.inr rfl) rfl rfl rfl) rfl (o_1 (.i 0) rfl (zA (zJ (zS (c_sr (o_mv rfl (zI rfl) ?_))))))))
 refine bi h fun x1 h2 h => o_cR (zCR _ w0 _ h2) (g0 rfl) rfl (a1 (qO rfl)) (r1 rfl) (o_m2 (.b (x1 == 0)) (.b (x1 == 0)) rfl (zA ?_))
 refine c_if h rfl (fun h3 h => c_sr (o_of (e := [(2, .t (.d (.lit (.pointer none))))]) (g0 rfl) (h_mv mR (.inr rfl) rfl rfl rfl) rfl (o_1 (.i 1) rfl (zA (zF ?_))))) fun h3 h => c_sr (o_mv rfl (zI rfl) ?_)
 ·
  cases h; exact eR rfl rfl
 refine bi h fun x4 h5 h => o_cR (zEa _ w0 _ h5) (g0 rfl) rfl (a1 (qO rfl)) (r1 rfl) (o_1 (.b x4) rfl (zA ?_))
 refine c_if h rfl (fun h6 h => c_sr (o_of (e := [(2, .t (.d (.lit (.pointer none))))]) (g0 rfl) (h_mv mR (.inr rfl) rfl rfl rfl) rfl (o_1 (.i 30) rfl (zA (zF ?_))))) fun h6 h => zG (c_sr ?_)
 ·
  cases h; exact eR rfl rfl
 rcases zQ h with ⟨h7, h⟩ | ⟨i8, h7, h⟩
 ·
  refine o_mv rfl ((zI rfl).trans (qL h7)) (o_mv rfl ((zI rfl).trans (qL h7)) (bi h fun x9 h10 h => o_cR (zC0 _ w0 _ h10) (g0 rfl) rfl (a1 (aR rfl)) (r1 rfl) (o_of (e := [(21, .ag [.d (.lit (.pointer none)), .i 0, .i 0, .i 0, .i 0, .i x9, .i 0])]) (g0 rfl) (h_bd mR rfl rfl rfl rfl) rfl (o_of (e := [(HK, .hp (hpA (w0.nw_lg (zM.mk none 0 0 0 0 x9 0)))), (22, .t (.hpt (cd 3 w0.ln_lg) 0))]) (g0 rfl) (h_box mR rfl rfl rfl rfl rfl (fr_lg _) (nw_lg _ (zM.mk none 0 0 0 0 x9 0))) rfl (o_of (e := [(4, .t (.hpt (cd 3 w0.ln_lg) 0))]) (g0 rfl) (h_mv mR (.inr rfl) rfl rfl rfl) rfl (zA (yY r (fun (y11 : Hp) => [(4, .t (.hpt (cd 3 w0.ln_lg) 0)), (HK, .hp (hpA y11))]) (fun y11 => zDx w0 y11) ?_ ?_)))))))
  ·
   refine c_sr (o_1 (.i 0) rfl (zA (zS (c_lp (fun (q : Int × Hp) => [(0, .t ((ptT 1 p0))), (4, .t (.hpt (cd 3 w0.ln_lg) 0)), (23, .i q.1), (HK, .hp (hpA q.2))]) (fun nl2 q => zBh w0 nl2 q.1 q.2) (Int.toNat 2 + 1) (0, (w0.nw_lg (zM.mk none 0 0 0 0 x9 0))) h (fun _ => rfl) rfl rfl ?_))))
   rintro nl2 ⟨z24, z25⟩ h
   refine c_sr (o_1 (.b (decide (z24 < 2))) rfl (zA (zJ ?_)))
   refine c_if h rfl (fun h26 h => zG (zJ (zS (c_sr (o_m2 (.i z24) (.i z24) rfl (zA (c_sr ?_))))))) fun h26 h => zAQ ?_
   ·
    refine o_mv rfl ((zI rfl).trans (qL h7)) (o_1 (.i z24) rfl (bi h fun x27 h28 h => o_cR (zEu _ _ z25 _ h28) (g0 rfl) rfl (a2 (aR rfl) (aR rfl)) (r3 rfl) (o_m7 (.tup [.i x27.1, .i x27.2.1, .b x27.2.2]) (.i x27.1) (.i x27.2.1) (.b x27.2.2) (.i x27.1) (.i x27.2.1) (.b x27.2.2) rfl (zA (yY r (fun (y29 : Bool) => [(0, .t ((ptT 1 p0))), (4, .t (.hpt (cd 3 w0.ln_lg) 0)), (5, .i z24), (6, .i x27.1), (7, .i x27.2.1), (23, .i z24), (41, .b y29), (HK, .hp (hpA z25))]) (fun y29 => zDC (zBh w0 nl2) z25 w0 z24 x27 y29) ?_ ?_)))))
    ·
     refine zL (o_m2 (.b x27.2.2) (.b x27.2.2) rfl ?_)
     rcases zP h with ⟨h33, h⟩ | ⟨h33, h⟩
     ·
      refine o_s (.i x27.1) (gy rfl rfl rfl h33) rfl rfl rfl (o_of (e := [(36, .t (.hpt (cd 3 w0.ln_lg) 0))]) (gy rfl rfl rfl h33) (h_mv mR (.inl rfl) rfl rfl rfl) rfl (o_of (e := [(37, .t (.hpt (cd 3 w0.ln_lg) 0))]) (gy rfl rfl rfl h33) (h_nc mR rfl rfl rfl rfl rfl) rfl (o_of (e := [(38, .t (.hpt (cd 3 w0.ln_lg) 2))]) (gy rfl rfl rfl h33) (h_fd mR rfl rfl rfl rfl rfl rfl) rfl (bi h fun x34 h35 h => o_of (e := [(39, .i x34.base_)]) (gy rfl rfl rfl h33) (h_ld mR rfl rfl rfl rfl (zAj h35) rfl rfl rfl rfl) rfl (o_s (.b (decide (x27.1 > x34.base_))) (gy rfl rfl rfl h33) rfl rfl rfl (o_pT (.b (decide (x27.1 > x34.base_))) h33 rfl (zA ?_)))))))
      exact lE (decide (x27.1 > x34.base_)) h rfl rfl
     refine o_k4 rfl h33 (o_k2 rfl h33 (o_pF (.b false) h33 rfl (zA ?_)))
     exact lE false h rfl rfl
    rintro y29 h
    refine c_if h rfl (fun h30 h => zL (o_mv (y := .t (.hpt (cd 3 w0.ln_lg) 0)) rfl rfl (o_mv (y := .t (.hpt (cd 3 w0.ln_lg) 0)) rfl rfl (o_mv (y := .t (.hpt (cd 3 w0.ln_lg) 0)) rfl rfl (o_m3 (.i x27.1) (.i x27.2.1) (.i z24) rfl (o_nf 2 rfl rfl rfl ?_)))))) fun h30 h => zG (zL (o_m2 (.i (wi (z24 + 1))) (.i (wi (z24 + 1))) rfl (zA ?_)))
    ·
     refine bi h fun x31 h32 h => o_sH rfl (zAj h32) (zHl (x' := (zM.mk x31.d_ x31.size_ x27.1 x31.slot_ x31.used_ x31.life_ x31.commits_)) h32) rfl rfl (o_nf 1 rfl rfl rfl (o_sH rfl (zAj (zR h32)) (zHl (x' := (zM.mk x31.d_ x27.2.1 x27.1 x31.slot_ x31.used_ x31.life_ x31.commits_)) (zR h32)) rfl rfl (o_nf 3 rfl rfl rfl (o_sH rfl (zAj (zR (zR h32))) (zHl (x' := (zM.mk x31.d_ x27.2.1 x27.1 z24 x31.used_ x31.life_ x31.commits_)) (zR (zR h32))) rfl rfl (zA (zL (o_m2 (.i (wi (z24 + 1))) (.i (wi (z24 + 1))) rfl ?_)))))))
     refine zA ?_
     exact lE ((wi (z24 + 1)), (((z25.st_lg w0.ln_lg (zM.mk x31.d_ x31.size_ x27.1 x31.slot_ x31.used_ x31.life_ x31.commits_)).st_lg w0.ln_lg (zM.mk x31.d_ x27.2.1 x27.1 x31.slot_ x31.used_ x31.life_ x31.commits_)).st_lg w0.ln_lg (zM.mk x31.d_ x27.2.1 x27.1 z24 x31.used_ x31.life_ x31.commits_))) h rfl rfl
    exact lE ((wi (z24 + 1)), z25) h rfl rfl
   exact lE z25 h rfl rfl
  rintro y11 h
  refine zJ (c_sr (o_f3 2 rfl rfl rfl (bi h fun x12 h13 h => o_ld (.i x12.base_) rfl (zAj h13) rfl (o_1 (.b (x12.base_ == 0)) rfl (zA ?_)))))
  refine c_if h rfl (fun h14 h => c_sr (o_of (e := [(2, .t (.d (.lit (.pointer none))))]) (g0 rfl) (h_mv mR (.inr rfl) rfl rfl rfl) rfl (o_1 (.i 11) rfl (zA (zF ?_))))) fun h14 h => zG (zJ (zJ (qQ mixed (by kernel_rfl) (d_mv (y := .t (.hpt (cd 3 w0.ln_lg) 0)) rfl rfl rfl (d_nc rfl rfl rfl (d_fd 2 rfl rfl rfl (d_ld (.i x12.base_) rfl rfl (zAj h13) rfl (d_mv (y := .t (.hpt (cd 3 w0.ln_lg) 0)) rfl rfl rfl (d_nc rfl rfl rfl ?_)))))))))
  ·
   cases h; exact eR rfl rfl
  refine d_fd 1 rfl rfl rfl (d_ld (.i x12.size_) rfl rfl (zAj h13) rfl (d_1 (.i (wi (2305843009213693952 - x12.size_))) rfl rfl (d_1 (.b (decide (x12.base_ > (wi (2305843009213693952 - x12.size_))))) rfl rfl (yD (by kernel_rfl) ?_))))
  refine c_if h rfl (fun h15 h => c_sr (o_of (e := [(2, .t (.d (.lit (.pointer none))))]) (g0 rfl) (h_mv mR (.inr rfl) rfl rfl rfl) rfl (o_1 (.i 3) rfl (zA (zF ?_))))) fun h15 h => zG (zJ (c_sr (o_mv (y := .t (.hpt (cd 3 w0.ln_lg) 0)) rfl rfl (o_mv (y := .t (.hpt (cd 3 w0.ln_lg) 0)) rfl rfl ?_))))
  ·
   cases h; exact eR rfl rfl
  refine bi h fun x16 h17 h => o_cR (zEz _ y11 _ h17) (g0 rfl) rfl (a1 aH) (r1 rfl) (bi h fun x18 h19 h => o_cH (zDr _ _ y11 _ h19) (g0 rfl) rfl (a2 aH (aR rfl)) (r1 rfl) (o_1 (.i x18.1) rfl (zA (c_sr (o_m2 (.i x18.1) (.b (x18.1 != 0)) rfl (zA ?_))))))
  refine c_if h rfl (fun h20 h => c_sr (o_1 (.i x18.1) rfl (o_of (e := [(2, .t (.d (.lit (.pointer none))))]) (g0 rfl) (h_mv mR (.inr rfl) rfl rfl rfl) rfl (o_1 (.i x18.1) rfl (zA (zF ?_)))))) fun h20 h => zG (zJ (c_sr (o_mv (y := .t (.hpt (cd 3 w0.ln_lg) 0)) rfl rfl ?_)))
  ·
   cases h; exact eR rfl rfl
  refine bi h fun x21 h22 h => o_cH (zBS _ x18.2 _ h22) (g0 rfl) rfl (a1 aH) (r1 rfl) (o_1 (.i x21.1) rfl (zA (c_sr (o_m2 (.i x21.1) (.b (x21.1 != 0)) rfl (zA ?_)))))
  refine c_if h rfl (fun h23 h => c_sr (o_1 (.i x21.1) rfl (o_of (e := [(2, .t (.d (.lit (.pointer none))))]) (g0 rfl) (h_mv mR (.inr rfl) rfl rfl rfl) rfl (o_1 (.i x21.1) rfl (zA (zF ?_)))))) fun h23 h => zG (c_sr (o_mv (y := .t (.hpt (cd 3 w0.ln_lg) 0)) rfl rfl (o_of (e := [(2, .t (.hpt (cd 3 w0.ln_lg) 0))]) (g0 rfl) (h_mv mR (.inr rfl) rfl rfl rfl) rfl (o_1 (.i 0) rfl (zA (zF ?_))))))
  ·
   cases h; exact eR rfl rfl
  cases h; exact eR rfl rfl
 refine o_mv rfl (pq rfl h7) (o_mv rfl (pq rfl h7) (bi h fun x36 h37 h => o_cR (zC0 _ w0 _ h37) (g0 rfl) rfl (a1 aH) (r1 rfl) (o_of (e := [(21, .ag [.hpt (cd 1 i8) 0, .i 0, .i 0, .i 0, .i 0, .i x36, .i 0])]) (g0 rfl) (h_bd mR rfl rfl rfl rfl) rfl (o_of (e := [(HK, .hp (hpA (w0.nw_lg (zM.mk (some i8) 0 0 0 0 x36 0)))), (22, .t (.hpt (cd 3 w0.ln_lg) 0))]) (g0 rfl) (h_box mR rfl rfl rfl rfl rfl (fr_lg _) (nw_lg _ (zM.mk (some i8) 0 0 0 0 x36 0))) rfl (o_of (e := [(4, .t (.hpt (cd 3 w0.ln_lg) 0))]) (g0 rfl) (h_mv mR (.inr rfl) rfl rfl rfl) rfl (zA (yY r (fun (y38 : Hp) => [(4, .t (.hpt (cd 3 w0.ln_lg) 0)), (HK, .hp (hpA y38))]) (fun y38 => zCj w0 y38) ?_ ?_)))))))
 ·
  refine c_sr (o_1 (.i 0) rfl (zA (zS (c_lp (fun (q : Int × Hp) => [(0, .t ((ptT 1 p0))), (4, .t (.hpt (cd 3 w0.ln_lg) 0)), (23, .i q.1), (HK, .hp (hpA q.2))]) (fun nl5 q => qW i8 w0 nl5 q.1 q.2) (Int.toNat 2 + 1) (0, (w0.nw_lg (zM.mk (some i8) 0 0 0 0 x36 0))) h (fun _ => rfl) rfl rfl ?_))))
  rintro nl5 ⟨z51, z52⟩ h
  refine c_sr (o_1 (.b (decide (z51 < 2))) rfl (zA (zJ ?_)))
  refine c_if h rfl (fun h53 h => zG (zJ (zS (c_sr (o_m2 (.i z51) (.i z51) rfl (zA (c_sr ?_))))))) fun h53 h => zAQ ?_
  ·
   refine o_mv rfl (pq rfl h7) (o_1 (.i z51) rfl (bi h fun x54 h55 h => o_cR (zEu _ _ z52 _ h55) (g0 rfl) rfl (a2 aH (aR rfl)) (r3 rfl) (o_m7 (.tup [.i x54.1, .i x54.2.1, .b x54.2.2]) (.i x54.1) (.i x54.2.1) (.b x54.2.2) (.i x54.1) (.i x54.2.1) (.b x54.2.2) rfl (zA (yY r (fun (y56 : Bool) => [(0, .t ((ptT 1 p0))), (4, .t (.hpt (cd 3 w0.ln_lg) 0)), (5, .i z51), (6, .i x54.1), (7, .i x54.2.1), (23, .i z51), (41, .b y56), (HK, .hp (hpA z52))]) (fun y56 => zBk (qW i8 w0 nl5) z52 w0 z51 x54 y56) ?_ ?_)))))
   ·
    refine zL (o_m2 (.b x54.2.2) (.b x54.2.2) rfl ?_)
    rcases zP h with ⟨h60, h⟩ | ⟨h60, h⟩
    ·
     refine o_s (.i x54.1) (gy rfl rfl rfl h60) rfl rfl rfl (o_of (e := [(36, .t (.hpt (cd 3 w0.ln_lg) 0))]) (gy rfl rfl rfl h60) (h_mv mR (.inl rfl) rfl rfl rfl) rfl (o_of (e := [(37, .t (.hpt (cd 3 w0.ln_lg) 0))]) (gy rfl rfl rfl h60) (h_nc mR rfl rfl rfl rfl rfl) rfl (o_of (e := [(38, .t (.hpt (cd 3 w0.ln_lg) 2))]) (gy rfl rfl rfl h60) (h_fd mR rfl rfl rfl rfl rfl rfl) rfl (bi h fun x61 h62 h => o_of (e := [(39, .i x61.base_)]) (gy rfl rfl rfl h60) (h_ld mR rfl rfl rfl rfl (zAj h62) rfl rfl rfl rfl) rfl (o_s (.b (decide (x54.1 > x61.base_))) (gy rfl rfl rfl h60) rfl rfl rfl (o_pT (.b (decide (x54.1 > x61.base_))) h60 rfl (zA ?_)))))))
     exact lE (decide (x54.1 > x61.base_)) h rfl rfl
    refine o_k4 rfl h60 (o_k2 rfl h60 (o_pF (.b false) h60 rfl (zA ?_)))
    exact lE false h rfl rfl
   rintro y56 h
   refine c_if h rfl (fun h57 h => zL (o_mv (y := .t (.hpt (cd 3 w0.ln_lg) 0)) rfl rfl (o_mv (y := .t (.hpt (cd 3 w0.ln_lg) 0)) rfl rfl (o_mv (y := .t (.hpt (cd 3 w0.ln_lg) 0)) rfl rfl (o_m3 (.i x54.1) (.i x54.2.1) (.i z51) rfl (o_nf 2 rfl rfl rfl ?_)))))) fun h57 h => zG (zL (o_m2 (.i (wi (z51 + 1))) (.i (wi (z51 + 1))) rfl (zA ?_)))
   ·
    refine bi h fun x58 h59 h => o_sH rfl (zAj h59) (zHl (x' := (zM.mk x58.d_ x58.size_ x54.1 x58.slot_ x58.used_ x58.life_ x58.commits_)) h59) rfl rfl (o_nf 1 rfl rfl rfl (o_sH rfl (zAj (zR h59)) (zHl (x' := (zM.mk x58.d_ x54.2.1 x54.1 x58.slot_ x58.used_ x58.life_ x58.commits_)) (zR h59)) rfl rfl (o_nf 3 rfl rfl rfl (o_sH rfl (zAj (zR (zR h59))) (zHl (x' := (zM.mk x58.d_ x54.2.1 x54.1 z51 x58.used_ x58.life_ x58.commits_)) (zR (zR h59))) rfl rfl (zA (zL (o_m2 (.i (wi (z51 + 1))) (.i (wi (z51 + 1))) rfl ?_)))))))
    refine zA ?_
    exact lE ((wi (z51 + 1)), (((z52.st_lg w0.ln_lg (zM.mk x58.d_ x58.size_ x54.1 x58.slot_ x58.used_ x58.life_ x58.commits_)).st_lg w0.ln_lg (zM.mk x58.d_ x54.2.1 x54.1 x58.slot_ x58.used_ x58.life_ x58.commits_)).st_lg w0.ln_lg (zM.mk x58.d_ x54.2.1 x54.1 z51 x58.used_ x58.life_ x58.commits_))) h rfl rfl
   exact lE ((wi (z51 + 1)), z52) h rfl rfl
  exact lE z52 h rfl rfl
 rintro y38 h
 refine zJ (c_sr (o_f3 2 rfl rfl rfl (bi h fun x39 h40 h => o_ld (.i x39.base_) rfl (zAj h40) rfl (o_1 (.b (x39.base_ == 0)) rfl (zA ?_)))))
 refine c_if h rfl (fun h41 h => c_sr (o_of (e := [(2, .t (.d (.lit (.pointer none))))]) (g0 rfl) (h_mv mR (.inr rfl) rfl rfl rfl) rfl (o_1 (.i 11) rfl (zA (zF ?_))))) fun h41 h => zG (zJ (zJ (qQ mixed (by kernel_rfl) (d_mv (y := .t (.hpt (cd 3 w0.ln_lg) 0)) rfl rfl rfl (d_nc rfl rfl rfl (d_fd 2 rfl rfl rfl (d_ld (.i x39.base_) rfl rfl (zAj h40) rfl (d_mv (y := .t (.hpt (cd 3 w0.ln_lg) 0)) rfl rfl rfl (d_nc rfl rfl rfl ?_)))))))))
 ·
  cases h; exact eR rfl rfl
 refine d_fd 1 rfl rfl rfl (d_ld (.i x39.size_) rfl rfl (zAj h40) rfl (d_1 (.i (wi (2305843009213693952 - x39.size_))) rfl rfl (d_1 (.b (decide (x39.base_ > (wi (2305843009213693952 - x39.size_))))) rfl rfl (yD (by kernel_rfl) ?_))))
 refine c_if h rfl (fun h42 h => c_sr (o_of (e := [(2, .t (.d (.lit (.pointer none))))]) (g0 rfl) (h_mv mR (.inr rfl) rfl rfl rfl) rfl (o_1 (.i 3) rfl (zA (zF ?_))))) fun h42 h => zG (zJ (c_sr (o_mv (y := .t (.hpt (cd 3 w0.ln_lg) 0)) rfl rfl (o_mv (y := .t (.hpt (cd 3 w0.ln_lg) 0)) rfl rfl ?_))))
 ·
  cases h; exact eR rfl rfl
 refine bi h fun x43 h44 h => o_cR (zEz _ y38 _ h44) (g0 rfl) rfl (a1 aH) (r1 rfl) (bi h fun x45 h46 h => o_cH (zDr _ _ y38 _ h46) (g0 rfl) rfl (a2 aH (aR rfl)) (r1 rfl) (o_1 (.i x45.1) rfl (zA (c_sr (o_m2 (.i x45.1) (.b (x45.1 != 0)) rfl (zA ?_))))))
 refine c_if h rfl (fun h47 h => c_sr (o_1 (.i x45.1) rfl (o_of (e := [(2, .t (.d (.lit (.pointer none))))]) (g0 rfl) (h_mv mR (.inr rfl) rfl rfl rfl) rfl (o_1 (.i x45.1) rfl (zA (zF ?_)))))) fun h47 h => zG (zJ (c_sr (o_mv (y := .t (.hpt (cd 3 w0.ln_lg) 0)) rfl rfl ?_)))
 ·
  cases h; exact eR rfl rfl
 refine bi h fun x48 h49 h => o_cH (zBS _ x45.2 _ h49) (g0 rfl) rfl (a1 aH) (r1 rfl) (o_1 (.i x48.1) rfl (zA (c_sr (o_m2 (.i x48.1) (.b (x48.1 != 0)) rfl (zA ?_)))))
 refine c_if h rfl (fun h50 h => c_sr (o_1 (.i x48.1) rfl (o_of (e := [(2, .t (.d (.lit (.pointer none))))]) (g0 rfl) (h_mv mR (.inr rfl) rfl rfl rfl) rfl (o_1 (.i x48.1) rfl (zA (zF ?_)))))) fun h50 h => zG (c_sr (o_mv (y := .t (.hpt (cd 3 w0.ln_lg) 0)) rfl rfl (o_of (e := [(2, .t (.hpt (cd 3 w0.ln_lg) 0))]) (g0 rfl) (h_mv mR (.inr rfl) rfl rfl rfl) rfl (o_1 (.i 0) rfl (zA (zF ?_))))))
 ·
  cases h; exact eR rfl rfl
 cases h; exact eR rfl rfl
theorem zDs (p0 : (Option Nat)) (w0 : Hp) (r : Int) (h : zBo p0 w0 = some r) : FCH Tryz.prog 12 [.t ((ptT 3 p0))] [] [] (hpA w0) (hpA w0) (.t (.d (.lit (.int .i64 r)))) := by
 refine qR (rs := [.tmp 2]) (n := 14) [] Tryz.func12 rfl rfl (Nat.le_of_ble_eq_true rfl) rfl (pins := []) rfl (L := [(HK, .hp (hpA w0)), (0, .t ((ptT 3 p0)))]) rfl (c_sr (o_1 (.i 0) rfl (zA (zJ (c_sr (o_mv rfl (zI rfl) ?_))))))
 rcases zQ h with ⟨h1, h⟩ | ⟨i2, h1, h⟩
 ·
  refine o_of (e := [(4, .b true)]) (g0 rfl) (h_pn mR (ng := false) rfl rfl rfl (zCz rfl h1) rfl rfl) rfl (zA (c_t rfl rfl (c_sr (o_1 (.i 0) rfl (zA (zF ?_))))))
  cases h; exact eR rfl rfl
 refine o_of (e := [(4, .b false)]) (g0 rfl) (h_pn mR (ng := false) rfl rfl rfl (zC2 rfl h1) rfl rfl) rfl (zA (c_f rfl rfl (zG (zJ (qQ mixed (by kernel_rfl) (d_mv rfl rfl (pq rfl h1) (d_nc rfl rfl rfl (d_fd 1 rfl rfl rfl ?_))))))))
 refine bi h fun x3 h4 h => d_ld (.i x3.size_) rfl rfl (zAj h4) rfl (d_mv rfl rfl (pq rfl h1) (d_nc rfl rfl rfl (d_fd 4 rfl rfl rfl (d_ld (.i x3.used_) rfl rfl (zAj h4) rfl (d_1 (.i (wi (x3.size_ - x3.used_))) rfl rfl (d_1 (.i (wi (x3.size_ - x3.used_))) rfl rfl (yD (by kernel_rfl) ?_)))))))
 refine zF ?_
 cases h; exact eR rfl rfl
theorem zHs (p0 : (List zC)) (r : (List zV)) (h : zEq p0 = some r) : FC Tryz.prog 52 [.t (.d (.seq 2 (List.map zB p0)))] [] (.t (.own 91 4 (List.map yE r))) := by
 refine zD5 (rs := [.tmp 2]) (n := 34) Tryz.func52 rfl rfl (Nat.le_of_ble_eq_true rfl) rfl (pins := []) rfl (L := [(0, .t (.d (.seq 2 (List.map zB p0))))]) rfl (c_sr (o_1 (.n) rfl (zA (c_sr (o_1 (.n) rfl (zA (yY r (fun (y1 : (List zV)) => [(0, .t (.d (.seq 2 (List.map zB p0)))), (3, .t (.own 91 4 (List.map yE y1)))]) (fun y1 => zDp p0 y1) ?_ ?_)))))))
 ·
  refine c_sr (o_1 (.t (.d (.seq 2 (List.map zB p0)))) rfl (o_c (g0 rfl) rfl rfl rfl (lenE _ _) trivial (o_1 (.i 0) rfl (zA (zS (zDM (fun (q : (List zV) × Int) => [(0, .t (.d (.seq 2 (List.map zB p0)))), (3, .t (.own 91 4 (List.map yE q.1))), (6, .t (.d (.seq 2 (List.map zB p0)))), (7, .i (p0.length : Int)), (8, .i q.2)]) (fun nl2 q => zCB p0 nl2 q.1 q.2) (p0.length + 1) ([], 0) [] h (fun _ => rfl) rfl trivial ⟨.r, (.t (.nilOwn _ _)), .r, .r, .r, trivial⟩ rfl ?_))))))
  rintro nl2 ⟨z4, z5⟩ h
  refine c_sr (o_1 (.b (decide (z5 < (p0.length : Int)))) rfl (zA (zJ (c_if h rfl (fun h6 h => zG (zJ (zS (c_sr ?_)))) fun h6 h => zAQ ?_))))
  ·
   refine bi h fun x7 h8 h => o_c (g0 rfl) rfl rfl rfl (idxE h8) (idxC h8) (o_m2 (.t (.agg [.i x7.Home, .y x7.Data])) (.box [.i 0, .n]) rfl (o_st (.box [.i x7.Home, .y x7.Data]) (g0 rfl) rfl rfl rfl (zA (qQ mixed (by kernel_rfl) (d_2 (.t (.d (.seq 4 (List.map yE z4)))) (.t (.own 91 4 (List.map yE z4))) rfl (dg0 rfl) rfl rfl rfl rfl rfl (d_1 (.ref 5 0) rfl rfl (d_1 (.i x7.Home) rfl rfl (d_1 (.ref 5 1) rfl rfl (d_1 (.y x7.Data) rfl rfl ?_)))))))))
   refine bi h fun x9 h10 h => d_c rfl (dg0 rfl) rfl rfl rfl rfl (cutEh (c := cU8) h10) (cutCh (c := cU8) h10) (d_1 (.t (.agg [.i 1, .i x7.Home, .y x9, .b false])) rfl rfl (d_1 (.ref 5 0) rfl rfl (d_1 (.i x7.Home) rfl rfl (d_1 (.ref 5 1) rfl rfl (d_1 (.y x7.Data) rfl rfl (bi h fun x11 h12 h => d_c rfl (dg0 rfl) rfl rfl rfl rfl (cutEl (c := cU8) h12) (cutCl (c := cU8) h12) (d_1 (.t (.agg [.i 2, .i x7.Home, .y x11, .b false])) rfl rfl (d_1 (.t (.own 91 4 (List.map yE [(zV.mk 1 x7.Home x9 false), (zV.mk 2 x7.Home x11 false)]))) rfl rfl ?_))))))))
   refine bi h fun x13 h14 h => d_2c rfl (dg0 rfl) rfl rfl rfl rfl rfl (appE (c := yE) h14) (appC (c := yE) h14) (d_2 (.t (.d (.seq 4 (List.map yE x13)))) (.t (.own 91 4 (List.map yE x13))) rfl (dg0 rfl) rfl rfl rfl rfl rfl (yD (by kernel_rfl) (zL (o_m2 (.i (wi (z5 + 1))) (.i (wi (z5 + 1))) rfl (zA ?_)))))
   exact lE (x13, (wi (z5 + 1))) h rfl rfl
  exact lE z4 h rfl rfl
 rintro y1 h
 refine c_sr (o_2 (.t (.d (.seq 4 (List.map yE y1)))) (.t (.own 91 4 (List.map yE y1))) (g0 rfl) rfl rfl rfl (o_1 (.t (.d (.seq 2 (List.map zB p0)))) rfl (o_c (g0 rfl) rfl rfl rfl (lenE _ _) trivial (o_1 (.t (.agg [.i 3, .i (p0.length : Int), .n, .b false])) rfl (o_w (.t (.own 91 4 (List.map yE [(zV.mk 3 (p0.length : Int) [] false)]))) (g0 rfl) rfl rfl rfl (.t (.rows _ _ (.cons (.cons .r (.cons .r (.cons (.nil _) (.cons .r .nil)))) .nil) rfl)) (fun e => nomatch e) (bi h fun x2 h3 h => o_2c (g0 rfl) rfl rfl rfl (appE (c := yE) h3) (appC (c := yE) h3) (o_2 (.t (.d (.seq 4 (List.map yE x2)))) (.t (.own 91 4 (List.map yE x2))) (g0 rfl) rfl rfl rfl (zA (zF ?_)))))))))
 cases h
 exact end0 rfl .r
theorem zDJ (p0 : (Option Nat)) (p1 : (List zC)) (w0 : Hp) (r : (Int × Hp)) (h : qJ p0 p1 w0 = some r) : FCH Tryz.prog 21 [.t ((ptT 3 p0)), .t (.d (.seq 2 (List.map zB p1)))] [] [] (hpA w0) (hpA r.2) (.t (.d (.lit (.int .i64 r.1)))) := by
 refine qR (rs := [.tmp 4]) (n := 127) [] Tryz.func21 rfl rfl (Nat.le_of_ble_eq_true rfl) rfl (pins := []) rfl (L := [(HK, .hp (hpA w0)), (0, .t ((ptT 3 p0))), (1, .t (.d (.seq 2 (List.map zB p1))))]) rfl (c_sr (o_1 (.i 0) rfl (zA (zJ (c_sr (o_mv rfl (zI rfl) ?_))))))
 refine bi h fun x1 h2 h => o_cR (zBr _ w0 _ h2) (g0 rfl) rfl (a1 (qO rfl)) (r1 rfl) (o_1 (.i x1) rfl (zA (c_sr (o_m2 (.i x1) (.b (x1 != 0)) rfl (zA ?_)))))
 refine c_if h rfl (fun h3 h => c_sr (o_m2 (.i x1) (.i x1) rfl (zA (zF ?_)))) fun h3 h => zG ?_
 ·
  cases h; exact eR rfl rfl
 refine yY r (fun (_ : Unit) => [(0, .t ((ptT 3 p0))), (1, .t (.d (.seq 2 (List.map zB p1)))), (HK, .hp (hpA w0))]) (fun _ => zAU p0 w0 p1) ?_ ?_
 ·
  refine c_sr (o_1 (.t (.d (.seq 2 (List.map zB p1)))) rfl (o_c (g0 rfl) rfl rfl rfl (lenE _ _) trivial (o_1 (.i 0) rfl (zA (zS (c_lp (fun (z45 : Int) => [(0, .t ((ptT 3 p0))), (1, .t (.d (.seq 2 (List.map zB p1)))), (20, .t (.d (.seq 2 (List.map zB p1)))), (21, .i (p1.length : Int)), (22, .i z45), (HK, .hp (hpA w0))]) (fun nl5 z45 => qN p1 w0 p0 nl5 z45) (p1.length + 1) 0 h (fun _ => rfl) rfl rfl ?_))))))
  rintro nl5 z45 h
  refine c_sr (o_1 (.b (decide (z45 < (p1.length : Int)))) rfl (zA (zJ (c_if h rfl (fun h46 h => zG (zJ (zS (c_sr ?_)))) fun h46 h => zAQ ?_))))
  ·
   refine bi h fun x47 h48 h => o_c (g0 rfl) rfl rfl rfl (idxE h48) (idxC h48) (o_m2 (.t (.agg [.i x47.Home, .y x47.Data])) (.box [.i 0, .n]) rfl (o_st (.box [.i x47.Home, .y x47.Data]) (g0 rfl) rfl rfl rfl (zA (zJ (qQ mixed (by kernel_rfl) (d_1 (.ref 7 0) rfl rfl (d_1 (.i x47.Home) rfl rfl (d_1 (.b (decide (x47.Home < 0))) rfl rfl (d_1 (.b (decide (x47.Home < 0))) rfl rfl ?_)))))))))
   rcases zP h with ⟨h49, h⟩ | ⟨h49, h⟩
   ·
    refine d_k1 rfl rfl h49 (d_k1 rfl rfl h49 (d_k1 rfl rfl h49 (d_k1 rfl rfl h49 (d_k1 rfl rfl h49 (d_pT (.b true) h49 rfl rfl (d_1 (.b true) rfl rfl (d_k1 rfl rfl rfl (d_k1 rfl rfl rfl (d_k1 rfl rfl rfl (d_k1 rfl rfl rfl ?_))))))))))
    refine d_pT (.b true) rfl rfl rfl (yD (by kernel_rfl) (c_t rfl rfl (c_sr (o_1 (.i 2) rfl (zA (zF ?_))))))
    cases h; exact eR rfl rfl
   refine d_s (.ref 7 0) rfl (dgy rfl rfl rfl rfl h49) rfl rfl rfl rfl (d_s (.i x47.Home) rfl (dgy rfl rfl rfl rfl h49) rfl rfl rfl rfl ?_)
   rcases zQ h with ⟨h50, h⟩ | ⟨i51, h50, h⟩
   ·
    refine d_h0 [] (e := [(32, .t (.d (.lit (.pointer none))))]) (ks := [32]) rfl (dgy rfl rfl rfl rfl h49) rfl rfl (fun S' hM hok => h_mv hM (.inl rfl) ((zI rfl).trans (qL h50)) rfl (hok _ rfl rfl)) rfl (bi h fun x52 h53 h => d_cR (zAX _ w0 _ h53) rfl (dgy rfl rfl rfl rfl h49) rfl (a1 (aR rfl)) (r1 rfl) (d_s (.b (decide (x47.Home ≥ x52))) rfl (dgy rfl rfl rfl rfl h49) rfl rfl rfl rfl (d_pF (.b (decide (x47.Home ≥ x52))) h49 rfl rfl (d_1 (.b (decide (x47.Home ≥ x52))) rfl rfl ?_))))
    rcases zP h with ⟨h54, h⟩ | ⟨h54, h⟩
    ·
     refine d_k1 rfl rfl h54 (d_k1 rfl rfl h54 (d_k1 rfl rfl h54 (d_k1 rfl rfl h54 (d_pT (.b true) h54 rfl rfl (yD (by kernel_rfl) (c_t rfl rfl (c_sr (o_1 (.i 2) rfl (zA (zF ?_))))))))))
     cases h; exact eR rfl rfl
    refine d_s (.ref 7 1) rfl (dgy rfl rfl rfl rfl h54) rfl rfl rfl rfl (d_s (.y x47.Data) rfl (dgy rfl rfl rfl rfl h54) rfl rfl rfl rfl (d_c rfl (dgy rfl rfl rfl rfl h54) rfl rfl rfl rfl (lenE _ _) trivial (d_s (.b ((x47.Data.length : Int) != 64)) rfl (dgy rfl rfl rfl rfl h54) rfl rfl rfl rfl (d_pF (.b ((x47.Data.length : Int) != 64)) h54 rfl rfl (yD (by kernel_rfl) ?_)))))
    refine c_if h rfl (fun h55 h => c_sr (o_1 (.i 2) rfl (zA (zF ?_)))) fun h55 h => zG (zL (o_m2 (.i (wi (z45 + 1))) (.i (wi (z45 + 1))) rfl (zA ?_)))
    ·
     cases h; exact eR rfl rfl
    exact lE (wi (z45 + 1)) h rfl rfl
   refine d_h0 [] (e := [(32, .t (.hpt (cd 3 i51) 0))]) (ks := [32]) rfl (dgy rfl rfl rfl rfl h49) rfl rfl (fun S' hM hok => h_mv hM (.inl rfl) ((zI rfl).trans (qM h50)) rfl (hok _ rfl rfl)) rfl (bi h fun x56 h57 h => d_cR (zAX _ w0 _ h57) rfl (dgy rfl rfl rfl rfl h49) rfl (a1 aH) (r1 rfl) (d_s (.b (decide (x47.Home ≥ x56))) rfl (dgy rfl rfl rfl rfl h49) rfl rfl rfl rfl (d_pF (.b (decide (x47.Home ≥ x56))) h49 rfl rfl (d_1 (.b (decide (x47.Home ≥ x56))) rfl rfl ?_))))
   rcases zP h with ⟨h58, h⟩ | ⟨h58, h⟩
   ·
    refine d_k1 rfl rfl h58 (d_k1 rfl rfl h58 (d_k1 rfl rfl h58 (d_k1 rfl rfl h58 (d_pT (.b true) h58 rfl rfl (yD (by kernel_rfl) (c_t rfl rfl (c_sr (o_1 (.i 2) rfl (zA (zF ?_))))))))))
    cases h; exact eR rfl rfl
   refine d_s (.ref 7 1) rfl (dgy rfl rfl rfl rfl h58) rfl rfl rfl rfl (d_s (.y x47.Data) rfl (dgy rfl rfl rfl rfl h58) rfl rfl rfl rfl (d_c rfl (dgy rfl rfl rfl rfl h58) rfl rfl rfl rfl (lenE _ _) trivial (d_s (.b ((x47.Data.length : Int) != 64)) rfl (dgy rfl rfl rfl rfl h58) rfl rfl rfl rfl (d_pF (.b ((x47.Data.length : Int) != 64)) h58 rfl rfl (yD (by kernel_rfl) ?_)))))
   refine c_if h rfl (fun h59 h => c_sr (o_1 (.i 2) rfl (zA (zF ?_)))) fun h59 h => zG (zL (o_m2 (.i (wi (z45 + 1))) (.i (wi (z45 + 1))) rfl (zA ?_)))
   ·
    cases h; exact eR rfl rfl
   exact lE (wi (z45 + 1)) h rfl rfl
  exact lE () h rfl rfl
 rintro ⟨⟩ h
 refine c_sr (o_1 (.t (.d (.seq 2 (List.map zB p1)))) rfl (o_c (g0 rfl) rfl rfl rfl (lenE _ _) trivial (o_m3 (.i (wi (2 * (p1.length : Int)))) (.i (wi ((wi (2 * (p1.length : Int))) + 1))) (.i (wi ((wi (2 * (p1.length : Int))) + 1))) rfl (zA (yY r (fun (y4 : Hp) => [(0, .t ((ptT 3 p0))), (1, .t (.d (.seq 2 (List.map zB p1)))), (8, .i (wi ((wi (2 * (p1.length : Int))) + 1))), (HK, .hp (hpA y4))]) (fun y4 => zAD p1 p0 y4) ?_ ?_)))))
 ·
  refine zS (c_sr (o_1 (.i (wi ((wi (2 * (p1.length : Int))) + 1))) rfl (o_mv rfl (zI rfl) ?_)))
  rcases zQ h with ⟨h33, h⟩ | ⟨i34, h33, h⟩
  ·
   exact qF h
  refine o_nf 1 rfl (pq rfl h33) rfl (bi h fun x35 h36 h => o_ld (.i x35.size_) rfl (zAj h36) rfl (o_m2 (.b (decide ((wi ((wi (2 * (p1.length : Int))) + 1)) > x35.size_))) (.b (decide ((wi ((wi (2 * (p1.length : Int))) + 1)) > x35.size_))) rfl (zA ?_)))
  refine c_if h rfl (fun h37 h => c_sr (o_1 (.i 3) rfl (zA (zF ?_)))) fun h37 h => c_sr (o_1 (.t (.d (.seq 2 (List.map zB p1)))) rfl (o_c (g0 rfl) rfl rfl rfl (lenE _ _) trivial (o_m2 (.b ((p1.length : Int) == 0)) (.b ((p1.length : Int) == 0)) rfl (zA ?_))))
  ·
   cases h; exact eR rfl rfl
  refine c_if h rfl (fun h38 h => c_sr (o_1 (.i 0) rfl (zA (zF ?_)))) fun h38 h => c_sr (o_1 (.i (wi ((wi (2 * (p1.length : Int))) + 1))) rfl (o_mv rfl (pq rfl h33) ?_))
  ·
   cases h; exact eR rfl rfl
  refine bi h fun x39 h40 h => o_cR (zDs _ w0 _ h40) (g0 rfl) rfl (a1 aH) (r1 rfl) (o_m2 (.b (decide ((wi ((wi (2 * (p1.length : Int))) + 1)) > x39))) (.b (decide ((wi ((wi (2 * (p1.length : Int))) + 1)) > x39))) rfl (zA (c_if h rfl (fun h41 h => c_sr (o_mv rfl (pq rfl h33) ?_)) fun h41 h => zG ?_)))
  ·
   refine bi h fun x42 h43 h => o_cH (zBS _ w0 _ h43) (g0 rfl) rfl (a1 aH) (r1 rfl) (o_1 (.i x42.1) rfl (zA (c_sr (o_m2 (.i x42.1) (.b (x42.1 != 0)) rfl (zA ?_)))))
   refine c_if h rfl (fun h44 h => c_sr (o_m2 (.i x42.1) (.i x42.1) rfl (zA (zF ?_)))) fun h44 h => zG ?_
   ·
    cases h; exact eR rfl rfl
   exact lE x42.2 h rfl rfl
  exact lE w0 h rfl rfl
 rintro y4 h
 refine yY r (fun (y5 : Hp) => [(0, .t ((ptT 3 p0))), (1, .t (.d (.seq 2 (List.map zB p1)))), (8, .i (wi ((wi (2 * (p1.length : Int))) + 1))), (HK, .hp (hpA y5))]) (fun y5 => zAn p0 p1 y5) ?_ ?_
 ·
  refine c_sr (o_1 (.t (.d (.seq 2 (List.map zB p1)))) rfl (bi h fun x17 h18 h => o_cA (zHs _ _ h18) (g0 rfl) rfl (.cons .r .nil) rfl (o_c (g0 rfl) rfl rfl rfl (lenE _ _) trivial (o_1 (.i 0) rfl (zA (zS (c_lp (fun (q : Int × Hp) => [(0, .t ((ptT 3 p0))), (1, .t (.d (.seq 2 (List.map zB p1)))), (8, .i (wi ((wi (2 * (p1.length : Int))) + 1))), (69, .t (.own 91 4 (List.map yE x17))), (70, .i (x17.length : Int)), (71, .i q.1), (HK, .hp (hpA q.2))]) (fun nl4 q => zAC x17 p0 p1 nl4 q.1 q.2) (x17.length + 1) (0, y4) h (fun _ => rfl) rfl rfl ?_)))))))
  rintro nl4 ⟨z19, z20⟩ h
  refine c_sr (o_1 (.b (decide (z19 < (x17.length : Int)))) rfl (zA (zJ (c_if h rfl (fun h21 h => zG (zJ (zS (c_sr (o_1 (.i z19) rfl ?_))))) fun h21 h => zAQ ?_))))
  ·
   refine bi h fun x22 h23 h => o_c (g0 rfl) rfl rfl rfl (idxE h23) (idxC h23) (o_m3 (.t (.agg [.i x22.kind_, .i x22.number_, .y x22.data_, .b x22.ok_])) (.box [.i 0, .i 0, .n, .b false]) (.i z19) rfl (o_st (.box [.i x22.kind_, .i x22.number_, .y x22.data_, .b x22.ok_]) (g0 rfl) rfl rfl rfl (zA (c_sr (o_mv rfl (zI rfl) ?_)))))
   rcases zQ h with ⟨h24, h⟩ | ⟨i25, h24, h⟩
   ·
    exact qF h
   refine o_nf 4 rfl (pq rfl h24) rfl (bi h fun x26 h27 h => o_ld (.i x26.used_) rfl (zAj h27) rfl (o_m3 (.i z19) (.i (wi (x26.used_ + z19))) (.i (wi (x26.used_ + z19))) rfl (zA (zJ (qQ mixed (by kernel_rfl) (d_mv rfl rfl (pq rfl h24) (d_nc rfl rfl rfl (d_fd 0 rfl rfl rfl ?_))))))))
   refine d_h (e := [(85, .t ((ptT 1 x26.d_)))]) (ks := [85]) rfl (dg0 rfl) rfl rfl (fun S' hM hk hok => h_ld hM hk rfl rfl rfl (zAj h27) rfl (qI _ _) rfl (hok _ rfl rfl)) rfl (d_1 (.i (wi (x26.used_ + z19))) rfl rfl (d_1 (.i (wi (2 + (wi (x26.used_ + z19))))) rfl rfl (d_1 (.t (.agg [.i x22.kind_, .i x22.number_, .y x22.data_, .b x22.ok_])) rfl rfl (d_mv rfl rfl (pq rfl h24) (d_nc rfl rfl rfl (d_fd 2 rfl rfl rfl (d_ld (.i x26.base_) rfl rfl (zAj h27) rfl (d_1 (.i (wi (x26.used_ + z19))) rfl rfl (d_1 (.i (wi (x26.base_ + (wi (x26.used_ + z19))))) rfl rfl ?_)))))))))
   refine bi h fun x28 h29 h => d_cR (zD2 _ _ z20 _ h29) rfl (dg0 rfl) rfl (a2 (aR rfl) (aR rfl)) (r1 rfl) (bi h fun x30 h31 h => d_cH (zBM _ _ _ z20 _ h31) rfl (dg0 rfl) rfl (a3 (qO rfl) (aR rfl) (aR rfl)) (r1 rfl) (d_1 (.i x30.1) rfl rfl (yD (by kernel_rfl) (c_sr (o_m2 (.i x30.1) (.b (x30.1 != 0)) rfl (zA ?_))))))
   refine c_if h rfl (fun h32 h => c_sr (o_m2 (.i x30.1) (.i x30.1) rfl (zA (zF ?_)))) fun h32 h => zG (zL (o_m2 (.i (wi (z19 + 1))) (.i (wi (z19 + 1))) rfl (zA ?_)))
   ·
    cases h; exact eR rfl rfl
   exact lE ((wi (z19 + 1)), x30.2) h rfl rfl
  exact lE z20 h rfl rfl
 rintro y5 h
 refine zJ (c_sr (o_mv rfl (zI rfl) ?_))
 rcases zQ h with ⟨h6, h⟩ | ⟨i7, h6, h⟩
 ·
  exact qF h
 refine o_nf 0 rfl (pq rfl h6) rfl (bi h fun x8 h9 h => o_of (e := [(104, .t ((ptT 1 x8.d_)))]) (g0 rfl) (h_ld mR rfl rfl rfl rfl (zAj h9) rfl (qI _ _) rfl rfl) rfl (bi h fun x10 h11 h => o_cH (zBG _ y5 _ h11) (g0 rfl) rfl (a1 (qO rfl)) (r1 rfl) (o_1 (.i x10.1) rfl (zA (c_sr (o_m2 (.i x10.1) (.b (x10.1 != 0)) rfl (zA ?_)))))))
 refine c_if h rfl (fun h12 h => c_sr (o_m2 (.i x10.1) (.i x10.1) rfl (zA (zF ?_)))) fun h12 h => zG (c_sr (o_f3 4 rfl (pq rfl h6) rfl ?_))
 ·
  cases h; exact eR rfl rfl
 refine bi h fun x13 h14 h => o_ld (.i x13.used_) rfl (zAj h14) rfl (o_m2 (.i (wi ((wi (2 * (p1.length : Int))) + 1))) (.i (wi (x13.used_ + (wi ((wi (2 * (p1.length : Int))) + 1))))) rfl (o_nf 4 rfl rfl rfl (o_sH rfl (zAj h14) (zHl (x' := (zM.mk x13.d_ x13.size_ x13.base_ x13.slot_ (wi (x13.used_ + (wi ((wi (2 * (p1.length : Int))) + 1)))) x13.life_ x13.commits_)) h14) rfl rfl (zA (c_sr (o_f3 6 rfl (pq rfl h6) rfl (o_ld (.i ((zM.mk x13.d_ x13.size_ x13.base_ x13.slot_ (wi (x13.used_ + (wi ((wi (2 * (p1.length : Int))) + 1)))) x13.life_ x13.commits_).commits_)) rfl (zAj (zR h14)) rfl (o_1 (.i (wi (((zM.mk x13.d_ x13.size_ x13.base_ x13.slot_ (wi (x13.used_ + (wi ((wi (2 * (p1.length : Int))) + 1)))) x13.life_ x13.commits_).commits_) + 1))) rfl (o_nf 6 rfl rfl rfl ?_)))))))))
 refine o_sH rfl (zAj (zR h14)) (zHl (x' := (zM.mk x13.d_ x13.size_ x13.base_ x13.slot_ (wi (x13.used_ + (wi ((wi (2 * (p1.length : Int))) + 1)))) x13.life_ (wi (((zM.mk x13.d_ x13.size_ x13.base_ x13.slot_ (wi (x13.used_ + (wi ((wi (2 * (p1.length : Int))) + 1)))) x13.life_ x13.commits_).commits_) + 1)))) (zR h14)) rfl rfl (zA (c_sr (o_mv rfl (pq rfl h6) (o_1 (.t (.d (.seq 2 (List.map zB p1)))) rfl (bi h fun x15 h16 h => o_cH (zDr _ _ ((x10.2.st_lg i7 (zM.mk x13.d_ x13.size_ x13.base_ x13.slot_ (wi (x13.used_ + (wi ((wi (2 * (p1.length : Int))) + 1)))) x13.life_ x13.commits_)).st_lg i7 (zM.mk x13.d_ x13.size_ x13.base_ x13.slot_ (wi (x13.used_ + (wi ((wi (2 * (p1.length : Int))) + 1)))) x13.life_ (wi (((zM.mk x13.d_ x13.size_ x13.base_ x13.slot_ (wi (x13.used_ + (wi ((wi (2 * (p1.length : Int))) + 1)))) x13.life_ x13.commits_).commits_) + 1)))) _ h16) (g0 rfl) rfl (a2 aH (aR rfl)) (r1 rfl) (o_1 (.i x15.1) rfl (zA (zF ?_))))))))
 cases h; exact eR rfl rfl
theorem zDo (p0 : (Option Nat)) (p1 : Int) (w0 : Hp) (r : ((List UInt8) × Int)) (h : yW p0 p1 w0 = some r) : FCH Tryz.prog 23 [.t ((ptT 3 p0)), .t (.d (.lit (.int .i64 p1)))] [] [] (hpA w0) (hpA w0) (.tup [.d (.seq 1 (zN r.1)), .d (.lit (.int .i64 r.2))]) := by
 refine qR (rs := [.tmp 4, .tmp 5]) (n := 30) [] Tryz.func23 rfl rfl (Nat.le_of_ble_eq_true rfl) rfl (pins := []) rfl (L := [(HK, .hp (hpA w0)), (0, .t ((ptT 3 p0))), (1, .i p1)]) rfl (c_sr (o_m2 (.n) (.i 0) rfl (zA (zJ (c_sr (o_mv rfl (zI rfl) ?_))))))
 refine bi h fun x1 h2 h => o_cR (zBr _ w0 _ h2) (g0 rfl) rfl (a1 (qO rfl)) (r1 rfl) (o_1 (.i x1) rfl (zA (c_sr (o_m2 (.i x1) (.b (x1 != 0)) rfl (zA ?_)))))
 refine c_if h rfl (fun h3 h => c_sr (o_m3 (.i x1) (.n) (.i x1) rfl (zA (zF ?_)))) fun h3 h => zG (zJ (c_sr (o_m3 (.i p1) (.b (decide (p1 < 0))) (.b (decide (p1 < 0))) rfl ?_)))
 ·
  cases h
  exact ⟨⟨_, rfl, (.tup (.cons (.d (.nil _)) (.cons .r .nil)))⟩, trivial, rfl⟩
 rcases zP h with ⟨h4, h⟩ | ⟨h4, h⟩
 ·
  refine o_k4 rfl h4 (o_pT (.b true) h4 rfl (zA (c_t rfl rfl (c_sr (o_m2 (.n) (.i 31) rfl (zA (zF ?_)))))))
  cases h
  exact ⟨⟨_, rfl, (.tup (.cons (.d (.nil _)) (.cons .r .nil)))⟩, trivial, rfl⟩
 refine o_s (.i p1) (gy rfl rfl rfl h4) rfl rfl rfl (o_of (e := [(16, .t ((ptT 3 p0)))]) (gy rfl rfl rfl h4) (h_mv mR (.inl rfl) (zI rfl) rfl rfl) rfl (bi h fun x5 h6 h => o_cR (zAX _ w0 _ h6) (gy rfl rfl rfl h4) rfl (a1 (qO rfl)) (r1 rfl) (o_s (.b (decide (p1 ≥ x5))) (gy rfl rfl rfl h4) rfl rfl rfl (o_pF (.b (decide (p1 ≥ x5))) h4 rfl (zA ?_)))))
 refine c_if h rfl (fun h7 h => c_sr (o_m2 (.n) (.i 31) rfl (zA (zF ?_)))) fun h7 h => zG (zJ (qQ mixed (by kernel_rfl) ?_))
 ·
  cases h
  exact ⟨⟨_, rfl, (.tup (.cons (.d (.nil _)) (.cons .r .nil)))⟩, trivial, rfl⟩
 rcases zQ h with ⟨h8, h⟩ | ⟨i9, h8, h⟩
 ·
  refine d_mv rfl rfl ((zI rfl).trans (qL h8)) ?_
  exact qF h
 refine d_mv rfl rfl (pq rfl h8) (d_nc rfl rfl rfl (d_fd 0 rfl rfl rfl (bi h fun x10 h11 h => d_h (e := [(23, .t ((ptT 1 x10.d_)))]) (ks := [23]) rfl (dg0 rfl) rfl rfl (fun S' hM hk hok => h_ld hM hk rfl rfl rfl (zAj h11) rfl (qI _ _) rfl (hok _ rfl rfl)) rfl (d_mv rfl rfl (pq rfl h8) (d_1 (.i p1) rfl rfl (bi h fun x12 h13 h => d_cR (zEx _ _ w0 _ h13) rfl (dg0 rfl) rfl (a2 aH (aR rfl)) (r1 rfl) ?_))))))
 refine bi h fun x14 h15 h => d_cR (zCN _ _ w0 _ h15) rfl (dg0 rfl) rfl (a2 (qO rfl) (aR rfl)) (r2 rfl) (d_1 (.y x14.1) rfl rfl (d_1 (.i x14.2) rfl rfl (d_1 (.y x14.1) rfl rfl (d_1 (.i x14.2) rfl rfl (yD (by kernel_rfl) (zF ?_))))))
 cases h; exact eR rfl rfl
theorem zEv (p0 : (Option Nat)) (w0 : Hp) (r : Int) (h : zCG p0 w0 = some r) : FCH Tryz.prog 11 [.t ((ptT 3 p0))] [] [] (hpA w0) (hpA w0) (.t (.d (.lit (.int .i64 r)))) := by
 refine qR (rs := [.tmp 2]) (n := 9) [] Tryz.func11 rfl rfl (Nat.le_of_ble_eq_true rfl) rfl (pins := []) rfl (L := [(HK, .hp (hpA w0)), (0, .t ((ptT 3 p0)))]) rfl (c_sr (o_1 (.i 0) rfl (zA (zJ (c_sr (o_mv rfl (zI rfl) ?_))))))
 rcases zQ h with ⟨h1, h⟩ | ⟨i2, h1, h⟩
 ·
  refine o_of (e := [(4, .b true)]) (g0 rfl) (h_pn mR (ng := false) rfl rfl rfl (zCz rfl h1) rfl rfl) rfl (zA (c_t rfl rfl (c_sr (o_1 (.i 0) rfl (zA (zF ?_))))))
  cases h; exact eR rfl rfl
 refine o_of (e := [(4, .b false)]) (g0 rfl) (h_pn mR (ng := false) rfl rfl rfl (zC2 rfl h1) rfl rfl) rfl (zA (c_f rfl rfl (zG (c_sr (o_f3 2 rfl (pq rfl h1) rfl (bi h fun x3 h4 h => o_ld (.i x3.base_) rfl (zAj h4) rfl (o_1 (.i x3.base_) rfl (zA (zF ?_)))))))))
 cases h; exact eR rfl rfl
end Go.Proofs.YtjomnccladjpgaaGreat
