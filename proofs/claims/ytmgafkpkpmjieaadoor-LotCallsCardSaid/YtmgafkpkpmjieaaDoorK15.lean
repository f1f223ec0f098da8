/-
  Texts joined: see the remark at the head of each part.
-/
import Derived.Test.YtmgafkpkpmjieaaDoorK08
import Derived.Test.YtmgafkpkpmjieaaDoorK11
import Derived.Test.YtmgafkpkpmjieaaDoorK10
import Derived.Test.YtmgafkpkpmjieaaDoorK12
import Derived.Test.YtmgafkpkpmjieaaDoorK14
import Derived.Test.YtmgafkpkpmjieaaDoorK04
set_option linter.unusedVariables false
set_option linter.unusedSimpArgs false
/-
 Walks of functions: each function does what its model tells. Printed by a program of this claim's own (gen.py) off the given translation.
-/
namespace Go.Proofs.YtmgafkpkpmjieaaDoor
open Go Go.RowKit
set_option linter.unusedVariables false
set_option maxHeartbeats 4000000
set_option maxRecDepth 20000
theorem zEi (p0 : (List UInt8)) (p1 : Int) (w0 : Hp) (r : ((List zM) × Int)) (h : zAp p0 p1 = some r) : FCH Tryd.prog 12 [.t (.agg (ar cU8 (0 : UInt8) p0 0 32)), .t (.d (.lit (.int .i64 p1)))] [] [] (hpA w0) (hpA w0) (.tup [.d (.seq 17 (List.map zO r.1)), .d (.lit (.int .i64 r.2))]) := by
 refine zAr (rs := [.tmp 4, .tmp 5]) (n := 71) [] Tryd.func12 rfl rfl (Nat.le_of_ble_eq_true rfl) rfl (pins := []) rfl (L := [(HK, .hp (hpA w0)), (0, .t (.agg (ar cU8 (0 : UInt8) p0 0 32))), (1, .i p1)]) rfl (c_sr (o_s (.box (List.map T.d (ar cU8 (0 : UInt8) p0 0 32))) (g0 rfl) rfl rfl (by kernel_rfl) (o_m2 (.n) (.i 0) rfl (zA (c_sr (o_s (.t (.agg (ar cU8 (0 : UInt8) p0 0 32))) (g0 rfl) rfl rfl (by kernel_rfl) (o_1 (.i p1) rfl ?_)))))))
 refine bi h fun x1 h2 h => o_cH (zDY _ _ w0 _ h2) (g0 rfl) rfl (a2 (aR rfl) (aR rfl)) (r2 rfl) (o_m5 (.tup [.d (.seq 8 (List.map zJ x1.1)), .i x1.2]) (.t (.d (.seq 8 (List.map zJ x1.1)))) (.i x1.2) (.t (.d (.seq 8 (List.map zJ x1.1)))) (.i x1.2) rfl (zA (zI (c_sr (o_m2 (.i x1.2) (.b (x1.2 != 0)) rfl (zA ?_))))))
 refine c_if h rfl (fun h3 h => c_sr (o_m3 (.i x1.2) (.n) (.i x1.2) rfl (zA (zR ?_)))) fun h3 h => zL (c_sr (o_1 (.n) rfl (zA ?_)))
 ·
  cases h
  exact ⟨⟨_, rfl, (.tup (.cons (.d (.nil _)) (.cons .r .nil)))⟩, trivial, rfl⟩
 refine qY r (fun (y4 : (List zM)) => [(8, .t (.own 46 17 (List.map zO y4))), (HK, .hp (hpA w0))]) (fun y4 => zBs y4) ?_ ?_
 ·
  refine c_sr (o_1 (.t (.d (.seq 8 (List.map zJ x1.1)))) rfl (o_c (g0 rfl) rfl rfl rfl (lenE _ _) trivial (o_1 (.i 0) rfl (zA (zH (zAc (fun (q : (List zM) × Int) => [(2, .box (List.map T.d (ar cU8 (0 : UInt8) p0 0 32))), (8, .t (.own 46 17 (List.map zO q.1))), (23, .t (.d (.seq 8 (List.map zJ x1.1)))), (24, .i (x1.1.length : Int)), (25, .i q.2), (HK, .hp (hpA w0))]) (fun nl2 q => qS x1 p0 nl2 q.1 q.2) (x1.1.length + 1) ([], 0) [] h (fun _ => rfl) rfl trivial ⟨.r, (.t (.nilOwn _ _)), .r, .r, .r, .r, trivial⟩ rfl ?_))))))
  rintro nl2 ⟨z5, z6⟩ h
  refine c_sr (o_1 (.b (decide (z6 < (x1.1.length : Int)))) rfl (zA (zI (c_if h rfl (fun h7 h => zL (zI (zH (c_sr (o_1 (.i z6) rfl ?_))))) fun h7 h => qZ ?_))))
  ·
   refine bi h fun x8 h9 h => o_c (g0 rfl) rfl rfl rfl (idxE h9) (idxC h9) (o_m3 (.t (.agg [.i x8.Kind, .s x8.User, .s x8.Folder, .s x8.Name, .s x8.Other, .i x8.Role, .i x8.Version, .y x8.Data])) (.box [.i 0, .s [], .s [], .s [], .s [], .i 0, .i 0, .n]) (.i z6) rfl (o_st (.box [.i x8.Kind, .s x8.User, .s x8.Folder, .s x8.Name, .s x8.Other, .i x8.Role, .i x8.Version, .y x8.Data]) (g0 rfl) rfl rfl rfl (zA (c_sr (o_s (.t (.agg (ar cU8 (0 : UInt8) p0 0 32))) (g0 rfl) rfl rfl (by kernel_rfl) (o_1 (.i z6) rfl ?_))))))
   refine bi h fun x10 h11 h => o_cH (zDT _ _ w0 _ h11) (g0 rfl) rfl (a2 (aR rfl) (aR rfl)) (r2 rfl) (o_s (.tup [.agg (ar cU8 (0 : UInt8) x10.1 0 32), .i x10.2]) (g0 rfl) rfl rfl (by kernel_rfl) (o_s (.t (.agg (ar cU8 (0 : UInt8) x10.1 0 32))) (g0 rfl) rfl rfl (by kernel_rfl) (o_1 (.i x10.2) rfl (o_s (.box (List.map T.d (ar cU8 (0 : UInt8) ([] : (List UInt8)) 0 32))) (g0 rfl) rfl rfl (by kernel_rfl) (o_st (b := 11) (.box (List.map T.d (ar cU8 (0 : UInt8) x10.1 0 32))) (g0 rfl) rfl rfl (by kernel_rfl) (o_1 (.i x10.2) rfl (zA (zI (c_sr ?_)))))))))
   refine o_m2 (.i x10.2) (.b (x10.2 != 0)) rfl (zA (c_if h rfl (fun h12 h => c_sr (o_m3 (.i x10.2) (.n) (.i x10.2) rfl (zA (zR ?_)))) fun h12 h => zL ?_))
   ·
    cases h
    exact ⟨⟨_, rfl, (.tup (.cons (.d (.nil _)) (.cons .r .nil)))⟩, trivial, rfl⟩
   refine qY r (fun (y13 : (List zM)) => [(2, .box (List.map T.d (ar cU8 (0 : UInt8) p0 0 32))), (8, .t (.own 46 17 (List.map zO y13))), (10, .box [.i x8.Kind, .s x8.User, .s x8.Folder, .s x8.Name, .s x8.Other, .i x8.Role, .i x8.Version, .y x8.Data]), (23, .t (.d (.seq 8 (List.map zJ x1.1)))), (24, .i (x1.1.length : Int)), (25, .i z6), (HK, .hp (hpA w0))]) (fun y13 => zAP (qS x1 p0 nl2) x8 z6 y13) ?_ ?_
   ·
    refine zI (c_fz (pins := _) 11 (.imm (ar cU8 (0 : UInt8) x10.1 0 32)) rfl rfl rfl (by kernel_rfl) (zC (bi h fun x16 h17 h => o_of (e := [(39, .imm [.lit (.int .u8 (x16.toNat : Int))])]) (g0 rfl) (zCB mR rfl rfl rfl rfl rfl rfl (qE h17) (yN h17 (fun _ => rfl) rfl) rfl rfl) rfl (o_m2 (.t (.d (.lit (.int .u8 (x16.toNat : Int))))) (.b (decide ((x16.toNat : Int) < 64))) rfl (zA (c_if h rfl (fun h18 h => zI (zAe zCA (by kernel_rfl) ?_)) fun h18 h => zL ?_))))))
    ·
     refine bi h fun x19 h20 h => d_h0 [] (e := [(42, .imm [.lit (.int .u8 (x19.toNat : Int))])]) (ks := [42]) rfl (dg0 rfl) rfl rfl (fun S' hM hok => zCB hM rfl rfl rfl rfl rfl rfl (qE h20) (yN h20 (fun _ => rfl) rfl) rfl (hok _ rfl rfl)) rfl (d_1 (.t (.d (.lit (.int .u8 (x19.toNat : Int))))) rfl rfl (d_c rfl (dg0 rfl) rfl rfl rfl rfl (congrArg (fun z => A.i z) (zBG _)) trivial (bi h fun x21 h22 h => d_h0 [] (e := [(45, .imm [.lit (.int .u8 (x21.toNat : Int))])]) (ks := [45]) rfl (dg0 rfl) rfl rfl (fun S' hM hok => zCB hM rfl rfl rfl rfl rfl rfl (qE h22) (yN h22 (fun _ => rfl) rfl) rfl (hok _ rfl rfl)) rfl (d_1 (.t (.d (.lit (.int .u8 (x21.toNat : Int))))) rfl rfl (d_c rfl (dg0 rfl) rfl rfl rfl rfl (congrArg (fun z => A.i z) (zBG _)) trivial (d_1 (.i (wi ((x19.toNat : Int) + (x21.toNat : Int)))) rfl rfl (d_b0 (.t (.own 5 1 (zB []))) rfl (dg0 rfl) rfl rfl rfl rfl rfl rfl ?_)))))))
     refine bi h fun x23 h24 h => d_h0 [] (e := [(50, .y x23)]) (ks := [50]) rfl (dg0 rfl) rfl rfl (fun S' hM hok => zD0 (c := cU8) (z := (0 : UInt8)) hM rfl rfl (fun _ => rfl) rfl rfl rfl rfl rfl rfl rfl rfl h24 rfl (hok _ rfl rfl)) rfl (bi h fun x25 h26 h => d_2c rfl (dg0 rfl) rfl rfl rfl rfl rfl (appE (c := cU8) h26) (appC (c := cU8) h26) (bi h fun x27 h28 h => d_h0 [] (e := [(52, .imm [.lit (.int .u8 (x27.toNat : Int))])]) (ks := [52]) rfl (dg0 rfl) rfl rfl (fun S' hM hok => zCB hM rfl rfl rfl rfl rfl rfl (qE h28) (yN h28 (fun _ => rfl) rfl) rfl (hok _ rfl rfl)) rfl (d_1 (.t (.d (.lit (.int .u8 (x27.toNat : Int))))) rfl rfl (d_c rfl (dg0 rfl) rfl rfl rfl rfl (congrArg (fun z => A.i z) (zBG _)) trivial (d_b0 (.t (.own 5 1 (zB []))) rfl (dg0 rfl) rfl rfl rfl rfl rfl rfl ?_)))))
     refine bi h fun x29 h30 h => d_h0 [] (e := [(56, .y x29)]) (ks := [56]) rfl (dg0 rfl) rfl rfl (fun S' hM hok => zD0 (c := cU8) (z := (0 : UInt8)) hM rfl rfl (fun _ => rfl) rfl rfl rfl rfl rfl rfl rfl rfl h30 rfl (hok _ rfl rfl)) rfl (bi h fun x31 h32 h => d_2c rfl (dg0 rfl) rfl rfl rfl rfl rfl (appE (c := cU8) h32) (appC (c := cU8) h32) (d_1 (.t (.agg [.i (wi ((x19.toNat : Int) + (x21.toNat : Int))), .y x25, .i (x27.toNat : Int), .y x31])) rfl rfl (d_1 (.box [.i 0, .n, .i 0, .n]) rfl rfl (d_st (.box [.i (wi ((x19.toNat : Int) + (x21.toNat : Int))), .y x25, .i (x27.toNat : Int), .y x31]) rfl (dg0 rfl) rfl rfl rfl rfl (zBe (by kernel_rfl) (zC (o_2 (.t (.d (.seq 17 (List.map zO z5)))) (.t (.own 46 17 (List.map zO z5))) (g0 rfl) rfl rfl rfl (o_1 (.t (.agg [.i (wi ((x19.toNat : Int) + (x21.toNat : Int))), .y x25, .i (x27.toNat : Int), .y x31])) rfl ?_))))))))
     refine o_s (.t (.agg [.i 4, .i 0, .s [], .s [], .s [], .s [], .i 0, .i 0, .n, .i 0, .i (wi ((x19.toNat : Int) + (x21.toNat : Int))), .y x25, .i (x27.toNat : Int), .y x31, .s [], .s [], .n])) (g0 rfl) rfl rfl (by kernel_rfl) (o_w (.t (.own 46 17 (List.map zO [(zM.mk 4 (zD.mk 0 [] [] [] [] 0 0 []) 0 (zAA.mk (wi ((x19.toNat : Int) + (x21.toNat : Int))) x25 (x27.toNat : Int) x31) [] [] [])]))) (g0 rfl) rfl rfl rfl (.t (.rows _ _ (.cons (.cons .r (.cons .r (.cons .r (.cons .r (.cons .r (.cons .r (.cons .r (.cons .r (.cons (.nil _) (.cons .r (.cons .r (.cons .r (.cons .r (.cons .r (.cons .r (.cons .r (.cons (.nil _) .nil))))))))))))))))) .nil) rfl)) (fun e => nomatch e) (bi h fun x33 h34 h => o_2c (g0 rfl) rfl rfl rfl (appE (c := zO) h34) (appC (c := zO) h34) (o_2 (.t (.d (.seq 17 (List.map zO x33)))) (.t (.own 46 17 (List.map zO x33))) (g0 rfl) rfl rfl rfl (zA ?_))))
     exact lE x33 h rfl rfl
    exact lE z5 h rfl rfl
   rintro y13 h
   refine zC (o_2 (.t (.d (.seq 17 (List.map zO y13)))) (.t (.own 46 17 (List.map zO y13))) (g0 rfl) rfl rfl rfl (o_1 (.t (.agg [.i x8.Kind, .s x8.User, .s x8.Folder, .s x8.Name, .s x8.Other, .i x8.Role, .i x8.Version, .y x8.Data])) rfl (o_s (.t (.agg [.i 1, .i x8.Kind, .s x8.User, .s x8.Folder, .s x8.Name, .s x8.Other, .i x8.Role, .i x8.Version, .y x8.Data, .i 0, .i 0, .n, .i 0, .n, .s [], .s [], .n])) (g0 rfl) rfl rfl (by kernel_rfl) (o_w (.t (.own 46 17 (List.map zO [(zM.mk 1 x8 0 (zAA.mk 0 [] 0 []) [] [] [])]))) (g0 rfl) rfl rfl rfl (.t (.rows _ _ (.cons (.cons .r (.cons .r (.cons .r (.cons .r (.cons .r (.cons .r (.cons .r (.cons .r (.cons .r (.cons .r (.cons .r (.cons (.nil _) (.cons .r (.cons (.nil _) (.cons .r (.cons .r (.cons (.nil _) .nil))))))))))))))))) .nil) rfl)) (fun e => nomatch e) ?_))))
   refine bi h fun x14 h15 h => o_2c (g0 rfl) rfl rfl rfl (appE (c := zO) h15) (appC (c := zO) h15) (o_2 (.t (.d (.seq 17 (List.map zO x14)))) (.t (.own 46 17 (List.map zO x14))) (g0 rfl) rfl rfl rfl (zA (zC (o_m2 (.i (wi (z6 + 1))) (.i (wi (z6 + 1))) rfl (zA ?_)))))
   exact lE (x14, (wi (z6 + 1))) h rfl rfl
  exact lE z5 h rfl rfl
 rintro y4 h
 refine c_sr (o_2 (.t (.d (.seq 17 (List.map zO y4)))) (.t (.own 46 17 (List.map zO y4))) (g0 rfl) rfl rfl rfl (o_2 (.t (.d (.seq 17 (List.map zO y4)))) (.t (.own 46 17 (List.map zO y4))) (g0 rfl) rfl rfl rfl (o_1 (.i 0) rfl (zA (zR ?_)))))
 cases h; exact eR rfl rfl
theorem zEA (p0 : (List UInt8)) (p1 : Int) (p2 : Int) (w0 : Hp) (r : Bool) (h : zBM p0 p1 p2 = some r) : FCH Tryd.prog 3 [.t (.agg (ar cU8 (0 : UInt8) p0 0 32)), .t (.d (.lit (.int .i64 p1))), .t (.d (.lit (.int .i64 p2)))] [] [] (hpA w0) (hpA w0) (.t (.d (.lit (.bool r)))) := by
 refine zAr (rs := [.tmp 6]) (n := 136) [] Tryd.func3 rfl rfl (Nat.le_of_ble_eq_true rfl) rfl (pins := []) rfl (L := [(HK, .hp (hpA w0)), (0, .t (.agg (ar cU8 (0 : UInt8) p0 0 32))), (1, .i p1), (2, .i p2)]) rfl (c_sr (o_s (.box (List.map T.d (ar cU8 (0 : UInt8) p0 0 32))) (g0 rfl) rfl rfl (by kernel_rfl) (o_1 (.b false) rfl (zA (zI (c_sr (bi h fun x1 h2 h => o_cH (zE0 w0 _ h2) (g0 rfl) rfl .nil (r1 rfl) (o_1 (.b (!x1)) rfl (zA ?_)))))))))
 refine c_if h rfl (fun h3 h => c_sr (o_1 (.b false) rfl (zA (zR ?_)))) fun h3 h => zL (c_sr (o_s (.t (.agg (ar cU8 (0 : UInt8) p0 0 32))) (g0 rfl) rfl rfl (by kernel_rfl) (o_1 (.i p1) rfl ?_)))
 ·
  cases h; exact eR rfl rfl
 refine bi h fun x4 h5 h => o_cH (zDT _ _ w0 _ h5) (g0 rfl) rfl (a2 (aR rfl) (aR rfl)) (r2 rfl) (o_s (.tup [.agg (ar cU8 (0 : UInt8) x4.1 0 32), .i x4.2]) (g0 rfl) rfl rfl (by kernel_rfl) (o_s (.t (.agg (ar cU8 (0 : UInt8) x4.1 0 32))) (g0 rfl) rfl rfl (by kernel_rfl) (o_1 (.i x4.2) rfl (o_s (.box (List.map T.d (ar cU8 (0 : UInt8) ([] : (List UInt8)) 0 32))) (g0 rfl) rfl rfl (by kernel_rfl) (o_st (b := 7) (.box (List.map T.d (ar cU8 (0 : UInt8) x4.1 0 32))) (g0 rfl) rfl rfl (by kernel_rfl) (o_1 (.i x4.2) rfl (zA (c_sr ?_))))))))
 refine o_s (.t (.agg (ar cU8 (0 : UInt8) p0 0 32))) (g0 rfl) rfl rfl (by kernel_rfl) (o_1 (.i p1) rfl (bi h fun x6 h7 h => o_cH (zC4 _ _ w0 _ h7) (g0 rfl) rfl (a2 (aR rfl) (aR rfl)) (r2 rfl) (o_m4 (.tup [.agg [.i x6.1.Kind, .s x6.1.User, .s x6.1.Folder, .s x6.1.Name, .s x6.1.Other, .i x6.1.Role, .i x6.1.Version, .y x6.1.Data], .i x6.2]) (.t (.agg [.i x6.1.Kind, .s x6.1.User, .s x6.1.Folder, .s x6.1.Name, .s x6.1.Other, .i x6.1.Role, .i x6.1.Version, .y x6.1.Data])) (.i x6.2) (.box [.i 0, .s [], .s [], .s [], .s [], .i 0, .i 0, .n]) rfl (o_st (.box [.i x6.1.Kind, .s x6.1.User, .s x6.1.Folder, .s x6.1.Name, .s x6.1.Other, .i x6.1.Role, .i x6.1.Version, .y x6.1.Data]) (g0 rfl) rfl rfl rfl (o_1 (.i x6.2) rfl (zA (qY r (fun (_ : Unit) => [(2, .i p2), (3, .box (List.map T.d (ar cU8 (0 : UInt8) p0 0 32))), (HK, .hp (hpA w0))]) (fun _ => yZ p2 p0) ?_ ?_)))))))
 ·
  refine qY r (fun (y30 : Bool) => [(1, .i p1), (2, .i p2), (3, .box (List.map T.d (ar cU8 (0 : UInt8) p0 0 32))), (7, .box (List.map T.d (ar cU8 (0 : UInt8) x4.1 0 32))), (8, .i x4.2), (9, .box [.i x6.1.Kind, .s x6.1.User, .s x6.1.Folder, .s x6.1.Name, .s x6.1.Other, .i x6.1.Role, .i x6.1.Version, .y x6.1.Data]), (10, .i x6.2), (36, .b y30), (HK, .hp (hpA w0))]) (fun y30 => yI x4 x6 p2 p0 p1 y30) ?_ ?_
  ·
   refine zC (o_m3 (.i p1) (.b (decide (p1 < 0))) (.b (decide (p1 < 0))) rfl ?_)
   rcases zN h with ⟨h48, h⟩ | ⟨h48, h⟩
   ·
    refine o_k2 rfl h48 (o_pT (.b true) h48 rfl (zA ?_))
    exact lE true h rfl rfl
   refine o_s (.i p1) (gy rfl rfl rfl h48) rfl rfl rfl (o_s (.b (decide (p1 > 1024))) (gy rfl rfl rfl h48) rfl rfl rfl (o_pF (.b (decide (p1 > 1024))) h48 rfl (zA ?_)))
   exact lE (decide (p1 > 1024)) h rfl rfl
  rintro y30 h
  refine c_if h rfl (fun h31 h => c_sr (o_m3 (.i x4.2) (.b (x4.2 != 2)) (.b (x4.2 != 2)) rfl ?_)) fun h31 h => zI (zAe zCA (by kernel_rfl) (d_1 (.i x4.2) rfl rfl (d_1 (.b (x4.2 != 0)) rfl rfl (d_1 (.b (x4.2 != 0)) rfl rfl ?_))))
  ·
   rcases zN h with ⟨h32, h⟩ | ⟨h32, h⟩
   ·
    refine o_k2 rfl h32 (o_pT (.b true) h32 rfl (o_1 (.b true) rfl (o_k3 rfl rfl (o_pT (.b true) rfl rfl (o_1 (.b true) rfl (o_k4 rfl rfl (o_pT (.b true) rfl rfl (zA (c_t rfl rfl ?_)))))))))
    refine c_sr (o_1 (.b false) rfl (zA (zR ?_)))
    cases h; exact eR rfl rfl
   refine o_s (.i x6.2) (gy rfl rfl rfl h32) rfl rfl rfl (o_s (.b (x6.2 != 2)) (gy rfl rfl rfl h32) rfl rfl rfl (o_pF (.b (x6.2 != 2)) h32 rfl (o_1 (.b (x6.2 != 2)) rfl ?_)))
   rcases zN h with ⟨h33, h⟩ | ⟨h33, h⟩
   ·
    refine o_k3 rfl h33 (o_pT (.b true) h33 rfl (o_1 (.b true) rfl (o_k4 rfl rfl (o_pT (.b true) rfl rfl (zA (c_t rfl rfl (c_sr (o_1 (.b false) rfl (zA (zR ?_))))))))))
    cases h; exact eR rfl rfl
   refine o_s (.t (.agg (ar cU8 (0 : UInt8) x4.1 0 32))) (gy rfl rfl rfl h33) rfl rfl (by kernel_rfl) (o_s (.t (.agg (ar cU8 (0 : UInt8) ([] : (List UInt8)) 0 32))) (gy rfl rfl rfl h33) rfl rfl (by kernel_rfl) (o_eqa true u8_inj (fun _ => rfl) (gy rfl rfl rfl h33) rfl rfl rfl (by kernel_rfl) rfl rfl rfl rfl rfl rfl rfl (!(padA (0 : UInt8) x4.1 0 32 == padA (0 : UInt8) ([] : (List UInt8)) 0 32)) (by cases (padA (0 : UInt8) x4.1 0 32 == padA (0 : UInt8) ([] : (List UInt8)) 0 32) <;> rfl) (o_pF (.b (!(padA (0 : UInt8) x4.1 0 32 == padA (0 : UInt8) ([] : (List UInt8)) 0 32))) h33 rfl (o_1 (.b (!(padA (0 : UInt8) x4.1 0 32 == padA (0 : UInt8) ([] : (List UInt8)) 0 32))) rfl ?_))))
   rcases zN h with ⟨h34, h⟩ | ⟨h34, h⟩
   ·
    refine o_k4 rfl h34 (o_pT (.b true) h34 rfl (zA (c_t rfl rfl (c_sr (o_1 (.b false) rfl (zA (zR ?_)))))))
    cases h; exact eR rfl rfl
   refine o_s (.t (.agg [.i x6.1.Kind, .s x6.1.User, .s x6.1.Folder, .s x6.1.Name, .s x6.1.Other, .i x6.1.Role, .i x6.1.Version, .y x6.1.Data])) (gy rfl rfl rfl h34) rfl rfl rfl (o_s (.t (.agg [.i 0, .s [], .s [], .s [], .s [], .i 0, .i 0, .n])) (gy rfl rfl rfl h34) rfl rfl rfl (bi h fun x35 h36 h => o_cA (zCX _ _ _ h36) (gy rfl rfl rfl h34) rfl (.cons .r (.cons (.t (.agg (.cons .r (.cons .r (.cons .r (.cons .r (.cons .r (.cons .r (.cons .r (.cons (.nil _) .nil)))))))))) .nil)) rfl (o_s (.b (!x35)) (gy rfl rfl rfl h34) rfl rfl rfl (o_pF (.b (!x35)) h34 rfl (zA ?_)))))
   refine c_if h rfl (fun h37 h => c_sr (o_1 (.b false) rfl (zA (zR ?_)))) fun h37 h => zL ?_
   ·
    cases h; exact eR rfl rfl
   exact lE () h rfl rfl
  rcases zN h with ⟨h38, h⟩ | ⟨h38, h⟩
  ·
   refine d_k1 rfl rfl h38 (d_k1 rfl rfl h38 (d_pT (.b true) h38 rfl rfl (d_1 (.b true) rfl rfl (d_k1 rfl rfl rfl (d_k1 rfl rfl rfl (d_k1 rfl rfl rfl (d_k1 rfl rfl rfl (d_k1 rfl rfl rfl ?_))))))))
   refine d_pT (.b true) rfl rfl rfl (d_1 (.b true) rfl rfl (d_k1 rfl rfl rfl (d_k1 rfl rfl rfl (d_k1 rfl rfl rfl (d_k1 rfl rfl rfl (d_k1 rfl rfl rfl (d_k1 rfl rfl rfl ?_)))))))
   refine d_pT (.b true) rfl rfl rfl (zBe (by kernel_rfl) (c_t rfl rfl (c_sr (o_1 (.b false) rfl (zA (zR ?_))))))
   cases h; exact eR rfl rfl
  refine d_s (.i x6.2) rfl (dgy rfl rfl rfl rfl h38) rfl rfl rfl rfl (d_s (.b (x6.2 != 0)) rfl (dgy rfl rfl rfl rfl h38) rfl rfl rfl rfl (d_pF (.b (x6.2 != 0)) h38 rfl rfl (d_1 (.b (x6.2 != 0)) rfl rfl ?_)))
  rcases zN h with ⟨h39, h⟩ | ⟨h39, h⟩
  ·
   refine d_k1 rfl rfl h39 (d_k1 rfl rfl h39 (d_k1 rfl rfl h39 (d_k1 rfl rfl h39 (d_k1 rfl rfl h39 (d_pT (.b true) h39 rfl rfl (d_1 (.b true) rfl rfl (d_k1 rfl rfl rfl (d_k1 rfl rfl rfl (d_k1 rfl rfl rfl (d_k1 rfl rfl rfl (d_k1 rfl rfl rfl ?_)))))))))))
   refine d_k1 rfl rfl rfl (d_pT (.b true) rfl rfl rfl (zBe (by kernel_rfl) (c_t rfl rfl (c_sr (o_1 (.b false) rfl (zA (zR ?_)))))))
   cases h; exact eR rfl rfl
  refine d_s (.t (.agg (ar cU8 (0 : UInt8) x4.1 0 32))) rfl (dgy rfl rfl rfl rfl h39) rfl rfl rfl (by kernel_rfl) (d_s (.t (.agg (ar cU8 (0 : UInt8) p0 0 32))) rfl (dgy rfl rfl rfl rfl h39) rfl rfl rfl (by kernel_rfl) (d_s (.i p1) rfl (dgy rfl rfl rfl rfl h39) rfl rfl rfl rfl (bi h fun x40 h41 h => d_cH (zEW _ _ w0 _ h41) rfl (dgy rfl rfl rfl rfl h39) rfl (a2 (aR rfl) (aR rfl)) (r1 rfl) (d_eqa true u8_inj (fun _ => rfl) rfl (dgy rfl rfl rfl rfl h39) rfl rfl rfl (by kernel_rfl) rfl rfl rfl rfl rfl rfl rfl rfl (!(padA (0 : UInt8) x4.1 0 32 == padA (0 : UInt8) x40 0 32)) (by cases (padA (0 : UInt8) x4.1 0 32 == padA (0 : UInt8) x40 0 32) <;> rfl) (d_pF (.b (!(padA (0 : UInt8) x4.1 0 32 == padA (0 : UInt8) x40 0 32))) h39 rfl rfl (d_1 (.b (!(padA (0 : UInt8) x4.1 0 32 == padA (0 : UInt8) x40 0 32))) rfl rfl ?_))))))
  rcases zN h with ⟨h42, h⟩ | ⟨h42, h⟩
  ·
   refine d_k1 rfl rfl h42 (d_k1 rfl rfl h42 (d_k1 rfl rfl h42 (d_k1 rfl rfl h42 (d_k1 rfl rfl h42 (d_k1 rfl rfl h42 (d_pT (.b true) h42 rfl rfl (zBe (by kernel_rfl) ?_)))))))
   refine c_t rfl rfl (c_sr (o_1 (.b false) rfl (zA (zR ?_))))
   cases h; exact eR rfl rfl
  refine d_s (.t (.agg [.i x6.1.Kind, .s x6.1.User, .s x6.1.Folder, .s x6.1.Name, .s x6.1.Other, .i x6.1.Role, .i x6.1.Version, .y x6.1.Data])) rfl (dgy rfl rfl rfl rfl h42) rfl rfl rfl rfl (d_s (.t (.agg (ar cU8 (0 : UInt8) p0 0 32))) rfl (dgy rfl rfl rfl rfl h42) rfl rfl rfl (by kernel_rfl) (d_s (.i p1) rfl (dgy rfl rfl rfl rfl h42) rfl rfl rfl rfl (bi h fun x43 h44 h => d_cH (zD1 _ _ w0 _ h44) rfl (dgy rfl rfl rfl rfl h42) rfl (a2 (aR rfl) (aR rfl)) (r1 rfl) (bi h fun x45 h46 h => d_ca (zCX _ _ _ h46) rfl (dgy rfl rfl rfl rfl h42) rfl rfl rfl rfl rfl rfl rfl rfl (.cons .r (.cons .r .nil)) rfl rfl (d_s (.b (!x45)) rfl (dgy rfl rfl rfl rfl h42) rfl rfl rfl rfl (d_pF (.b (!x45)) h42 rfl rfl (zBe (by kernel_rfl) ?_)))))))
  refine c_if h rfl (fun h47 h => c_sr (o_1 (.b false) rfl (zA (zR ?_)))) fun h47 h => zL ?_
  ·
   cases h; exact eR rfl rfl
  exact lE () h rfl rfl
 rintro ⟨⟩ h
 refine qY r (fun (_ : Unit) => [(2, .i p2), (3, .box (List.map T.d (ar cU8 (0 : UInt8) p0 0 32))), (HK, .hp (hpA w0))]) (fun _ => yJ p0 p2) ?_ ?_
 ·
  refine c_sr (o_m3 (.i p2) (.b (decide (p2 > 40))) (.b (decide (p2 > 40))) rfl ?_)
  rcases zN h with ⟨h28, h⟩ | ⟨h28, h⟩
  ·
   refine o_s (.i p2) (gy rfl rfl rfl h28) rfl rfl rfl (o_s (.b (decide (p2 ≤ 1024))) (gy rfl rfl rfl h28) rfl rfl rfl (o_pT (.b (decide (p2 ≤ 1024))) h28 rfl (zA (c_if h rfl (fun h29 h => c_sr (o_1 (.b true) rfl (zA (zR ?_)))) fun h29 h => zL ?_))))
   ·
    cases h; exact eR rfl rfl
   exact lE () h rfl rfl
  refine o_k2 rfl h28 (o_pF (.b false) h28 rfl (zA (c_f rfl rfl (zL ?_))))
  exact lE () h rfl rfl
 rintro ⟨⟩ h
 refine c_sr (o_s (.t (.agg (ar cU8 (0 : UInt8) p0 0 32))) (g0 rfl) rfl rfl (by kernel_rfl) (o_1 (.i p2) rfl (bi h fun x8 h9 h => o_cH (zDY _ _ w0 _ h9) (g0 rfl) rfl (a2 (aR rfl) (aR rfl)) (r2 rfl) (o_m5 (.tup [.d (.seq 8 (List.map zJ x8.1)), .i x8.2]) (.t (.d (.seq 8 (List.map zJ x8.1)))) (.i x8.2) (.t (.d (.seq 8 (List.map zJ x8.1)))) (.i x8.2) rfl (zA (c_sr (o_s (.t (.agg (ar cU8 (0 : UInt8) p0 0 32))) (g0 rfl) rfl rfl (by kernel_rfl) (o_1 (.i p2) rfl ?_))))))))
 refine bi h fun x10 h11 h => o_cH (zEi _ _ w0 _ h11) (g0 rfl) rfl (a2 (aR rfl) (aR rfl)) (r2 rfl) (o_m5 (.tup [.d (.seq 17 (List.map zO x10.1)), .i x10.2]) (.t (.d (.seq 17 (List.map zO x10.1)))) (.i x10.2) (.t (.d (.seq 17 (List.map zO x10.1)))) (.i x10.2) rfl (zA (zI (qY r (fun (y12 : Bool) => [(2, .i p2), (3, .box (List.map T.d (ar cU8 (0 : UInt8) p0 0 32))), (11, .t (.d (.seq 8 (List.map zJ x8.1)))), (12, .i x8.2), (14, .i x10.2), (98, .b y12), (HK, .hp (hpA w0))]) (fun y12 => zAT x8 x10 p0 p2 y12) ?_ ?_))))
 ·
  refine zC (o_m3 (.i p2) (.b (decide (p2 < 0))) (.b (decide (p2 < 0))) rfl ?_)
  rcases zN h with ⟨h27, h⟩ | ⟨h27, h⟩
  ·
   refine o_k2 rfl h27 (o_pT (.b true) h27 rfl (zA ?_))
   exact lE true h rfl rfl
  refine o_s (.i p2) (gy rfl rfl rfl h27) rfl rfl rfl (o_s (.b (decide (p2 > 1024))) (gy rfl rfl rfl h27) rfl rfl rfl (o_pF (.b (decide (p2 > 1024))) h27 rfl (zA ?_)))
  exact lE (decide (p2 > 1024)) h rfl rfl
 rintro y12 h
 refine c_if h rfl (fun h13 h => c_sr (o_m3 (.i x8.2) (.b (x8.2 == 2)) (.b (x8.2 == 2)) rfl ?_)) fun h13 h => zL ?_
 ·
  rcases zN h with ⟨h14, h⟩ | ⟨h14, h⟩
  ·
   refine o_s (.i x10.2) (gy rfl rfl rfl h14) rfl rfl rfl (o_s (.b (x10.2 == 2)) (gy rfl rfl rfl h14) rfl rfl rfl (o_pT (.b (x10.2 == 2)) h14 rfl (o_1 (.b (x10.2 == 2)) rfl ?_)))
   rcases zN h with ⟨h15, h⟩ | ⟨h15, h⟩
   ·
    refine o_s (.t (.d (.seq 8 (List.map zJ x8.1)))) (gy rfl rfl rfl h15) rfl rfl rfl (o_c (gy rfl rfl rfl h15) rfl rfl rfl (lenE _ _) trivial (o_s (.b ((x8.1.length : Int) == 0)) (gy rfl rfl rfl h15) rfl rfl rfl (o_pT (.b ((x8.1.length : Int) == 0)) h15 rfl (o_1 (.b ((x8.1.length : Int) == 0)) rfl (zA (zR ?_))))))
    cases h; exact eR rfl rfl
   refine o_k3 rfl h15 (o_pF (.b false) h15 rfl (o_1 (.b false) rfl (zA (zR ?_))))
   cases h; exact eR rfl rfl
  refine o_k2 rfl h14 (o_pF (.b false) h14 rfl (o_1 (.b false) rfl (o_k3 rfl rfl (o_pF (.b false) rfl rfl (o_1 (.b false) rfl (zA (zR ?_)))))))
  cases h; exact eR rfl rfl
 refine qY r (fun (_ : Unit) => [(2, .i p2), (11, .t (.d (.seq 8 (List.map zJ x8.1)))), (12, .i x8.2), (14, .i x10.2), (HK, .hp (hpA w0))]) (fun _ => zBI x8 x10 p2) ?_ ?_
 ·
  refine c_sr (o_1 (.t (.d (.seq 8 (List.map zJ x8.1)))) rfl (o_c (g0 rfl) rfl rfl rfl (lenE _ _) trivial (o_1 (.i 0) rfl (zA (zH (c_lp (fun (z18 : Int) => [(2, .i p2), (3, .box (List.map T.d (ar cU8 (0 : UInt8) p0 0 32))), (11, .t (.d (.seq 8 (List.map zJ x8.1)))), (12, .i x8.2), (14, .i x10.2), (110, .t (.d (.seq 8 (List.map zJ x8.1)))), (111, .i (x8.1.length : Int)), (112, .i z18), (HK, .hp (hpA w0))]) (fun nl5 z18 => yF x8 p0 x10 p2 nl5 z18) (x8.1.length + 1) 0 h (fun _ => rfl) rfl rfl ?_))))))
  rintro nl5 z18 h
  refine c_sr (o_1 (.b (decide (z18 < (x8.1.length : Int)))) rfl (zA (zI (c_if h rfl (fun h19 h => zL (zI (zH (c_sr (o_1 (.i z18) rfl ?_))))) fun h19 h => qZ ?_))))
  ·
   refine bi h fun x20 h21 h => o_c (g0 rfl) rfl rfl rfl (idxE h21) (idxC h21) (o_m3 (.t (.agg [.i x20.Kind, .s x20.User, .s x20.Folder, .s x20.Name, .s x20.Other, .i x20.Role, .i x20.Version, .y x20.Data])) (.box [.i 0, .s [], .s [], .s [], .s [], .i 0, .i 0, .n]) (.i z18) rfl (o_st (.box [.i x20.Kind, .s x20.User, .s x20.Folder, .s x20.Name, .s x20.Other, .i x20.Role, .i x20.Version, .y x20.Data]) (g0 rfl) rfl rfl rfl (zA (zI (zAe zCA (by kernel_rfl) (d_1 (.t (.agg [.i x20.Kind, .s x20.User, .s x20.Folder, .s x20.Name, .s x20.Other, .i x20.Role, .i x20.Version, .y x20.Data])) rfl rfl (d_s (.t (.agg (ar cU8 (0 : UInt8) p0 0 32))) rfl (dg0 rfl) rfl rfl rfl (by kernel_rfl) ?_)))))))
   refine d_1 (.i z18) rfl rfl (bi h fun x22 h23 h => d_cH (zD1 _ _ w0 _ h23) rfl (dg0 rfl) rfl (a2 (aR rfl) (aR rfl)) (r1 rfl) (bi h fun x24 h25 h => d_ca (zCX _ _ _ h25) rfl (dg0 rfl) rfl rfl rfl rfl rfl rfl rfl rfl (.cons .r (.cons .r .nil)) rfl rfl (d_1 (.b (!x24)) rfl rfl (zBe (by kernel_rfl) ?_))))
   refine c_if h rfl (fun h26 h => c_sr (o_1 (.b false) rfl (zA (zR ?_)))) fun h26 h => zL (zC (o_m2 (.i (wi (z18 + 1))) (.i (wi (z18 + 1))) rfl (zA ?_)))
   ·
    cases h; exact eR rfl rfl
   exact lE (wi (z18 + 1)) h rfl rfl
  exact lE () h rfl rfl
 rintro ⟨⟩ h
 refine c_sr (o_m3 (.i x8.2) (.b (x8.2 == 0)) (.b (x8.2 == 0)) rfl ?_)
 rcases zN h with ⟨h16, h⟩ | ⟨h16, h⟩
 ·
  refine o_s (.i x10.2) (gy rfl rfl rfl h16) rfl rfl rfl (o_s (.b (x10.2 == 0)) (gy rfl rfl rfl h16) rfl rfl rfl (o_pT (.b (x10.2 == 0)) h16 rfl (o_1 (.b (x10.2 == 0)) rfl ?_)))
  rcases zN h with ⟨h17, h⟩ | ⟨h17, h⟩
  ·
   refine o_s (.t (.d (.seq 8 (List.map zJ x8.1)))) (gy rfl rfl rfl h17) rfl rfl rfl (o_c (gy rfl rfl rfl h17) rfl rfl rfl (lenE _ _) trivial (o_s (.i p2) (gy rfl rfl rfl h17) rfl rfl rfl (o_s (.b ((x8.1.length : Int) == p2)) (gy rfl rfl rfl h17) rfl rfl rfl (o_pT (.b ((x8.1.length : Int) == p2)) h17 rfl (o_1 (.b ((x8.1.length : Int) == p2)) rfl (zA (zR ?_)))))))
   cases h; exact eR rfl rfl
  refine o_k4 rfl h17 (o_pF (.b false) h17 rfl (o_1 (.b false) rfl (zA (zR ?_))))
  cases h; exact eR rfl rfl
 refine o_k2 rfl h16 (o_pF (.b false) h16 rfl (o_1 (.b false) rfl (o_k4 rfl rfl (o_pF (.b false) rfl rfl (o_1 (.b false) rfl (zA (zR ?_)))))))
 cases h; exact eR rfl rfl
end Go.Proofs.YtmgafkpkpmjieaaDoor

/-
 Small plain laws for models: indexes, pieces, numbers of 64 bits, bytes as numbers.
-/
namespace Go.Proofs.YtmgafkpkpmjieaaDoor
open Go Go.RowKit
set_option linter.unusedVariables false
set_option linter.unusedSimpArgs false
theorem zDO {z : Int} (h1 : -9223372036854775808 ≤ z) (h2 : z ≤ 9223372036854775807) : wi z = z := wrap_id h1 h2
theorem zAN {n : Nat} (h : n < 9223372036854775807) : wi ((n : Int) + 1) = ((n + 1 : Nat) : Int) := by rw [zDO (by omega) (by omega)]; omega
theorem zCw {α : Type} {l : List α} {i : Nat} (h : i < l.length) : idx l (i : Int) = some l[i] := by
 unfold idx
 rw [show decide (0 ≤ (i : Int)) = true from by simp]
 show l[(i : Int).toNat]? = _
 rw [Int.toNat_natCast, List.getElem?_eq_getElem h]
theorem zFA {α : Type} {x : α} {l : List α} : idx (x :: l) 0 = some x := rfl
theorem zDg {α : Type} {l : List α} {n : Nat} (h : n ≤ l.length) : cutI l 0 (n : Int) = some (l.take n) := by
 unfold cutI
 rw [if_pos ⟨by omega, by omega, by omega⟩]
 simp
theorem yC {α : Type} {nb : Nat} {l l' : List α} (h : (l.length + l'.length) * nb ≤ 140737488355328) : appI nb l l' = some (l ++ l') := by
 unfold appI
 rw [if_pos h]
theorem zDn {α : Type} {c : Bool} {a b : α} (h : c = true) : (bif c then a else b) = a := by rw [h]; rfl
theorem zCE {α : Type} {c : Bool} {a b : α} (h : c = false) : (bif c then a else b) = b := by rw [h]; rfl
theorem yA {p : Prop} [Decidable p] (h : p) : decide p = true := decide_eq_true h
theorem qM {p : Prop} [Decidable p] (h : ¬ p) : decide p = false := decide_eq_false h
theorem ieq_t {a b : Int} (h : a = b) : (a == b) = true := by simp [h]
theorem ieq_f {a b : Int} (h : a ≠ b) : (a == b) = false := by simp [h]
theorem ine_t {a b : Int} (h : a ≠ b) : (a != b) = true := by simp [h]
theorem zFI {a b : Int} (h : a = b) : (a != b) = false := by simp [h]
theorem zEy {z : Int} (h1 : 0 ≤ z) (h2 : z ≤ 18446744073709551615) : IntKind.u64.wrap z = z := by
 simp [IntKind.wrap, IntKind.bits, IntKind.signed]
 omega
theorem get_step (x c : Nat) (hx : x < 72057594037927936) (hc : c < 256) : IntKind.u64.wrap ((((BitVec.ofInt IntKind.u64.bits (IntKind.u64.wrap ((x : Int) * 2 ^ 8))) ||| (BitVec.ofInt IntKind.u64.bits (c : Int))).toNat : Nat) : Int) = ((x * 256 + c : Nat) : Int) := by
 have h1 : IntKind.u64.wrap ((x : Int) * 2 ^ 8) = ((x * 256 : Nat) : Int) := by rw [zEy (by omega) (by omega)]; omega
 rw [h1]
 have h2 : (BitVec.ofInt 64 ((x * 256 : Nat) : Int) ||| BitVec.ofInt 64 (c : Int)).toNat = x * 256 + c := by
  rw [BitVec.toNat_or, BitVec.ofInt_natCast, BitVec.ofInt_natCast, BitVec.toNat_ofNat, BitVec.toNat_ofNat, Nat.mod_eq_of_lt (by omega), Nat.mod_eq_of_lt (by omega)]
  have := Nat.shiftLeft_add_eq_or_of_lt (i := 8) (b := c) (by omega) x
  rw [Nat.shiftLeft_eq] at this
  exact this.symm
 show IntKind.u64.wrap ((BitVec.ofInt 64 ((x * 256 : Nat) : Int) ||| BitVec.ofInt 64 (c : Int)).toNat : Int) = _
 rw [h2, zEy (by omega) (by omega)]
end Go.Proofs.YtmgafkpkpmjieaaDoor

/-
 Loops of models: what they tell, where they go on, what they gather.
-/
namespace Go.Proofs.YtmgafkpkpmjieaaDoor
open Go Go.RowKit
set_option linter.unusedVariables false
set_option linter.unusedSimpArgs false
def zDv (x : Option Bool) (p : Prop) : Prop := ∃ r, x = some r ∧ (r = true ↔ p)
theorem zDv.yes {x : Option Bool} {p : Prop} (h : zDv x p) (hp : p) : x = some true := by
 obtain ⟨r, h1, h2⟩ := h
 rw [h1, h2.2 hp]
theorem zDv.no {x : Option Bool} {p : Prop} (h : zDv x p) (hp : ¬ p) : x = some false := by
 obtain ⟨r, h1, h2⟩ := h
 cases r with
 | false => exact h1
 | true => exact absurd (h2.1 rfl) hp
theorem zDv.of {b : Bool} {p : Prop} (h : b = true ↔ p) : zDv (some b) p := ⟨b, rfl, h⟩
theorem zDv.bool {x : Option Bool} {b : Bool} (h : zDv x (b = true)) : x = some b := by
 cases b with
 | true => exact h.yes rfl
 | false => exact h.no (by simp)
end Go.Proofs.YtmgafkpkpmjieaaDoor

/-
 Numbers of 64 bits: operations on bits, told by naturals.
-/
namespace Go.Proofs.YtmgafkpkpmjieaaDoor
open Go Go.RowKit
set_option linter.unusedVariables false
set_option linter.unusedSimpArgs false
theorem zCF {a b : Nat} (ha : a < 18446744073709551616) (hb : b < 18446744073709551616) : IntKind.u64.wrap ((((BitVec.ofInt IntKind.u64.bits (a : Int)) &&& (BitVec.ofInt IntKind.u64.bits (b : Int))).toNat : Nat) : Int) = ((a &&& b : Nat) : Int) := by
 have h2 : (BitVec.ofInt 64 (a : Int) &&& BitVec.ofInt 64 (b : Int)).toNat = a &&& b := by
  rw [BitVec.toNat_and, BitVec.ofInt_natCast, BitVec.ofInt_natCast, BitVec.toNat_ofNat, BitVec.toNat_ofNat, Nat.mod_eq_of_lt (by omega), Nat.mod_eq_of_lt (by omega)]
 show IntKind.u64.wrap ((BitVec.ofInt 64 (a : Int) &&& BitVec.ofInt 64 (b : Int)).toNat : Int) = _
 have h3 : a &&& b < 18446744073709551616 := Nat.and_lt_two_pow (n := 64) a hb
 rw [h2, zEy (by omega) (by omega)]
theorem zAz {a b : Nat} (ha : a < 18446744073709551616) (hb : b < 18446744073709551616) : IntKind.u64.wrap ((((BitVec.ofInt IntKind.u64.bits (a : Int)) ^^^ (BitVec.ofInt IntKind.u64.bits (b : Int))).toNat : Nat) : Int) = ((a ^^^ b : Nat) : Int) := by
 have h2 : (BitVec.ofInt 64 (a : Int) ^^^ BitVec.ofInt 64 (b : Int)).toNat = a ^^^ b := by
  rw [BitVec.toNat_xor, BitVec.ofInt_natCast, BitVec.ofInt_natCast, BitVec.toNat_ofNat, BitVec.toNat_ofNat, Nat.mod_eq_of_lt (by omega), Nat.mod_eq_of_lt (by omega)]
 show IntKind.u64.wrap ((BitVec.ofInt 64 (a : Int) ^^^ BitVec.ofInt 64 (b : Int)).toNat : Int) = _
 have h3 : a ^^^ b < 18446744073709551616 := Nat.xor_lt_two_pow (n := 64) ha hb
 rw [h2, zEy (by omega) (by omega)]
theorem zG1 {a b : Nat} (ha : a < 18446744073709551616) (hb : b < 18446744073709551616) : IntKind.u64.wrap ((((BitVec.ofInt IntKind.u64.bits (a : Int)) ||| (BitVec.ofInt IntKind.u64.bits (b : Int))).toNat : Nat) : Int) = ((a ||| b : Nat) : Int) := by
 have h2 : (BitVec.ofInt 64 (a : Int) ||| BitVec.ofInt 64 (b : Int)).toNat = a ||| b := by
  rw [BitVec.toNat_or, BitVec.ofInt_natCast, BitVec.ofInt_natCast, BitVec.toNat_ofNat, BitVec.toNat_ofNat, Nat.mod_eq_of_lt (by omega), Nat.mod_eq_of_lt (by omega)]
 show IntKind.u64.wrap ((BitVec.ofInt 64 (a : Int) ||| BitVec.ofInt 64 (b : Int)).toNat : Int) = _
 have h3 : a ||| b < 18446744073709551616 := Nat.or_lt_two_pow (n := 64) ha hb
 rw [h2, zEy (by omega) (by omega)]
theorem shr_nat {a b : Nat} (hb : b < 64) : shrI .u64 (a : Int) (b : Int) = some ((a >>> b : Nat) : Int) := by
 unfold shrI
 rw [yA (by omega), cond_true, Int.toNat_natCast, show min b IntKind.u64.bits = b from Nat.min_eq_left (by show b ≤ 64; omega), Nat.shiftRight_eq_div_pow, Int.fdiv_eq_ediv_of_nonneg _ (by exact Int.natCast_nonneg (2 ^ b))]
 congr 1
theorem shl_nat {a b : Nat} (hb : b < 64) : shlI .u64 (a : Int) (b : Int) = some (((a <<< b) % 18446744073709551616 : Nat) : Int) := by
 unfold shlI
 rw [yA (by omega), cond_true, Int.toNat_natCast, show min b IntKind.u64.bits = b from Nat.min_eq_left (by show b ≤ 64; omega), Nat.shiftLeft_eq]
 refine congrArg some ?_
 have e : (a : Int) * 2 ^ b = ((a * 2 ^ b : Nat) : Int) := by simp
 rw [e]
 generalize a * 2 ^ b = x
 simp [IntKind.wrap, IntKind.bits, IntKind.signed]
theorem tmod_nat (a b : Nat) : Int.tmod (a : Int) (b : Int) = ((a % b : Nat) : Int) := rfl
theorem zGR (a b : Nat) : Int.tdiv (a : Int) (b : Int) = ((a / b : Nat) : Int) := rfl
theorem zAR {a : Nat} (h : a < 18446744073709551616) : IntKind.u64.wrap (a : Int) = (a : Int) := zEy (by omega) (by omega)
theorem zBH {a : Nat} (h : a < 9223372036854775808) : wi (a : Int) = (a : Int) := zDO (by omega) (by omega)
def rotr (x a : Nat) : Nat := x / 2 ^ a + x % 2 ^ a * 2 ^ (64 - a)
theorem zBB {x a : Nat} (hx : x < 18446744073709551616) (ha : a ≤ 64) : rotr x a < 18446744073709551616 := by
 have h1 : x / 2 ^ a < 2 ^ (64 - a) := by
  rw [Nat.div_lt_iff_lt_mul (Nat.two_pow_pos a), ← Nat.pow_add, show 64 - a + a = 64 by omega]
  exact hx
 have h2 : x % 2 ^ a + 1 ≤ 2 ^ a := Nat.mod_lt _ (Nat.two_pow_pos a)
 have h3 : (x % 2 ^ a + 1) * 2 ^ (64 - a) ≤ 2 ^ a * 2 ^ (64 - a) := Nat.mul_le_mul_right _ h2
 rw [← Nat.pow_add, show a + (64 - a) = 64 by omega, Nat.add_mul, Nat.one_mul] at h3
 have e : (2 : Nat) ^ 64 = 18446744073709551616 := rfl
 unfold rotr
 omega
theorem rotr_or {x a : Nat} (hx : x < 18446744073709551616) (ha : a ≤ 64) : (x <<< (64 - a)) % 18446744073709551616 ||| x >>> a = rotr x a := by
 have h1 : x >>> a < 2 ^ (64 - a) := by
  rw [Nat.shiftRight_eq_div_pow, Nat.div_lt_iff_lt_mul (Nat.two_pow_pos a), ← Nat.pow_add, show 64 - a + a = 64 by omega]
  exact hx
 have h2 : (x <<< (64 - a)) % 18446744073709551616 = (x % 2 ^ a) <<< (64 - a) := by
  rw [Nat.shiftLeft_eq, Nat.shiftLeft_eq, show (18446744073709551616 : Nat) = 2 ^ a * 2 ^ (64 - a) by rw [← Nat.pow_add, show a + (64 - a) = 64 by omega], Nat.mul_mod_mul_right]
 rw [h2, ← Nat.shiftLeft_add_eq_or_of_lt h1, Nat.shiftLeft_eq, Nat.shiftRight_eq_div_pow]
 unfold rotr
 omega
end Go.Proofs.YtmgafkpkpmjieaaDoor

/-
 The plain law of the sums: turned words.
-/
namespace Go.Proofs.YtmgafkpkpmjieaaDoor
open Go Go.RowKit
set_option linter.unusedVariables false
theorem zGA {x a : Nat} {p : Int} (hx : x < 18446744073709551616) (h0 : 0 < a) (ha : a < 64) (hp : IntKind.u64.wrap ((((BitVec.ofInt IntKind.u64.bits (IntKind.u64.wrap p)) &&& (BitVec.ofInt IntKind.u64.bits 63)).toNat : Nat) : Int) = ((64 - a : Nat) : Int)) : zG (x : Int) p = some ((rotr x a : Nat) : Int) := by
 unfold zG
 rw [hp, shl_nat (by omega), Option.bind_some, show (64 : Int) - ((64 - a : Nat) : Int) = ((a : Nat) : Int) by omega, zAR (by omega), shr_nat (by omega), Option.bind_some]
 have h1 : x >>> a < 18446744073709551616 := Nat.lt_of_le_of_lt (Nat.shiftRight_le x a) hx
 rw [zG1 (Nat.mod_lt _ (by decide)) h1, rotr_or hx (by omega)]
theorem zFJ {n : Nat} (h : n ≤ 63) : 2 ^ n ≤ 9223372036854775808 := Nat.pow_le_pow_right (by decide) h
theorem n_turn_j1 {x a : Nat} (hx : x < 18446744073709551616) (h0 : 0 < a) (ha : a < 64) : zBh (x : Int) ((2 ^ a : Nat) : Int) = some ((rotr x a : Nat) : Int) := by
 have hpos : 0 < 2 ^ a := Nat.two_pow_pos a
 have hle := zFJ (n := a) (by omega)
 have hne : (((2 ^ a : Nat) : Int) != 0) = true := by simpa using (by omega : ¬ ((2 ^ a : Nat) : Int) = 0)
 have q : ∀ y : Nat, y < 18446744073709551616 → quoI .u64 (y : Int) ((2 ^ a : Nat) : Int) = some ((y / 2 ^ a : Nat) : Int) := fun y hy => by
  unfold quoI
  rw [hne, cond_true, zGR, zAR (Nat.lt_of_le_of_lt (Nat.div_le_self _ _) hy)]
 have r : remI .u64 (x : Int) ((2 ^ a : Nat) : Int) = some ((x % 2 ^ a : Nat) : Int) := by
  unfold remI
  rw [hne, cond_true, tmod_nat]
 have e1 : 9223372036854775808 / 2 ^ a * 2 = 2 ^ (64 - a) := by
  rw [show (9223372036854775808 : Nat) = 2 ^ (63 - a) * 2 ^ a by rw [← Nat.pow_add, show 63 - a + a = 63 by omega], Nat.mul_div_cancel _ hpos, ← Nat.pow_succ, show (63 - a).succ = 64 - a by omega]
 have l1 := zFJ (n := 64 - a) (by omega)
 have lt := zBB hx (a := a) (by omega)
 have lt2 : x % 2 ^ a * 2 ^ (64 - a) < 18446744073709551616 := Nat.lt_of_le_of_lt (Nat.le_add_left _ _) lt
 unfold zBh
 rw [q x hx, Option.bind_some, r, Option.bind_some, show (9223372036854775808 : Int) = ((9223372036854775808 : Nat) : Int) from rfl, q _ (by decide), Option.bind_some]
 rw [show ((9223372036854775808 / 2 ^ a : Nat) : Int) * 2 = ((2 ^ (64 - a) : Nat) : Int) by rw [← e1]; simp, zAR (by omega), ← Int.natCast_mul, zAR lt2, ← Int.natCast_add]
 show some (IntKind.u64.wrap ((rotr x a : Nat) : Int)) = _
 rw [zAR lt]
theorem zGn {x a : Nat} (hx : x < 18446744073709551616) (h0 : 0 < a) (ha : a < 64) : ∀ (k n : Nat), n + k = a → ∀ fuel, k < fuel → zAa (a : Int) (x : Int) fuel ((2 ^ n : Nat) : Int) (n : Int) = some ((rotr x a : Nat) : Int)
 | 0, n, hn, fuel + 1, hf => by
  unfold zAa
  rw [qM (by omega), cond_false, show n = a by omega]
  exact n_turn_j1 hx h0 ha
 | k + 1, n, hn, fuel + 1, hf => by
  unfold zAa
  have h2 := zFJ (n := n + 1) (by omega)
  have e : ((2 ^ n : Nat) : Int) * 2 = ((2 ^ (n + 1) : Nat) : Int) := by rw [Nat.pow_succ]; simp
  rw [yA (by omega), cond_true, e, zAR (by omega), show (n : Int) + 1 = ((n + 1 : Nat) : Int) by omega, zBH (by omega)]
  exact zGn hx h0 ha k (n + 1) (by omega) fuel (by omega)
theorem zDN {x a : Nat} (hx : x < 18446744073709551616) (h0 : 0 < a) (ha : a < 64) : yG (x : Int) (a : Int) = some ((rotr x a : Nat) : Int) := by
 unfold yG
 exact zGn hx h0 ha a 0 (by omega) _ (by omega)
theorem zFo {a : Nat} (ha : a < 64) : ∀ (k n x : Nat), n + k = a → x < 18446744073709551616 → ∀ fuel, k < fuel → zAH (a : Int) fuel (x : Int) (n : Int) = some ((x / 2 ^ k : Nat) : Int)
 | 0, n, x, hn, hx, fuel + 1, hf => by
  unfold zAH
  rw [qM (by omega), cond_false]
  simp
 | k + 1, n, x, hn, hx, fuel + 1, hf => by
  unfold zAH
  have h2 : x / 2 < 18446744073709551616 := by omega
  rw [yA (by omega), cond_true, show Int.tdiv (x : Int) 2 = ((x / 2 : Nat) : Int) from rfl, zAR h2, show (n : Int) + 1 = ((n + 1 : Nat) : Int) by omega, zBH (by omega), zFo ha k (n + 1) (x / 2) (by omega) h2 fuel (by omega), Nat.div_div_eq_div_mul, Nat.pow_succ, Nat.mul_comm]
theorem n_shift {x a : Nat} (hx : x < 18446744073709551616) (ha : a < 64) : zAh (x : Int) (a : Int) = some ((x / 2 ^ a : Nat) : Int) := by
 unfold zAh
 exact zFo ha a 0 x (by omega) hx _ (by omega)
end Go.Proofs.YtmgafkpkpmjieaaDoor

/-
 The plain law of the sums: choices, majorities, sums of turned words.
-/
namespace Go.Proofs.YtmgafkpkpmjieaaDoor
open Go Go.RowKit
set_option linter.unusedVariables false
theorem all1_bit (i : Nat) : (18446744073709551615 : Nat).testBit i = decide (i < 64) := Nat.testBit_two_pow_sub_one 64 i
theorem bit_lt64 {e i : Nat} (he : e < 18446744073709551616) (h : e.testBit i = true) : i < 64 := by
 refine Nat.lt_of_not_le fun h2 => ?_
 have h3 : (2 : Nat) ^ 64 ≤ 2 ^ i := Nat.pow_le_pow_right (by decide) h2
 have : e.testBit i = false := Nat.testBit_lt_two_pow (Nat.lt_of_lt_of_le he h3)
 rw [this] at h
 cases h
theorem not64 {e : Nat} (he : e < 18446744073709551616) : 18446744073709551615 ^^^ e = 18446744073709551615 - e := by
 have h := BitVec.toNat_not (x := BitVec.ofNat 64 e)
 rw [BitVec.toNat_ofNat, Nat.mod_eq_of_lt he] at h
 have h2 : (BitVec.allOnes 64 ^^^ BitVec.ofNat 64 e).toNat = 18446744073709551615 ^^^ e := by
  rw [BitVec.toNat_xor, BitVec.toNat_ofNat, Nat.mod_eq_of_lt he, BitVec.toNat_allOnes]
 rw [← h2, BitVec.allOnes_xor, h]
theorem ch_eq {e f g : Nat} (he : e < 18446744073709551616) : (e &&& f) ||| ((18446744073709551615 ^^^ e) &&& g) = (e &&& f) ^^^ ((18446744073709551615 - e) &&& g) := by
 rw [← not64 he]
 refine Nat.eq_of_testBit_eq fun i => ?_
 simp only [Nat.testBit_or, Nat.testBit_and, Nat.testBit_xor, all1_bit]
 cases hb : e.testBit i with
 | false => simp
 | true =>
  have := bit_lt64 he hb
  simp [this]
theorem maj_eq (a b c : Nat) : ((a &&& b) ||| (a &&& c)) ||| (b &&& c) = ((a &&& b) ^^^ (a &&& c)) ^^^ (b &&& c) := by
 refine Nat.eq_of_testBit_eq fun i => ?_
 simp only [Nat.testBit_or, Nat.testBit_and, Nat.testBit_xor]
 cases a.testBit i <;> cases b.testBit i <;> cases c.testBit i <;> rfl
theorem zAM {a b : Nat} (ha : a < 18446744073709551616) : a &&& b < 18446744073709551616 := Nat.lt_of_le_of_lt Nat.and_le_left ha
theorem zCi {a b : Nat} (ha : a < 18446744073709551616) (hb : b < 18446744073709551616) : a ^^^ b < 18446744073709551616 := Nat.xor_lt_two_pow (n := 64) ha hb
theorem or_lt64 {a b : Nat} (ha : a < 18446744073709551616) (hb : b < 18446744073709551616) : a ||| b < 18446744073709551616 := Nat.or_lt_two_pow (n := 64) ha hb
def ad (a b : Nat) : Nat := (a + b) % 18446744073709551616
theorem zEH (a b : Nat) : ad a b < 18446744073709551616 := Nat.mod_lt _ (by decide)
theorem qK (a b : Nat) : IntKind.u64.wrap ((a : Int) + (b : Int)) = ((ad a b : Nat) : Int) := by
 rw [← Int.natCast_add]
 unfold ad
 generalize a + b = x
 simp [IntKind.wrap, IntKind.bits, IntKind.signed]
def sg (x a b c : Nat) : Nat := rotr x a ^^^ rotr x b ^^^ rotr x c
theorem n_turns {x a b c : Nat} (hx : x < 18446744073709551616) (ha0 : 0 < a) (ha : a < 64) (hb0 : 0 < b) (hb : b < 64) (hc0 : 0 < c) (hc : c < 64)
  (ea : IntKind.u64.wrap ((((BitVec.ofInt IntKind.u64.bits (IntKind.u64.wrap (wi (0 - (a : Int))))) &&& (BitVec.ofInt IntKind.u64.bits 63)).toNat : Nat) : Int) = ((64 - a : Nat) : Int))
  (eb : IntKind.u64.wrap ((((BitVec.ofInt IntKind.u64.bits (IntKind.u64.wrap (wi (0 - (b : Int))))) &&& (BitVec.ofInt IntKind.u64.bits 63)).toNat : Nat) : Int) = ((64 - b : Nat) : Int))
  (ec : IntKind.u64.wrap ((((BitVec.ofInt IntKind.u64.bits (IntKind.u64.wrap (wi (0 - (c : Int))))) &&& (BitVec.ofInt IntKind.u64.bits 63)).toNat : Nat) : Int) = ((64 - c : Nat) : Int)) : zAg (x : Int) (a : Int) (b : Int) (c : Int) = some ((sg x a b c : Nat) : Int) := by
 unfold zAg
 have h1 := zBB hx (a := a) (by omega)
 have h2 := zBB hx (a := b) (by omega)
 have h3 := zBB hx (a := c) (by omega)
 rw [zGA hx ha0 ha ea, Option.bind_some, zGA hx hb0 hb eb, Option.bind_some, zGA hx hc0 hc ec, Option.bind_some, zAz h1 h2, zAz (zCi h1 h2) h3]
 rfl
theorem n_turns1 {x : Nat} (hx : x < 18446744073709551616) : zAg (x : Int) 14 18 41 = some ((sg x 14 18 41 : Nat) : Int) := n_turns (a := 14) (b := 18) (c := 41) hx (by decide) (by decide) (by decide) (by decide) (by decide) (by decide) rfl rfl rfl
theorem n_turns2 {x : Nat} (hx : x < 18446744073709551616) : zAg (x : Int) 28 34 39 = some ((sg x 28 34 39 : Nat) : Int) := n_turns (a := 28) (b := 34) (c := 39) hx (by decide) (by decide) (by decide) (by decide) (by decide) (by decide) rfl rfl rfl
theorem n_rol1 {x : Nat} (hx : x < 18446744073709551616) : zG (x : Int) (-1) = some ((rotr x 1 : Nat) : Int) := zGA hx (by decide) (by decide) rfl
theorem n_rol8 {x : Nat} (hx : x < 18446744073709551616) : zG (x : Int) (-8) = some ((rotr x 8 : Nat) : Int) := zGA hx (by decide) (by decide) rfl
theorem n_rol19 {x : Nat} (hx : x < 18446744073709551616) : zG (x : Int) (-19) = some ((rotr x 19 : Nat) : Int) := zGA hx (by decide) (by decide) rfl
theorem n_rol61 {x : Nat} (hx : x < 18446744073709551616) : zG (x : Int) (-61) = some ((rotr x 61 : Nat) : Int) := zGA hx (by decide) (by decide) rfl
end Go.Proofs.YtmgafkpkpmjieaaDoor

/-
 The plain law of the sums: a piece's eighty words.
-/
namespace Go.Proofs.YtmgafkpkpmjieaaDoor
open Go Go.RowKit
set_option linter.unusedVariables false
def ci (l : List Nat) : List Int := l.map fun n : Nat => (n : Int)
theorem zDx (l : List Nat) : (ci l).length = l.length := List.length_map ..
theorem ci_get {l : List Nat} {i : Nat} (h : i < l.length) : (ci l)[i]? = some ((l.getD i 0 : Nat) : Int) := by
 unfold ci
 rw [List.getElem?_map, List.getElem?_eq_getElem h, List.getD_eq_getElem?_getD, List.getElem?_eq_getElem h]
 rfl
theorem zFu {l : List Nat} {i : Nat} (h : i < l.length) : idx (ci l) (i : Int) = some ((l.getD i 0 : Nat) : Int) := by
 unfold idx
 rw [yA (by omega), cond_true, Int.toNat_natCast, ci_get h]
theorem zFH {l : List Nat} {n i : Nat} (h : i < l.length) (hn : l.length = n) : idxA n (ci l) (i : Int) = some ((l.getD i 0 : Nat) : Int) := by
 unfold idxA
 rw [if_pos ⟨by omega, by omega⟩, Int.toNat_natCast, ci_get h]
theorem getD_app {l r : List Nat} {i : Nat} (h : i < l.length) : (l ++ r).getD i 0 = l.getD i 0 := by
 rw [List.getD_eq_getElem?_getD, List.getD_eq_getElem?_getD, List.getElem?_append_left h]
def zEf (l : List Nat) : Prop := ∀ x ∈ l, x < 18446744073709551616
theorem zEf.get {l : List Nat} (h : zEf l) (i : Nat) : l.getD i 0 < 18446744073709551616 := by
 rw [List.getD_eq_getElem?_getD]
 cases hi : l[i]? with
 | none => decide
 | some x => exact h x (List.mem_of_getElem? hi)
theorem zEf.app {l : List Nat} (h : zEf l) {v : Nat} (hv : v < 18446744073709551616) : zEf (l ++ [v]) := fun x hx => by
 rcases List.mem_append.1 hx with hx | hx
 · exact h x hx
 · rw [List.mem_singleton.1 hx]; exact hv
def zFp (l : List Nat) : Nat :=
 let x := l.getD (l.length - 15) 0
 let y := l.getD (l.length - 2) 0
 ad (ad (ad (l.getD (l.length - 16) 0) (rotr x 1 ^^^ rotr x 8 ^^^ x / 2 ^ 7)) (l.getD (l.length - 7) 0)) (rotr y 19 ^^^ rotr y 61 ^^^ y / 2 ^ 6)
theorem zGi (l : List Nat) : zFp l < 18446744073709551616 := zEH _ _
def wext : Nat → List Nat → List Nat
 | 0, l => l
 | k + 1, l => wext k (l ++ [zFp l])
theorem wi_sub {a : Nat} (c : Nat) (h : c ≤ a) (ha : a < 1000000) : wi ((a : Int) - (c : Int)) = ((a - c : Nat) : Int) := by
 rw [show (a : Int) - (c : Int) = ((a - c : Nat) : Int) by omega, zBH (by omega)]
theorem set_ci (l : List Nat) (k v : Nat) : (ci (l ++ List.replicate (k + 1) 0)).set l.length (v : Int) = ci ((l ++ [v]) ++ List.replicate k 0) := by
 unfold ci
 rw [← List.map_set]
 congr 1
 rw [List.set_append_right _ _ (Nat.le_refl _), Nat.sub_self, List.replicate_succ, List.set_cons_zero]
 simp
theorem next_eq {x y u v : Nat} (hx : x < 18446744073709551616) (hy : y < 18446744073709551616) :
  (IntKind.u64.wrap ((IntKind.u64.wrap ((IntKind.u64.wrap ((u : Int) + (IntKind.u64.wrap ((((BitVec.ofInt IntKind.u64.bits (IntKind.u64.wrap ((((BitVec.ofInt IntKind.u64.bits ((rotr x 1 : Nat) : Int)) ^^^ (BitVec.ofInt IntKind.u64.bits ((rotr x 8 : Nat) : Int))).toNat : Nat) : Int))) ^^^ (BitVec.ofInt IntKind.u64.bits ((x / 2 ^ 7 : Nat) : Int))).toNat : Nat) : Int)))) + (v : Int))) + (IntKind.u64.wrap ((((BitVec.ofInt IntKind.u64.bits (IntKind.u64.wrap ((((BitVec.ofInt IntKind.u64.bits ((rotr y 19 : Nat) : Int)) ^^^ (BitVec.ofInt IntKind.u64.bits ((rotr y 61 : Nat) : Int))).toNat : Nat) : Int))) ^^^ (BitVec.ofInt IntKind.u64.bits ((y / 2 ^ 6 : Nat) : Int))).toNat : Nat) : Int)))) = ((ad (ad (ad u (rotr x 1 ^^^ rotr x 8 ^^^ x / 2 ^ 7)) v) (rotr y 19 ^^^ rotr y 61 ^^^ y / 2 ^ 6) : Nat) : Int) := by
 have h1 := zBB hx (a := 1) (by omega)
 have h2 := zBB hx (a := 8) (by omega)
 have h3 := zBB hy (a := 19) (by omega)
 have h4 := zBB hy (a := 61) (by omega)
 have h5 : x / 2 ^ 7 < 18446744073709551616 := Nat.lt_of_le_of_lt (Nat.div_le_self _ _) hx
 have h6 : y / 2 ^ 6 < 18446744073709551616 := Nat.lt_of_le_of_lt (Nat.div_le_self _ _) hy
 rw [zAz h1 h2, zAz (zCi h1 h2) h5, zAz h3 h4, zAz (zCi h3 h4) h6, qK, qK, qK]
theorem zGa (x n : Nat) : Int.fdiv (x : Int) (2 ^ n) = ((x / 2 ^ n : Nat) : Int) := by
 rw [Int.fdiv_eq_ediv_of_nonneg _ (by exact Int.natCast_nonneg (2 ^ n))]
 simp
theorem zFh : ∀ (k : Nat) (l : List Nat), zEf l → 16 ≤ l.length → l.length + k = 80 → ∀ fuel, k < fuel → qW fuel (l.length : Int) (ci (l ++ List.replicate k 0)) = some (ci (wext k l))
 | 0, l, hl, h16, h80, fuel + 1, hf => by
  unfold qW
  have h : l.length = 80 := by omega
  rw [qM (by omega), cond_false, List.replicate_zero, List.append_nil, show lenI (ci l).length 80 = some () by rw [zDx, h]; rfl, Option.bind_some]
  rfl
 | k + 1, l, hl, h16, h80, fuel + 1, hf => by
  unfold qW
  have hlen : (l ++ List.replicate (k + 1) 0).length = 80 := by simp; omega
  have g : ∀ c, 0 < c → c ≤ 16 → idxA 80 (ci (l ++ List.replicate (k + 1) 0)) (wi ((l.length : Int) - (c : Nat))) = some ((l.getD (l.length - c) 0 : Nat) : Int) := fun c h0 hc => by
   rw [wi_sub c (by omega) (by omega), zFH (by omega) hlen, getD_app (by omega)]
  have hx := hl.get (l.length - 15)
  have hy := hl.get (l.length - 2)
  rw [yA (by omega), cond_true]
  rw [show wi ((l.length : Int) - 15) = wi ((l.length : Int) - ((15 : Nat) : Int)) from rfl, g 15 (by omega) (by omega), Option.bind_some,
   show wi ((l.length : Int) - 2) = wi ((l.length : Int) - ((2 : Nat) : Int)) from rfl, g 2 (by omega) (by omega), Option.bind_some,
   show wi ((l.length : Int) - 16) = wi ((l.length : Int) - ((16 : Nat) : Int)) from rfl, g 16 (by omega) (by omega), Option.bind_some,
   n_rol1 hx, Option.bind_some, n_rol8 hx, Option.bind_some,
   show wi ((l.length : Int) - 7) = wi ((l.length : Int) - ((7 : Nat) : Int)) from rfl, g 7 (by omega) (by omega), Option.bind_some,
   n_rol19 hy, Option.bind_some, n_rol61 hy, Option.bind_some, zFH (by omega) hlen, Option.bind_some, zGa, zGa, next_eq hx hy, Int.toNat_natCast]
  show qW fuel (wi ((l.length : Int) + 1)) ((ci (l ++ List.replicate (k + 1) 0)).set l.length ((zFp l : Nat) : Int)) = _
  rw [set_ci, show (l.length : Int) + 1 = (((l ++ [zFp l]).length : Nat) : Int) by simp, zBH (by simp; omega)]
  exact zFh k (l ++ [zFp l]) (hl.app (zGi l)) (by simp; omega) (by simp; omega) fuel (by omega)
end Go.Proofs.YtmgafkpkpmjieaaDoor

/-
 The plain law of the sums: bytes as words, the highest byte first.
-/
namespace Go.Proofs.YtmgafkpkpmjieaaDoor
open Go Go.RowKit
set_option linter.unusedVariables false
def wdf (n : Nat) (c : UInt8) : Nat := n * 256 + c.toNat
def wd (b : List UInt8) : Nat := b.foldl wdf 0
theorem wd_lt (b : List UInt8) : ∀ n, b.foldl wdf n < (n + 1) * 256 ^ b.length := by
 induction b with
 | nil => intro n; simp
 | cons c b ih =>
  intro n
  refine Nat.lt_of_lt_of_le (ih (wdf n c)) ?_
  rw [List.length_cons, Nat.pow_succ, Nat.mul_comm (256 ^ b.length) 256, ← Nat.mul_assoc]
  refine Nat.mul_le_mul_right _ ?_
  have := c.toNat_lt
  unfold wdf
  omega
theorem wd_lt8 {b : List UInt8} (h : b.length ≤ 8) : wd b < 18446744073709551616 := by
 have h1 := wd_lt b 0
 have h2 : 256 ^ b.length ≤ 256 ^ 8 := Nat.pow_le_pow_right (by decide) h
 have h3 : (256 : Nat) ^ 8 = 18446744073709551616 := rfl
 unfold wd
 omega
theorem zGu (b : List UInt8) (c : UInt8) : wd (b ++ [c]) = wd b * 256 + c.toNat := by
 unfold wd
 rw [List.foldl_append]
 rfl
theorem zAE {b : List UInt8} {i : Nat} (h : i < b.length) : b.take (i + 1) = b.take i ++ [b[i]] := by
 rw [List.take_add_one, List.getElem?_eq_getElem h]
 rfl
theorem wd_lt7 {b : List UInt8} {i : Nat} (hi : i < 8) : wd (b.take i) < 72057594037927936 := by
 have h1 := wd_lt (b.take i) 0
 have h4 : (b.take i).length ≤ 7 := by rw [List.length_take]; omega
 have h2 : 256 ^ (b.take i).length ≤ 256 ^ 7 := Nat.pow_le_pow_right (by decide) h4
 have h3 : (256 : Nat) ^ 7 = 72057594037927936 := rfl
 unfold wd
 omega
theorem n_w4 (kl : List UInt8 → List Int → Option (List Int × Int)) (b : List UInt8) (z4 : List Int) (z3 : List UInt8) (hb : b.length ≤ 8) : ∀ (k i : Nat), i + k = b.length → ∀ fuel, k < fuel → yK kl b z4 z3 fuel ((wd (b.take i) : Nat) : Int) (i : Int) = zAZ kl z4 z3 ((wd b : Nat) : Int)
 | 0, i, hi, fuel + 1, hf => by
  unfold yK
  rw [qM (by omega), cond_false, List.take_of_length_le (by omega)]
 | k + 1, i, hi, fuel + 1, hf => by
  unfold yK
  have hlt : i < b.length := by omega
  rw [yA (by omega), cond_true, zCw hlt, Option.bind_some, get_step _ _ (wd_lt7 (by omega)) (b[i]).toNat_lt, ← zGu, ← zAE hlt, show (i : Int) + 1 = ((i + 1 : Nat) : Int) by omega, zBH (by omega)]
  exact n_w4 kl b z4 z3 hb k (i + 1) (by omega) fuel (by omega)
def wds : Nat → List UInt8 → List Nat
 | 0, _ => []
 | n + 1, b => wd (b.take 8) :: wds n (b.drop 8)
theorem zCU : ∀ (n : Nat) (b : List UInt8), (wds n b).length = n
 | 0, _ => rfl
 | n + 1, b => by rw [wds, List.length_cons, zCU n]
theorem wds_64 : ∀ (n : Nat) (b : List UInt8), zEf (wds n b)
 | 0, _ => fun x h => by cases h
 | n + 1, b => fun x h => by
  rcases List.mem_cons.1 h with rfl | h
  · exact wd_lt8 (by rw [List.length_take]; omega)
  · exact wds_64 n _ x h
theorem n_w2 : ∀ (n : Nat) (b : List UInt8) (acc : List Nat), b.length = 8 * n → acc.length + n ≤ 1000 → ∀ fuel, n < fuel → qJ fuel b (ci acc) = some (ci (acc ++ wds n b), 0)
 | 0, b, acc, hb, ha, fuel + 1, hf => by
  unfold qJ
  rw [qM (by omega), cond_false]
  unfold zBL
  simp [wds]
 | n + 1, b, acc, hb, ha, fuel + 1, hf => by
  unfold qJ
  have h8 : (b.take 8).length = 8 := by rw [List.length_take]; omega
  have hc : cutI b 0 8 = some (b.take 8) := by unfold cutI; rw [if_pos (by omega)]; rfl
  rw [yA (by omega), cond_true, hc, Option.bind_some]
  have h4 := n_w4 (qJ fuel) (b.take 8) (ci acc) b (by omega) 8 0 (by omega) ((b.take 8).length + 1) (by omega)
  rw [show ((wd ((b.take 8).take 0) : Nat) : Int) = 0 from rfl, show ((0 : Nat) : Int) = 0 from rfl] at h4
  rw [h4]
  unfold zAZ
  have ha2 : appI 8 (ci acc) [((wd (b.take 8) : Nat) : Int)] = some (ci (acc ++ [wd (b.take 8)])) := by
   unfold appI
   rw [zDx, if_pos (by simp only [List.length_cons, List.length_nil]; omega)]
   unfold ci
   rw [List.map_append]
   rfl
  have hd : cutI b 8 (b.length : Int) = some (b.drop 8) := by
   unfold cutI
   rw [if_pos (by omega), Int.toNat_natCast, List.take_length]
   rfl
  rw [ha2, Option.bind_some, hd, Option.bind_some, n_w2 n (b.drop 8) (acc ++ [wd (b.take 8)]) (by rw [List.length_drop]; omega) (by simp; omega) fuel (by omega)]
  simp [wds]
theorem n_words {n : Nat} {b : List UInt8} (hb : b.length = 8 * n) (hn : n ≤ 1000) : zBQ b = some (ci (wds n b), 0) := by
 unfold zBQ
 have h0 : (Int.tmod (b.length : Int) 8 != 0) = false := by
  rw [show Int.tmod (b.length : Int) 8 = ((b.length % 8 : Nat) : Int) from rfl, show b.length % 8 = 0 by omega]
  rfl
 rw [h0, cond_false]
 exact n_w2 n b [] hb (by simpa using hn) _ (by omega)
theorem zHR {p : List UInt8} (hp : p.length = 128) : zBO p = some (ci (wext 64 (wds 16 p))) := by
 unfold zBO
 rw [n_words (n := 16) (by omega) (by omega), Option.bind_some]
 have hc : cpyI (List.replicate 80 (0 : Int)) 0 80 (ci (wds 16 p)) = some (ci (wds 16 p ++ List.replicate 64 0)) := by
  unfold cpyI
  rw [if_pos (by simp)]
  congr 1
 rw [hc, Option.bind_some, show lenI (ci (wds 16 p ++ List.replicate 64 0)).length (List.replicate 80 (0 : Int)).length = some () by rw [zDx, List.length_append, zCU]; rfl, Option.bind_some]
 have h := zFh 64 (wds 16 p) (wds_64 16 p) (by rw [zCU]; omega) (by rw [zCU]) (Int.toNat 80 + 1) (by decide)
 rw [zCU] at h
 exact h
end Go.Proofs.YtmgafkpkpmjieaaDoor

/-
 The plain law of the sums: a round on eight numbers; a piece.
-/
namespace Go.Proofs.YtmgafkpkpmjieaaDoor
open Go Go.RowKit
set_option linter.unusedVariables false
set_option maxHeartbeats 1000000
def chN (e f g : Nat) : Nat := (e &&& f) ||| ((18446744073709551615 ^^^ e) &&& g)
def majN (a b c : Nat) : Nat := ((a &&& b) ||| (a &&& c)) ||| (b &&& c)
def oneN (e f g h k w : Nat) : Nat := ad (ad (ad (ad h (sg e 14 18 41)) (chN e f g)) k) w
def twoN (a b c : Nat) : Nat := ad (sg a 28 34 39) (majN a b c)
theorem notx {v : Nat} (hv : v < 18446744073709551616) : IntKind.u64.wrap ((((BitVec.ofInt IntKind.u64.bits 18446744073709551615) ^^^ (BitVec.ofInt IntKind.u64.bits (v : Int))).toNat : Nat) : Int) = ((18446744073709551615 ^^^ v : Nat) : Int) := zAz (a := 18446744073709551615) (by omega) hv
theorem notm {v : Nat} (hv : v < 18446744073709551616) : IntKind.u64.wrap (18446744073709551615 - (v : Int)) = ((18446744073709551615 - v : Nat) : Int) := by
 rw [show (18446744073709551615 : Int) - (v : Int) = ((18446744073709551615 - v : Nat) : Int) by omega, zAR (by omega)]
theorem one_p {e f g h k w : Nat} (he : e < 18446744073709551616) (hf : f < 18446744073709551616) (hg : g < 18446744073709551616) : (IntKind.u64.wrap ((IntKind.u64.wrap ((IntKind.u64.wrap ((IntKind.u64.wrap ((h : Int) + ((sg e 14 18 41 : Nat) : Int))) + (IntKind.u64.wrap ((((BitVec.ofInt IntKind.u64.bits (IntKind.u64.wrap ((((BitVec.ofInt IntKind.u64.bits (e : Int)) &&& (BitVec.ofInt IntKind.u64.bits (f : Int))).toNat : Nat) : Int))) ||| (BitVec.ofInt IntKind.u64.bits (IntKind.u64.wrap ((((BitVec.ofInt IntKind.u64.bits (IntKind.u64.wrap ((((BitVec.ofInt IntKind.u64.bits 18446744073709551615) ^^^ (BitVec.ofInt IntKind.u64.bits (e : Int))).toNat : Nat) : Int))) &&& (BitVec.ofInt IntKind.u64.bits (g : Int))).toNat : Nat) : Int)))).toNat : Nat) : Int)))) + (k : Int))) + (w : Int))) = ((oneN e f g h k w : Nat) : Int) := by
 have l1 : 18446744073709551615 ^^^ e < 18446744073709551616 := zCi (by decide) he
 rw [notx he, zCF he hf, zCF l1 hg, zG1 (zAM he) (zAM l1), qK, qK, qK, qK]
 rfl
theorem two_p {a b c : Nat} (ha : a < 18446744073709551616) (hb : b < 18446744073709551616) (hc : c < 18446744073709551616) : (IntKind.u64.wrap (((sg a 28 34 39 : Nat) : Int) + (IntKind.u64.wrap ((((BitVec.ofInt IntKind.u64.bits (IntKind.u64.wrap ((((BitVec.ofInt IntKind.u64.bits (IntKind.u64.wrap ((((BitVec.ofInt IntKind.u64.bits (a : Int)) &&& (BitVec.ofInt IntKind.u64.bits (b : Int))).toNat : Nat) : Int))) ||| (BitVec.ofInt IntKind.u64.bits (IntKind.u64.wrap ((((BitVec.ofInt IntKind.u64.bits (a : Int)) &&& (BitVec.ofInt IntKind.u64.bits (c : Int))).toNat : Nat) : Int)))).toNat : Nat) : Int))) ||| (BitVec.ofInt IntKind.u64.bits (IntKind.u64.wrap ((((BitVec.ofInt IntKind.u64.bits (b : Int)) &&& (BitVec.ofInt IntKind.u64.bits (c : Int))).toNat : Nat) : Int)))).toNat : Nat) : Int)))) = ((twoN a b c : Nat) : Int) := by
 rw [zCF ha hb, zCF ha hc, zCF hb hc, zG1 (zAM ha) (zAM ha), zG1 (or_lt64 (zAM ha) (zAM ha)) (zAM hb), qK]
 rfl
theorem one_r {e f g h k w : Nat} (he : e < 18446744073709551616) (hf : f < 18446744073709551616) (hg : g < 18446744073709551616) : (IntKind.u64.wrap ((IntKind.u64.wrap ((IntKind.u64.wrap ((IntKind.u64.wrap ((h : Int) + (IntKind.u64.wrap ((((BitVec.ofInt IntKind.u64.bits (IntKind.u64.wrap ((((BitVec.ofInt IntKind.u64.bits ((rotr e 14 : Nat) : Int)) ^^^ (BitVec.ofInt IntKind.u64.bits ((rotr e 18 : Nat) : Int))).toNat : Nat) : Int))) ^^^ (BitVec.ofInt IntKind.u64.bits ((rotr e 41 : Nat) : Int))).toNat : Nat) : Int)))) + (IntKind.u64.wrap ((((BitVec.ofInt IntKind.u64.bits (IntKind.u64.wrap ((((BitVec.ofInt IntKind.u64.bits (e : Int)) &&& (BitVec.ofInt IntKind.u64.bits (f : Int))).toNat : Nat) : Int))) ^^^ (BitVec.ofInt IntKind.u64.bits (IntKind.u64.wrap ((((BitVec.ofInt IntKind.u64.bits (IntKind.u64.wrap (18446744073709551615 - (e : Int)))) &&& (BitVec.ofInt IntKind.u64.bits (g : Int))).toNat : Nat) : Int)))).toNat : Nat) : Int)))) + (k : Int))) + (w : Int))) = ((oneN e f g h k w : Nat) : Int) := by
 have l1 : 18446744073709551615 - e < 18446744073709551616 := by omega
 have r1 := zBB he (a := 14) (by omega)
 have r2 := zBB he (a := 18) (by omega)
 have r3 := zBB he (a := 41) (by omega)
 rw [notm he, zCF he hf, zCF l1 hg, zAz (zAM he) (zAM l1), zAz r1 r2, zAz (zCi r1 r2) r3, qK, qK, qK, qK, ← ch_eq he]
 rfl
theorem two_r {a b c : Nat} (ha : a < 18446744073709551616) (hb : b < 18446744073709551616) (hc : c < 18446744073709551616) : (IntKind.u64.wrap ((IntKind.u64.wrap ((((BitVec.ofInt IntKind.u64.bits (IntKind.u64.wrap ((((BitVec.ofInt IntKind.u64.bits ((rotr a 28 : Nat) : Int)) ^^^ (BitVec.ofInt IntKind.u64.bits ((rotr a 34 : Nat) : Int))).toNat : Nat) : Int))) ^^^ (BitVec.ofInt IntKind.u64.bits ((rotr a 39 : Nat) : Int))).toNat : Nat) : Int)) + (IntKind.u64.wrap ((((BitVec.ofInt IntKind.u64.bits (IntKind.u64.wrap ((((BitVec.ofInt IntKind.u64.bits (IntKind.u64.wrap ((((BitVec.ofInt IntKind.u64.bits (a : Int)) &&& (BitVec.ofInt IntKind.u64.bits (b : Int))).toNat : Nat) : Int))) ^^^ (BitVec.ofInt IntKind.u64.bits (IntKind.u64.wrap ((((BitVec.ofInt IntKind.u64.bits (a : Int)) &&& (BitVec.ofInt IntKind.u64.bits (c : Int))).toNat : Nat) : Int)))).toNat : Nat) : Int))) ^^^ (BitVec.ofInt IntKind.u64.bits (IntKind.u64.wrap ((((BitVec.ofInt IntKind.u64.bits (b : Int)) &&& (BitVec.ofInt IntKind.u64.bits (c : Int))).toNat : Nat) : Int)))).toNat : Nat) : Int)))) = ((twoN a b c : Nat) : Int) := by
 have r1 := zBB ha (a := 28) (by omega)
 have r2 := zBB ha (a := 34) (by omega)
 have r3 := zBB ha (a := 39) (by omega)
 rw [zCF ha hb, zCF ha hc, zCF hb hc, zAz (zAM ha) (zAM ha), zAz (zCi (zAM ha) (zAM ha)) (zAM hb), zAz r1 r2, zAz (zCi r1 r2) r3, qK, ← maj_eq]
 rfl
attribute [local irreducible] ad oneN twoN
structure St8 where
 (a b c d e f g h : Nat)
def St8.l (s : St8) : List Nat := [s.a, s.b, s.c, s.d, s.e, s.f, s.g, s.h]
def rnd (s : St8) (k w : Nat) : St8 := ⟨ad (oneN s.e s.f s.g s.h k w) (twoN s.a s.b s.c), s.a, s.b, s.c, ad s.d (oneN s.e s.f s.g s.h k w), s.e, s.f, s.g⟩
def it {σ : Type} (f : Nat → σ → σ) : Nat → Nat → σ → σ
 | 0, _, s => s
 | k + 1, i, s => it f k (i + 1) (f i s)
theorem it_z {σ : Type} (f : Nat → σ → σ) (i : Nat) (s : σ) : it f 0 i s = s := rfl
theorem it_s {σ : Type} (f : Nat → σ → σ) (k i : Nat) (s : σ) : it f (k + 1) i s = it f k (i + 1) (f i s) := rfl
def rndA (ks ws : List Nat) (i : Nat) (s : St8) : St8 := rnd s (ks.getD i 0) (ws.getD i 0)
structure St8.Ok (s : St8) : Prop where
 a : s.a < 18446744073709551616
 b : s.b < 18446744073709551616
 c : s.c < 18446744073709551616
 d : s.d < 18446744073709551616
 e : s.e < 18446744073709551616
 f : s.f < 18446744073709551616
 g : s.g < 18446744073709551616
 h : s.h < 18446744073709551616
theorem St8.Ok.rnd {s : St8} (h : s.Ok) (k w : Nat) : (rnd s k w).Ok := ⟨zEH (oneN s.e s.f s.g s.h k w) (twoN s.a s.b s.c), h.a, h.b, h.c, zEH s.d (oneN s.e s.f s.g s.h k w), h.e, h.f, h.g⟩
theorem zGh {l : List Nat} {n : Nat} (h : l.length = n) : padA (0 : Int) (ci l) 0 n = ci l := zBv (by rw [zDx]; exact h)
theorem pad8 (a b c d e f g h : Int) : padA (0 : Int) [a, b, c, d, e, f, g, h] 0 8 = [a, b, c, d, e, f, g, h] := rfl
attribute [local irreducible] padA sg rotr
theorem zGc {ks ws : List Nat} (hk : ks.length = 80) (hw : ws.length = 80) (p0 : List Int) : ∀ (k i : Nat) (s : St8), s.Ok → i + k = 80 → ∀ fuel, k < fuel → zAK (ci ws) (ci ks) p0 fuel (i : Int) (ci s.l) = zBR p0 (ci (it (rndA ks ws) k i s).l)
 | 0, i, s, ho, hi, fuel + 1, hf => by
  unfold zAK
  rw [qM (by omega), cond_false, it_z]
 | k + 1, i, s, ho, hi, fuel + 1, hf => by
  unfold zAK
  rw [it_s]
  have e0 : idxA 8 (ci s.l) 0 = some (s.a : Int) := rfl
  have e1 : idxA 8 (ci s.l) 1 = some (s.b : Int) := rfl
  have e2 : idxA 8 (ci s.l) 2 = some (s.c : Int) := rfl
  have e3 : idxA 8 (ci s.l) 3 = some (s.d : Int) := rfl
  have e4 : idxA 8 (ci s.l) 4 = some (s.e : Int) := rfl
  have e5 : idxA 8 (ci s.l) 5 = some (s.f : Int) := rfl
  have e6 : idxA 8 (ci s.l) 6 = some (s.g : Int) := rfl
  have e7 : idxA 8 (ci s.l) 7 = some (s.h : Int) := rfl
  rw [yA (by omega), cond_true, zGh hw, zFH (by omega) hw, Option.bind_some, e0, Option.bind_some, e4, Option.bind_some, e7, Option.bind_some, n_turns1 ho.e, Option.bind_some, e5, Option.bind_some, e6, Option.bind_some, zGh hk, zFH (by omega) hk, Option.bind_some, n_turns2 ho.a, Option.bind_some, e1, Option.bind_some, e2, Option.bind_some, Option.bind_some, Option.bind_some, Option.bind_some, Option.bind_some, Option.bind_some, e3, Option.bind_some, Option.bind_some, Option.bind_some, Option.bind_some, show lenI (ci s.l).length 8 = some () from rfl, Option.bind_some, one_p ho.e ho.f ho.g, two_p ho.a ho.b ho.c, qK, qK, pad8, show (i : Int) + 1 = ((i + 1 : Nat) : Int) by omega, zBH (by omega)]
  exact zGc hk hw p0 k (i + 1) (rndA ks ws i s) (ho.rnd (ks.getD i 0) (ws.getD i 0)) (by omega) fuel (by omega)
end Go.Proofs.YtmgafkpkpmjieaaDoor
