/-
  Texts joined: see the remark at the head of each part.
-/
import Derived.Test.YtmgafkpkpmjieaaDoorM08
import Derived.Test.YtmgafkpkpmjieaaDoorM11
import Derived.Test.YtmgafkpkpmjieaaDoorM10
import Derived.Test.YtmgafkpkpmjieaaDoorM12
import Derived.Test.YtmgafkpkpmjieaaDoorM14
set_option linter.unusedVariables false
set_option linter.unusedSimpArgs false
/-
 Walks of functions: each function does what its model tells. Printed by a program of this claim's own (gen.py) off the given translation.
-/
namespace Go.Proofs.YtmgafkpkpmjieaaDoor
open Go Go.RowKit
set_option linter.unusedVariables false
set_option maxHeartbeats 4000000
set_option maxRecDepth 20000
theorem zFy (p0 : (List UInt8)) (p1 : Int) (w0 : Hp) (r : ((List zB) × Int)) (h : zCp p0 p1 = some r) : FCH Tryd.prog 12 [.t (.agg (ar cU8 (0 : UInt8) p0 0 32)), .t (.d (.lit (.int .i64 p1)))] [] [] (hpA w0) (hpA w0) (.tup [.d (.seq 17 (List.map zF r.1)), .d (.lit (.int .i64 r.2))]) := by
 refine zBM (rs := [.tmp 4, .tmp 5]) (n := 71) [] Tryd.func12 rfl rfl (Nat.le_of_ble_eq_true rfl) rfl (pins := []) rfl (L := [(HK, .hp (hpA w0)), (0, .t (.agg (ar cU8 (0 : UInt8) p0 0 32))), (1, .i p1)]) rfl (c_sr (o_s (.box (List.map T.d (ar cU8 (0 : UInt8) p0 0 32))) (g0 rfl) rfl rfl (by kernel_rfl) (o_m2 (.n) (.i 0) rfl (zA (c_sr (o_s (.t (.agg (ar cU8 (0 : UInt8) p0 0 32))) (g0 rfl) rfl rfl (by kernel_rfl) (o_1 (.i p1) rfl ?_)))))))
 refine bi h fun x1 h2 h => o_cH (zGO _ _ w0 _ h2) (g0 rfl) rfl (a2 (aR rfl) (aR rfl)) (r2 rfl) (o_m5 (.tup [.d (.seq 8 (List.map qW x1.1)), .i x1.2]) (.t (.d (.seq 8 (List.map qW x1.1)))) (.i x1.2) (.t (.d (.seq 8 (List.map qW x1.1)))) (.i x1.2) rfl (zA (zM (c_sr (o_m2 (.i x1.2) (.b (x1.2 != 0)) rfl (zA ?_))))))
 refine c_if h rfl (fun h3 h => c_sr (o_m3 (.i x1.2) (.n) (.i x1.2) rfl (zA (zH ?_)))) fun h3 h => zK (c_sr (o_1 (.n) rfl (zA ?_)))
 ·
  cases h
  exact ⟨⟨_, rfl, (.tup (.cons (.d (.nil _)) (.cons .r .nil)))⟩, trivial, rfl⟩
 refine zX r (fun (y4 : (List zB)) => [(8, .t (.own 46 17 (List.map zF y4))), (HK, .hp (hpA w0))]) (fun y4 => zCa y4) ?_ ?_
 ·
  refine c_sr (o_1 (.t (.d (.seq 8 (List.map qW x1.1)))) rfl (o_c (g0 rfl) rfl rfl rfl (lenE _ _) trivial (o_1 (.i 0) rfl (zA (zL (zA7 (fun (q : (List zB) × Int) => [(2, .box (List.map T.d (ar cU8 (0 : UInt8) p0 0 32))), (8, .t (.own 46 17 (List.map zF q.1))), (23, .t (.d (.seq 8 (List.map qW x1.1)))), (24, .i (x1.1.length : Int)), (25, .i q.2), (HK, .hp (hpA w0))]) (fun nl2 q => yS x1 p0 nl2 q.1 q.2) (x1.1.length + 1) ([], 0) [] h (fun _ => rfl) rfl trivial ⟨.r, (.t (.nilOwn _ _)), .r, .r, .r, .r, trivial⟩ rfl ?_))))))
  rintro nl2 ⟨z5, z6⟩ h
  refine c_sr (o_1 (.b (decide (z6 < (x1.1.length : Int)))) rfl (zA (zM (c_if h rfl (fun h7 h => zK (zM (zL (c_sr (o_1 (.i z6) rfl ?_))))) fun h7 h => qU ?_))))
  ·
   refine bi h fun x8 h9 h => o_c (g0 rfl) rfl rfl rfl (idxE h9) (idxC h9) (o_m3 (.t (.agg [.i x8.Kind, .s x8.User, .s x8.Folder, .s x8.Name, .s x8.Other, .i x8.Role, .i x8.Version, .y x8.Data])) (.box [.i 0, .s [], .s [], .s [], .s [], .i 0, .i 0, .n]) (.i z6) rfl (o_st (.box [.i x8.Kind, .s x8.User, .s x8.Folder, .s x8.Name, .s x8.Other, .i x8.Role, .i x8.Version, .y x8.Data]) (g0 rfl) rfl rfl rfl (zA (c_sr (o_s (.t (.agg (ar cU8 (0 : UInt8) p0 0 32))) (g0 rfl) rfl rfl (by kernel_rfl) (o_1 (.i z6) rfl ?_))))))
   refine bi h fun x10 h11 h => o_cH (zFe _ _ w0 _ h11) (g0 rfl) rfl (a2 (aR rfl) (aR rfl)) (r2 rfl) (o_s (.tup [.agg (ar cU8 (0 : UInt8) x10.1 0 32), .i x10.2]) (g0 rfl) rfl rfl (by kernel_rfl) (o_s (.t (.agg (ar cU8 (0 : UInt8) x10.1 0 32))) (g0 rfl) rfl rfl (by kernel_rfl) (o_1 (.i x10.2) rfl (o_s (.box (List.map T.d (ar cU8 (0 : UInt8) ([] : (List UInt8)) 0 32))) (g0 rfl) rfl rfl (by kernel_rfl) (o_st (b := 11) (.box (List.map T.d (ar cU8 (0 : UInt8) x10.1 0 32))) (g0 rfl) rfl rfl (by kernel_rfl) (o_1 (.i x10.2) rfl (zA (zM (c_sr ?_)))))))))
   refine o_m2 (.i x10.2) (.b (x10.2 != 0)) rfl (zA (c_if h rfl (fun h12 h => c_sr (o_m3 (.i x10.2) (.n) (.i x10.2) rfl (zA (zH ?_)))) fun h12 h => zK ?_))
   ·
    cases h
    exact ⟨⟨_, rfl, (.tup (.cons (.d (.nil _)) (.cons .r .nil)))⟩, trivial, rfl⟩
   refine zX r (fun (y13 : (List zB)) => [(2, .box (List.map T.d (ar cU8 (0 : UInt8) p0 0 32))), (8, .t (.own 46 17 (List.map zF y13))), (10, .box [.i x8.Kind, .s x8.User, .s x8.Folder, .s x8.Name, .s x8.Other, .i x8.Role, .i x8.Version, .y x8.Data]), (23, .t (.d (.seq 8 (List.map qW x1.1)))), (24, .i (x1.1.length : Int)), (25, .i z6), (HK, .hp (hpA w0))]) (fun y13 => zA2 (yS x1 p0 nl2) x8 z6 y13) ?_ ?_
   ·
    refine zM (c_fz (pins := _) 11 (.imm (ar cU8 (0 : UInt8) x10.1 0 32)) rfl rfl rfl (by kernel_rfl) (zG (bi h fun x16 h17 h => o_of (e := [(39, .imm [.lit (.int .u8 (x16.toNat : Int))])]) (g0 rfl) (zBK mR rfl rfl rfl rfl rfl rfl (qJ h17) (yJ h17 (fun _ => rfl) rfl) rfl rfl) rfl (o_m2 (.t (.d (.lit (.int .u8 (x16.toNat : Int))))) (.b (decide ((x16.toNat : Int) < 64))) rfl (zA (c_if h rfl (fun h18 h => zM (zBN zC8 (by kernel_rfl) ?_)) fun h18 h => zK ?_))))))
    ·
     refine bi h fun x19 h20 h => d_h0 [] (e := [(42, .imm [.lit (.int .u8 (x19.toNat : Int))])]) (ks := [42]) rfl (dg0 rfl) rfl rfl (fun S' hM hok => zBK hM rfl rfl rfl rfl rfl rfl (qJ h20) (yJ h20 (fun _ => rfl) rfl) rfl (hok _ rfl rfl)) rfl (d_1 (.t (.d (.lit (.int .u8 (x19.toNat : Int))))) rfl rfl (d_c rfl (dg0 rfl) rfl rfl rfl rfl (congrArg (fun z => A.i z) (zBL _)) trivial (bi h fun x21 h22 h => d_h0 [] (e := [(45, .imm [.lit (.int .u8 (x21.toNat : Int))])]) (ks := [45]) rfl (dg0 rfl) rfl rfl (fun S' hM hok => zBK hM rfl rfl rfl rfl rfl rfl (qJ h22) (yJ h22 (fun _ => rfl) rfl) rfl (hok _ rfl rfl)) rfl (d_1 (.t (.d (.lit (.int .u8 (x21.toNat : Int))))) rfl rfl (d_c rfl (dg0 rfl) rfl rfl rfl rfl (congrArg (fun z => A.i z) (zBL _)) trivial (d_1 (.i (wi ((x19.toNat : Int) + (x21.toNat : Int)))) rfl rfl (d_b0 (.t (.own 5 1 (zD []))) rfl (dg0 rfl) rfl rfl rfl rfl rfl rfl ?_)))))))
     refine bi h fun x23 h24 h => d_h0 [] (e := [(50, .y x23)]) (ks := [50]) rfl (dg0 rfl) rfl rfl (fun S' hM hok => zFF (c := cU8) (z := (0 : UInt8)) hM rfl rfl (fun _ => rfl) rfl rfl rfl rfl rfl rfl rfl rfl h24 rfl (hok _ rfl rfl)) rfl (bi h fun x25 h26 h => d_2c rfl (dg0 rfl) rfl rfl rfl rfl rfl (appE (c := cU8) h26) (appC (c := cU8) h26) (bi h fun x27 h28 h => d_h0 [] (e := [(52, .imm [.lit (.int .u8 (x27.toNat : Int))])]) (ks := [52]) rfl (dg0 rfl) rfl rfl (fun S' hM hok => zBK hM rfl rfl rfl rfl rfl rfl (qJ h28) (yJ h28 (fun _ => rfl) rfl) rfl (hok _ rfl rfl)) rfl (d_1 (.t (.d (.lit (.int .u8 (x27.toNat : Int))))) rfl rfl (d_c rfl (dg0 rfl) rfl rfl rfl rfl (congrArg (fun z => A.i z) (zBL _)) trivial (d_b0 (.t (.own 5 1 (zD []))) rfl (dg0 rfl) rfl rfl rfl rfl rfl rfl ?_)))))
     refine bi h fun x29 h30 h => d_h0 [] (e := [(56, .y x29)]) (ks := [56]) rfl (dg0 rfl) rfl rfl (fun S' hM hok => zFF (c := cU8) (z := (0 : UInt8)) hM rfl rfl (fun _ => rfl) rfl rfl rfl rfl rfl rfl rfl rfl h30 rfl (hok _ rfl rfl)) rfl (bi h fun x31 h32 h => d_2c rfl (dg0 rfl) rfl rfl rfl rfl rfl (appE (c := cU8) h32) (appC (c := cU8) h32) (d_1 (.t (.agg [.i (wi ((x19.toNat : Int) + (x21.toNat : Int))), .y x25, .i (x27.toNat : Int), .y x31])) rfl rfl (d_1 (.box [.i 0, .n, .i 0, .n]) rfl rfl (d_st (.box [.i (wi ((x19.toNat : Int) + (x21.toNat : Int))), .y x25, .i (x27.toNat : Int), .y x31]) rfl (dg0 rfl) rfl rfl rfl rfl (zCi (by kernel_rfl) (zG (o_2 (.t (.d (.seq 17 (List.map zF z5)))) (.t (.own 46 17 (List.map zF z5))) (g0 rfl) rfl rfl rfl (o_1 (.t (.agg [.i (wi ((x19.toNat : Int) + (x21.toNat : Int))), .y x25, .i (x27.toNat : Int), .y x31])) rfl ?_))))))))
     refine o_s (.t (.agg [.i 4, .i 0, .s [], .s [], .s [], .s [], .i 0, .i 0, .n, .i 0, .i (wi ((x19.toNat : Int) + (x21.toNat : Int))), .y x25, .i (x27.toNat : Int), .y x31, .s [], .s [], .n])) (g0 rfl) rfl rfl (by kernel_rfl) (o_w (.t (.own 46 17 (List.map zF [(zB.mk 4 (zC.mk 0 [] [] [] [] 0 0 []) 0 (zQ.mk (wi ((x19.toNat : Int) + (x21.toNat : Int))) x25 (x27.toNat : Int) x31) [] [] [])]))) (g0 rfl) rfl rfl rfl (.t (.rows _ _ (.cons (.cons .r (.cons .r (.cons .r (.cons .r (.cons .r (.cons .r (.cons .r (.cons .r (.cons (.nil _) (.cons .r (.cons .r (.cons .r (.cons .r (.cons .r (.cons .r (.cons .r (.cons (.nil _) .nil))))))))))))))))) .nil) rfl)) (fun e => nomatch e) (bi h fun x33 h34 h => o_2c (g0 rfl) rfl rfl rfl (appE (c := zF) h34) (appC (c := zF) h34) (o_2 (.t (.d (.seq 17 (List.map zF x33)))) (.t (.own 46 17 (List.map zF x33))) (g0 rfl) rfl rfl rfl (zA ?_))))
     exact lE x33 h rfl rfl
    exact lE z5 h rfl rfl
   rintro y13 h
   refine zG (o_2 (.t (.d (.seq 17 (List.map zF y13)))) (.t (.own 46 17 (List.map zF y13))) (g0 rfl) rfl rfl rfl (o_1 (.t (.agg [.i x8.Kind, .s x8.User, .s x8.Folder, .s x8.Name, .s x8.Other, .i x8.Role, .i x8.Version, .y x8.Data])) rfl (o_s (.t (.agg [.i 1, .i x8.Kind, .s x8.User, .s x8.Folder, .s x8.Name, .s x8.Other, .i x8.Role, .i x8.Version, .y x8.Data, .i 0, .i 0, .n, .i 0, .n, .s [], .s [], .n])) (g0 rfl) rfl rfl (by kernel_rfl) (o_w (.t (.own 46 17 (List.map zF [(zB.mk 1 x8 0 (zQ.mk 0 [] 0 []) [] [] [])]))) (g0 rfl) rfl rfl rfl (.t (.rows _ _ (.cons (.cons .r (.cons .r (.cons .r (.cons .r (.cons .r (.cons .r (.cons .r (.cons .r (.cons .r (.cons .r (.cons .r (.cons (.nil _) (.cons .r (.cons (.nil _) (.cons .r (.cons .r (.cons (.nil _) .nil))))))))))))))))) .nil) rfl)) (fun e => nomatch e) ?_))))
   refine bi h fun x14 h15 h => o_2c (g0 rfl) rfl rfl rfl (appE (c := zF) h15) (appC (c := zF) h15) (o_2 (.t (.d (.seq 17 (List.map zF x14)))) (.t (.own 46 17 (List.map zF x14))) (g0 rfl) rfl rfl rfl (zA (zG (o_m2 (.i (wi (z6 + 1))) (.i (wi (z6 + 1))) rfl (zA ?_)))))
   exact lE (x14, (wi (z6 + 1))) h rfl rfl
  exact lE z5 h rfl rfl
 rintro y4 h
 refine c_sr (o_2 (.t (.d (.seq 17 (List.map zF y4)))) (.t (.own 46 17 (List.map zF y4))) (g0 rfl) rfl rfl rfl (o_2 (.t (.d (.seq 17 (List.map zF y4)))) (.t (.own 46 17 (List.map zF y4))) (g0 rfl) rfl rfl rfl (o_1 (.i 0) rfl (zA (zH ?_)))))
 cases h; exact eR rfl rfl
end Go.Proofs.YtmgafkpkpmjieaaDoor

/-
 Walks of functions: each function does what its model tells. Printed by a program of this claim's own (gen.py) off the given translation.
-/
namespace Go.Proofs.YtmgafkpkpmjieaaDoor
open Go Go.RowKit
set_option linter.unusedVariables false
set_option maxHeartbeats 4000000
set_option maxRecDepth 20000
theorem zFu (p0 : (List UInt8)) (p1 : Int) (w0 : Hp) (r : (List zB)) (h : zCx p0 p1 = some r) : FCH Tryd.prog 13 [.t (.agg (ar cU8 (0 : UInt8) p0 0 32)), .t (.d (.lit (.int .i64 p1)))] [] [] (hpA w0) (hpA w0) (.t (.own 46 17 (List.map zF r))) := by
 refine zBM (rs := [.tmp 4]) (n := 60) [] Tryd.func13 rfl rfl (Nat.le_of_ble_eq_true rfl) rfl (pins := []) rfl (L := [(HK, .hp (hpA w0)), (0, .t (.agg (ar cU8 (0 : UInt8) p0 0 32))), (1, .i p1)]) rfl (c_sr (o_s (.box (List.map T.d (ar cU8 (0 : UInt8) p0 0 32))) (g0 rfl) rfl rfl (by kernel_rfl) (o_1 (.n) rfl (zA (c_sr (o_1 (.n) rfl (zA (zM (c_sr ?_)))))))))
 refine o_1 (.i 0) rfl (zA (zL (zA7 (fun (q : (List zB) × Int) => [(1, .i p1), (2, .box (List.map T.d (ar cU8 (0 : UInt8) p0 0 32))), (5, .t (.own 46 17 (List.map zF q.1))), (6, .i q.2), (HK, .hp (hpA w0))]) (fun nl1 q => yU p1 p0 nl1 q.1 q.2) (Int.toNat p1 + 1) ([], 0) [] h (fun _ => rfl) rfl trivial ⟨.r, .r, (.t (.nilOwn _ _)), .r, .r, trivial⟩ rfl ?_)))
 rintro nl1 ⟨z1, z2⟩ h
 refine zM (c_sr (o_m3 (.i z2) (.i p1) (.b (decide (z2 < p1))) rfl (zA ?_)))
 refine c_if h rfl (fun h3 h => zK (zM (zL (c_sr (o_s (.t (.agg (ar cU8 (0 : UInt8) p0 0 32))) (g0 rfl) rfl rfl (by kernel_rfl) (o_1 (.i z2) rfl ?_)))))) fun h3 h => qU (c_sr (o_2 (.t (.d (.seq 17 (List.map zF z1)))) (.t (.own 46 17 (List.map zF z1))) (g0 rfl) rfl rfl rfl (o_2 (.t (.d (.seq 17 (List.map zF z1)))) (.t (.own 46 17 (List.map zF z1))) (g0 rfl) rfl rfl rfl (zA (zH ?_)))))
 ·
  refine bi h fun x4 h5 h => o_cH (zFf _ _ w0 _ h5) (g0 rfl) rfl (a2 (aR rfl) (aR rfl)) (r1 rfl) (o_s (.box (List.map T.d (ar cU8 (0 : UInt8) ([] : (List UInt8)) 0 32))) (g0 rfl) rfl rfl (by kernel_rfl) (o_st (b := 7) (.box (List.map T.d (ar cU8 (0 : UInt8) x4 0 32))) (g0 rfl) rfl rfl (by kernel_rfl) (zA (zX r (fun (y6 : (List zB)) => [(1, .i p1), (2, .box (List.map T.d (ar cU8 (0 : UInt8) p0 0 32))), (5, .t (.own 46 17 (List.map zF y6))), (6, .i z2), (HK, .hp (hpA w0))]) (fun y6 => zA1 (yU p1 p0 nl1) p0 z2 y6) ?_ ?_))))
  ·
   refine zM (c_fz (pins := _) 7 (.imm (ar cU8 (0 : UInt8) x4 0 32)) rfl rfl rfl (by kernel_rfl) (zG (bi h fun x11 h12 h => o_of (e := [(17, .imm [.lit (.int .u8 (x11.toNat : Int))])]) (g0 rfl) (zBK mR rfl rfl rfl rfl rfl rfl (qJ h12) (yJ h12 (fun _ => rfl) rfl) rfl rfl) rfl (o_m2 (.t (.d (.lit (.int .u8 (x11.toNat : Int))))) (.b (decide ((x11.toNat : Int) < 64))) rfl (zA (c_if h rfl (fun h13 h => c_sr ?_) fun h13 h => zK ?_))))))
   ·
    refine bi h fun x14 h15 h => o_of (e := [(20, .imm [.lit (.int .u8 (x14.toNat : Int))])]) (g0 rfl) (zBK mR rfl rfl rfl rfl rfl rfl (qJ h15) (yJ h15 (fun _ => rfl) rfl) rfl rfl) rfl (o_1 (.t (.d (.lit (.int .u8 (x14.toNat : Int))))) rfl (o_c (g0 rfl) rfl rfl rfl (congrArg (fun z => A.i z) (zBL _)) trivial (bi h fun x16 h17 h => o_of (e := [(23, .imm [.lit (.int .u8 (x16.toNat : Int))])]) (g0 rfl) (zBK mR rfl rfl rfl rfl rfl rfl (qJ h17) (yJ h17 (fun _ => rfl) rfl) rfl rfl) rfl (o_1 (.t (.d (.lit (.int .u8 (x16.toNat : Int))))) rfl (o_c (g0 rfl) rfl rfl rfl (congrArg (fun z => A.i z) (zBL _)) trivial (o_1 (.i (wi ((x14.toNat : Int) + (x16.toNat : Int)))) rfl ?_))))))
    refine bi h fun x18 h19 h => o_of (e := [(27, .imm [.lit (.int .u8 (x18.toNat : Int))])]) (g0 rfl) (zBK mR rfl rfl rfl rfl rfl rfl (qJ h19) (yJ h19 (fun _ => rfl) rfl) rfl rfl) rfl (o_1 (.t (.d (.lit (.int .u8 (x18.toNat : Int))))) rfl (bi h fun x20 h21 h => o_of (e := [(29, .imm [.lit (.int .u8 (x20.toNat : Int))])]) (g0 rfl) (zBK mR rfl rfl rfl rfl rfl rfl (qJ h21) (yJ h21 (fun _ => rfl) rfl) rfl rfl) rfl (o_1 (.t (.d (.lit (.int .u8 (x20.toNat : Int))))) rfl (bi h fun x22 h23 h => o_of (e := [(31, .imm [.lit (.int .u8 (x22.toNat : Int))])]) (g0 rfl) (zBK mR rfl rfl rfl rfl rfl rfl (qJ h23) (yJ h23 (fun _ => rfl) rfl) rfl rfl) rfl (o_1 (.t (.d (.lit (.int .u8 (x22.toNat : Int))))) rfl ?_)))))
    refine bi h fun x24 h25 h => o_of (e := [(33, .imm [.lit (.int .u8 (x24.toNat : Int))])]) (g0 rfl) (zBK mR rfl rfl rfl rfl rfl rfl (qJ h25) (yJ h25 (fun _ => rfl) rfl) rfl rfl) rfl (o_1 (.t (.d (.lit (.int .u8 (x24.toNat : Int))))) rfl (bi h fun x26 h27 h => o_of (e := [(35, .imm [.lit (.int .u8 (x26.toNat : Int))])]) (g0 rfl) (zBK mR rfl rfl rfl rfl rfl rfl (qJ h27) (yJ h27 (fun _ => rfl) rfl) rfl rfl) rfl (o_m2 (.t (.d (.lit (.int .u8 (x26.toNat : Int))))) (.t (.own 5 1 (zD [x18, x20, x22, x24, x26]))) rfl (bi h fun x28 h29 h => o_of (e := [(38, .imm [.lit (.int .u8 (x28.toNat : Int))])]) (g0 rfl) (zBK mR rfl rfl rfl rfl rfl rfl (qJ h29) (yJ h29 (fun _ => rfl) rfl) rfl rfl) rfl (o_1 (.t (.d (.lit (.int .u8 (x28.toNat : Int))))) rfl (o_c (g0 rfl) rfl rfl rfl (congrArg (fun z => A.i z) (zBL _)) trivial ?_))))))
    refine bi h fun x30 h31 h => o_of (e := [(41, .imm [.lit (.int .u8 (x30.toNat : Int))])]) (g0 rfl) (zBK mR rfl rfl rfl rfl rfl rfl (qJ h31) (yJ h31 (fun _ => rfl) rfl) rfl rfl) rfl (o_1 (.t (.d (.lit (.int .u8 (x30.toNat : Int))))) rfl ?_)
    refine bi h fun x32 h33 h => o_of (e := [(43, .imm [.lit (.int .u8 (x32.toNat : Int))])]) (g0 rfl) (zBK mR rfl rfl rfl rfl rfl rfl (qJ h33) (yJ h33 (fun _ => rfl) rfl) rfl rfl) rfl (o_m4 (.t (.d (.lit (.int .u8 (x32.toNat : Int))))) (.t (.own 5 1 (zD [x30, x32]))) (.t (.agg [.i (wi ((x14.toNat : Int) + (x16.toNat : Int))), .y [x18, x20, x22, x24, x26], .i (x28.toNat : Int), .y [x30, x32]])) (.box [.i 0, .n, .i 0, .n]) rfl (o_st (.box [.i (wi ((x14.toNat : Int) + (x16.toNat : Int))), .y [x18, x20, x22, x24, x26], .i (x28.toNat : Int), .y [x30, x32]]) (g0 rfl) rfl rfl rfl (zA (zG (o_2 (.t (.d (.seq 17 (List.map zF z1)))) (.t (.own 46 17 (List.map zF z1))) (g0 rfl) rfl rfl rfl (o_1 (.t (.agg [.i (wi ((x14.toNat : Int) + (x16.toNat : Int))), .y [x18, x20, x22, x24, x26], .i (x28.toNat : Int), .y [x30, x32]])) rfl (o_s (.t (.agg [.i 4, .i 0, .s [], .s [], .s [], .s [], .i 0, .i 0, .n, .i 0, .i (wi ((x14.toNat : Int) + (x16.toNat : Int))), .y [x18, x20, x22, x24, x26], .i (x28.toNat : Int), .y [x30, x32], .s [], .s [], .n])) (g0 rfl) rfl rfl (by kernel_rfl) ?_)))))))
    refine o_w (.t (.own 46 17 (List.map zF [(zB.mk 4 (zC.mk 0 [] [] [] [] 0 0 []) 0 (zQ.mk (wi ((x14.toNat : Int) + (x16.toNat : Int))) [x18, x20, x22, x24, x26] (x28.toNat : Int) [x30, x32]) [] [] [])]))) (g0 rfl) rfl rfl rfl (.t (.rows _ _ (.cons (.cons .r (.cons .r (.cons .r (.cons .r (.cons .r (.cons .r (.cons .r (.cons .r (.cons (.nil _) (.cons .r (.cons .r (.cons .r (.cons .r (.cons .r (.cons .r (.cons .r (.cons (.nil _) .nil))))))))))))))))) .nil) rfl)) (fun e => nomatch e) (bi h fun x34 h35 h => o_2c (g0 rfl) rfl rfl rfl (appE (c := zF) h35) (appC (c := zF) h35) (o_2 (.t (.d (.seq 17 (List.map zF x34)))) (.t (.own 46 17 (List.map zF x34))) (g0 rfl) rfl rfl rfl (zA ?_)))
    exact lE x34 h rfl rfl
   exact lE z1 h rfl rfl
  rintro y6 h
  refine zG (o_2 (.t (.d (.seq 17 (List.map zF y6)))) (.t (.own 46 17 (List.map zF y6))) (g0 rfl) rfl rfl rfl (o_s (.t (.agg (ar cU8 (0 : UInt8) p0 0 32))) (g0 rfl) rfl rfl (by kernel_rfl) (o_1 (.i z2) rfl (bi h fun x7 h8 h => o_cH (zHL _ _ w0 _ h8) (g0 rfl) rfl (a2 (aR rfl) (aR rfl)) (r1 rfl) (o_s (.t (.agg [.i 1, .i x7.Kind, .s x7.User, .s x7.Folder, .s x7.Name, .s x7.Other, .i x7.Role, .i x7.Version, .y x7.Data, .i 0, .i 0, .n, .i 0, .n, .s [], .s [], .n])) (g0 rfl) rfl rfl (by kernel_rfl) (o_w (.t (.own 46 17 (List.map zF [(zB.mk 1 x7 0 (zQ.mk 0 [] 0 []) [] [] [])]))) (g0 rfl) rfl rfl rfl (.t (.rows _ _ (.cons (.cons .r (.cons .r (.cons .r (.cons .r (.cons .r (.cons .r (.cons .r (.cons .r (.cons .r (.cons .r (.cons .r (.cons (.nil _) (.cons .r (.cons (.nil _) (.cons .r (.cons .r (.cons (.nil _) .nil))))))))))))))))) .nil) rfl)) (fun e => nomatch e) ?_))))))
  refine bi h fun x9 h10 h => o_2c (g0 rfl) rfl rfl rfl (appE (c := zF) h10) (appC (c := zF) h10) (o_2 (.t (.d (.seq 17 (List.map zF x9)))) (.t (.own 46 17 (List.map zF x9))) (g0 rfl) rfl rfl rfl (zA (zG (o_m3 (.i z2) (.i (wi (z2 + 1))) (.i (wi (z2 + 1))) rfl (zA ?_)))))
  exact lE (x9, (wi (z2 + 1))) h rfl rfl
 cases h; exact eR rfl rfl
theorem zFH (p0 : zB) (p1 : zB) (r : Bool) (h : zA6 p0 p1 = some r) : FC Tryd.prog 14 [.t (.agg [.lit (.int .i64 p0.Kind), .lit (.int .i64 p0.C.Kind), .lit (.string ⟨⟨p0.C.User⟩⟩), .lit (.string ⟨⟨p0.C.Folder⟩⟩), .lit (.string ⟨⟨p0.C.Name⟩⟩), .lit (.string ⟨⟨p0.C.Other⟩⟩), .lit (.int .i64 p0.C.Role), .lit (.int .i64 p0.C.Version), .seq 1 (zD p0.C.Data), .lit (.int .i64 p0.At), .lit (.int .i64 p0.O.Fuse), .seq 1 (zD p0.O.Choices), .lit (.int .i64 p0.O.Again), .seq 1 (zD p0.O.More), .lit (.string ⟨⟨p0.Key⟩⟩), .lit (.string ⟨⟨p0.With⟩⟩), .seq 1 (zD p0.B)]), .t (.agg [.lit (.int .i64 p1.Kind), .lit (.int .i64 p1.C.Kind), .lit (.string ⟨⟨p1.C.User⟩⟩), .lit (.string ⟨⟨p1.C.Folder⟩⟩), .lit (.string ⟨⟨p1.C.Name⟩⟩), .lit (.string ⟨⟨p1.C.Other⟩⟩), .lit (.int .i64 p1.C.Role), .lit (.int .i64 p1.C.Version), .seq 1 (zD p1.C.Data), .lit (.int .i64 p1.At), .lit (.int .i64 p1.O.Fuse), .seq 1 (zD p1.O.Choices), .lit (.int .i64 p1.O.Again), .seq 1 (zD p1.O.More), .lit (.string ⟨⟨p1.Key⟩⟩), .lit (.string ⟨⟨p1.With⟩⟩), .seq 1 (zD p1.B)])] [] (.t (.d (.lit (.bool r)))) := by
 refine zAO (rs := [.tmp 4]) (n := 81) Tryd.func14 rfl rfl (Nat.le_of_ble_eq_true rfl) rfl (pins := []) rfl (L := [(0, .t (.agg [.i p0.Kind, .i p0.C.Kind, .s p0.C.User, .s p0.C.Folder, .s p0.C.Name, .s p0.C.Other, .i p0.C.Role, .i p0.C.Version, .y p0.C.Data, .i p0.At, .i p0.O.Fuse, .y p0.O.Choices, .i p0.O.Again, .y p0.O.More, .s p0.Key, .s p0.With, .y p0.B])), (1, .t (.agg [.i p1.Kind, .i p1.C.Kind, .s p1.C.User, .s p1.C.Folder, .s p1.C.Name, .s p1.C.Other, .i p1.C.Role, .i p1.C.Version, .y p1.C.Data, .i p1.At, .i p1.O.Fuse, .y p1.O.Choices, .i p1.O.Again, .y p1.O.More, .s p1.Key, .s p1.With, .y p1.B]))]) rfl (c_sr (o_m3 (.box [.i p0.Kind, .i p0.C.Kind, .s p0.C.User, .s p0.C.Folder, .s p0.C.Name, .s p0.C.Other, .i p0.C.Role, .i p0.C.Version, .y p0.C.Data, .i p0.At, .i p0.O.Fuse, .y p0.O.Choices, .i p0.O.Again, .y p0.O.More, .s p0.Key, .s p0.With, .y p0.B]) (.box [.i p1.Kind, .i p1.C.Kind, .s p1.C.User, .s p1.C.Folder, .s p1.C.Name, .s p1.C.Other, .i p1.C.Role, .i p1.C.Version, .y p1.C.Data, .i p1.At, .i p1.O.Fuse, .y p1.O.Choices, .i p1.O.Again, .y p1.O.More, .s p1.Key, .s p1.With, .y p1.B]) (.b false) rfl (zA (zM (c_sr (o_m6 (.ref 2 0) (.i p0.Kind) (.ref 3 0) (.i p1.Kind) (.b (p0.Kind != p1.Kind)) (.b (p0.Kind != p1.Kind)) rfl ?_))))))
 rcases zE h with ⟨h1, h⟩ | ⟨h1, h⟩
 ·
  refine o_k4 rfl h1 (o_k2 rfl h1 (o_pT (.b true) h1 rfl (o_1 (.b true) rfl (o_k4 rfl rfl (o_k1 rfl rfl (o_pT (.b true) rfl rfl (o_1 (.b true) rfl (o_k4 rfl rfl (o_k1 rfl rfl (o_pT (.b true) rfl rfl ?_))))))))))
  refine o_1 (.b true) rfl (o_k4 rfl rfl (o_k1 rfl rfl (o_pT (.b true) rfl rfl (o_1 (.b true) rfl (o_k4 rfl rfl (o_k1 rfl rfl ?_))))))
  refine o_k1 rfl rfl (o_pT (.b true) rfl rfl (zA (c_t rfl rfl (c_sr (o_1 (.b false) rfl (zA (zH ?_)))))))
  cases h
  exact end0 rfl .r
 refine o_s (.ref 2 1) (gy rfl rfl rfl h1) rfl rfl rfl (o_s (.t (.agg [.i p0.C.Kind, .s p0.C.User, .s p0.C.Folder, .s p0.C.Name, .s p0.C.Other, .i p0.C.Role, .i p0.C.Version, .y p0.C.Data])) (gy rfl rfl rfl h1) rfl rfl rfl (o_s (.ref 3 1) (gy rfl rfl rfl h1) rfl rfl rfl (o_s (.t (.agg [.i p1.C.Kind, .s p1.C.User, .s p1.C.Folder, .s p1.C.Name, .s p1.C.Other, .i p1.C.Role, .i p1.C.Version, .y p1.C.Data])) (gy rfl rfl rfl h1) rfl rfl rfl (bi h fun x2 h3 h => o_cA (zEW _ _ _ h3) (gy rfl rfl rfl h1) rfl (.cons .r (.cons .r .nil)) rfl (o_s (.b (!x2)) (gy rfl rfl rfl h1) rfl rfl rfl (o_pF (.b (!x2)) h1 rfl (o_1 (.b (!x2)) rfl ?_)))))))
 rcases zE h with ⟨h4, h⟩ | ⟨h4, h⟩
 ·
  refine o_k4 rfl h4 (o_k1 rfl h4 (o_pT (.b true) h4 rfl (o_1 (.b true) rfl (o_k4 rfl rfl (o_k1 rfl rfl (o_pT (.b true) rfl rfl (o_1 (.b true) rfl (o_k4 rfl rfl (o_k1 rfl rfl (o_pT (.b true) rfl rfl ?_))))))))))
  refine o_1 (.b true) rfl (o_k4 rfl rfl (o_k2 rfl rfl (o_pT (.b true) rfl rfl (zA (c_t rfl rfl (c_sr (o_1 (.b false) rfl (zA (zH ?_)))))))))
  cases h
  exact end0 rfl .r
 refine o_s (.ref 2 9) (gy rfl rfl rfl h4) rfl rfl rfl (o_s (.i p0.At) (gy rfl rfl rfl h4) rfl rfl rfl (o_s (.ref 3 9) (gy rfl rfl rfl h4) rfl rfl rfl (o_s (.i p1.At) (gy rfl rfl rfl h4) rfl rfl rfl (o_s (.b (p0.At != p1.At)) (gy rfl rfl rfl h4) rfl rfl rfl (o_pF (.b (p0.At != p1.At)) h4 rfl (o_1 (.b (p0.At != p1.At)) rfl ?_))))))
 rcases zE h with ⟨h5, h⟩ | ⟨h5, h⟩
 ·
  refine o_k4 rfl h5 (o_k1 rfl h5 (o_pT (.b true) h5 rfl (o_1 (.b true) rfl (o_k4 rfl rfl (o_k1 rfl rfl (o_pT (.b true) rfl rfl (o_1 (.b true) rfl (o_k4 rfl rfl (o_k2 rfl rfl ?_)))))))))
  refine o_pT (.b true) rfl rfl (zA (c_t rfl rfl (c_sr (o_1 (.b false) rfl (zA (zH ?_))))))
  cases h
  exact end0 rfl .r
 refine o_s (.ref 2 14) (gy rfl rfl rfl h5) rfl rfl rfl (o_s (.s p0.Key) (gy rfl rfl rfl h5) rfl rfl rfl (o_s (.ref 3 14) (gy rfl rfl rfl h5) rfl rfl rfl (o_s (.s p1.Key) (gy rfl rfl rfl h5) rfl rfl rfl (o_c (gy rfl rfl rfl h5) rfl rfl rfl (congrArg (fun z => A.b (!z)) (qP _ _)) trivial (o_pF (.b (!(p0.Key == p1.Key))) h5 rfl (o_1 (.b (!(p0.Key == p1.Key))) rfl ?_))))))
 rcases zE h with ⟨h6, h⟩ | ⟨h6, h⟩
 ·
  refine o_k4 rfl h6 (o_k1 rfl h6 (o_pT (.b true) h6 rfl (o_1 (.b true) rfl (o_k4 rfl rfl (o_k1 rfl rfl ?_)))))
  refine o_k1 rfl rfl (o_pT (.b true) rfl rfl (zA (c_t rfl rfl (c_sr (o_1 (.b false) rfl (zA (zH ?_)))))))
  cases h
  exact end0 rfl .r
 refine o_s (.ref 2 15) (gy rfl rfl rfl h6) rfl rfl rfl (o_s (.s p0.With) (gy rfl rfl rfl h6) rfl rfl rfl (o_s (.ref 3 15) (gy rfl rfl rfl h6) rfl rfl rfl (o_s (.s p1.With) (gy rfl rfl rfl h6) rfl rfl rfl (o_c (gy rfl rfl rfl h6) rfl rfl rfl (congrArg (fun z => A.b (!z)) (qP _ _)) trivial (o_pF (.b (!(p0.With == p1.With))) h6 rfl (o_1 (.b (!(p0.With == p1.With))) rfl ?_))))))
 rcases zE h with ⟨h7, h⟩ | ⟨h7, h⟩
 ·
  refine o_k4 rfl h7 (o_k2 rfl h7 (o_pT (.b true) h7 rfl (zA (c_t rfl rfl (c_sr (o_1 (.b false) rfl (zA (zH ?_))))))))
  cases h
  exact end0 rfl .r
 refine o_s (.ref 2 16) (gy rfl rfl rfl h7) rfl rfl rfl (o_s (.y p0.B) (gy rfl rfl rfl h7) rfl rfl rfl (o_s (.ref 3 16) (gy rfl rfl rfl h7) rfl rfl rfl (o_s (.y p1.B) (gy rfl rfl rfl h7) rfl rfl rfl (bi h fun x8 h9 h => o_cA (zDk _ _ _ h9) (gy rfl rfl rfl h7) rfl (.cons .r (.cons .r .nil)) rfl (o_s (.b (!x8)) (gy rfl rfl rfl h7) rfl rfl rfl (o_pF (.b (!x8)) h7 rfl (zA ?_)))))))
 refine c_if h rfl (fun h10 h => c_sr (o_1 (.b false) rfl (zA (zH ?_)))) fun h10 h => zK (c_sr (o_m8 (.ref 2 10) (.ref 2 10) (.i p0.O.Fuse) (.ref 3 10) (.ref 3 10) (.i p1.O.Fuse) (.b (p0.O.Fuse == p1.O.Fuse)) (.b (p0.O.Fuse == p1.O.Fuse)) rfl ?_))
 ·
  cases h
  exact end0 rfl .r
 rcases zE h with ⟨h11, h⟩ | ⟨h11, h⟩
 ·
  refine o_s (.ref 2 10) (gy rfl rfl rfl h11) rfl rfl rfl (o_s (.ref 2 12) (gy rfl rfl rfl h11) rfl rfl rfl (o_s (.i p0.O.Again) (gy rfl rfl rfl h11) rfl rfl rfl (o_s (.ref 3 10) (gy rfl rfl rfl h11) rfl rfl rfl (o_s (.ref 3 12) (gy rfl rfl rfl h11) rfl rfl rfl (o_s (.i p1.O.Again) (gy rfl rfl rfl h11) rfl rfl rfl (o_s (.b (p0.O.Again == p1.O.Again)) (gy rfl rfl rfl h11) rfl rfl rfl (o_pT (.b (p0.O.Again == p1.O.Again)) h11 rfl (o_1 (.b (p0.O.Again == p1.O.Again)) rfl ?_))))))))
  rcases zE h with ⟨h12, h⟩ | ⟨h12, h⟩
  ·
   refine o_s (.ref 2 10) (gy rfl rfl rfl h12) rfl rfl rfl (o_s (.ref 2 11) (gy rfl rfl rfl h12) rfl rfl rfl (o_s (.y p0.O.Choices) (gy rfl rfl rfl h12) rfl rfl rfl (o_s (.ref 3 10) (gy rfl rfl rfl h12) rfl rfl rfl (o_s (.ref 3 11) (gy rfl rfl rfl h12) rfl rfl rfl (o_s (.y p1.O.Choices) (gy rfl rfl rfl h12) rfl rfl rfl (bi h fun x13 h14 h => o_cA (zDk _ _ _ h14) (gy rfl rfl rfl h12) rfl (.cons .r (.cons .r .nil)) rfl (o_pT (.b x13) h12 rfl (o_1 (.b x13) rfl ?_))))))))
   rcases zE h with ⟨h15, h⟩ | ⟨h15, h⟩
   ·
    refine o_s (.ref 2 10) (gy rfl rfl rfl h15) rfl rfl rfl (o_s (.ref 2 13) (gy rfl rfl rfl h15) rfl rfl rfl (o_s (.y p0.O.More) (gy rfl rfl rfl h15) rfl rfl rfl (o_s (.ref 3 10) (gy rfl rfl rfl h15) rfl rfl rfl (o_s (.ref 3 13) (gy rfl rfl rfl h15) rfl rfl rfl (o_s (.y p1.O.More) (gy rfl rfl rfl h15) rfl rfl rfl ?_)))))
    refine bi h fun x16 h17 h => o_cA (zDk _ _ _ h17) (gy rfl rfl rfl h15) rfl (.cons .r (.cons .r .nil)) rfl (o_pT (.b x16) h15 rfl (o_1 (.b x16) rfl (zA (zH ?_))))
    cases h
    exact end0 rfl .r
   refine o_k4 rfl h15 (o_k3 rfl h15 (o_pF (.b false) h15 rfl (o_1 (.b false) rfl (zA (zH ?_)))))
   cases h
   exact end0 rfl .r
  refine o_k4 rfl h12 (o_k3 rfl h12 (o_pF (.b false) h12 rfl (o_1 (.b false) rfl (o_k4 rfl rfl (o_k3 rfl rfl (o_pF (.b false) rfl rfl (o_1 (.b false) rfl (zA (zH ?_)))))))))
  cases h
  exact end0 rfl .r
 refine o_k4 rfl h11 (o_k3 rfl h11 (o_pF (.b false) h11 rfl (o_1 (.b false) rfl (o_k4 rfl rfl (o_k3 rfl rfl (o_pF (.b false) rfl rfl (o_1 (.b false) rfl (o_k4 rfl rfl (o_k3 rfl rfl ?_)))))))))
 refine o_pF (.b false) rfl rfl (o_1 (.b false) rfl (zA (zH ?_)))
 cases h
 exact end0 rfl .r
theorem zBU (p0 : (List UInt8)) (r : Bool) (h : zAe p0 = some r) : FC Tryd.prog 39 [.t (.d (.lit (.string ⟨⟨p0⟩⟩)))] [] (.t (.d (.lit (.bool r)))) := by
 refine zAO (rs := [.tmp 2]) (n := 46) Tryd.func39 rfl rfl (Nat.le_of_ble_eq_true rfl) rfl (pins := []) rfl (L := [(0, .s p0)]) rfl (c_sr (o_1 (.b false) rfl (zA (zM (c_sr (o_m4 (.s p0) (.i (p0.length : Int)) (.b (decide ((p0.length : Int) < 1))) (.b (decide ((p0.length : Int) < 1))) rfl ?_))))))
 rcases zE h with ⟨h1, h⟩ | ⟨h1, h⟩
 ·
  refine o_k3 rfl h1 (o_pT (.b true) h1 rfl (zA (c_t rfl rfl (c_sr (o_1 (.b false) rfl (zA (zH ?_)))))))
  cases h
  exact end0 rfl .r
 refine o_s (.s p0) (gy rfl rfl rfl h1) rfl rfl rfl (o_s (.i (p0.length : Int)) (gy rfl rfl rfl h1) rfl rfl rfl (o_s (.b (decide ((p0.length : Int) > 12))) (gy rfl rfl rfl h1) rfl rfl rfl (o_pF (.b (decide ((p0.length : Int) > 12))) h1 rfl (zA ?_))))
 refine c_if h rfl (fun h2 h => c_sr (o_1 (.b false) rfl (zA (zH ?_)))) fun h2 h => zK (zM (c_sr (o_1 (.i 0) rfl (zA (zL (c_lp (fun (z3 : Int) => [(0, .s p0), (3, .i z3)]) (fun nl1 z3 => yE p0 nl1 z3) (p0.length + 1) 0 h (fun _ => rfl) rfl rfl ?_))))))
 ·
  cases h
  exact end0 rfl .r
 rintro nl1 z3 h
 refine zM (c_sr (o_m4 (.i z3) (.s p0) (.i (p0.length : Int)) (.b (decide (z3 < (p0.length : Int)))) rfl (zA (c_if h rfl (fun h4 h => zK ?_) fun h4 h => qU (c_sr (o_1 (.b true) rfl (zA (zH ?_))))))))
 ·
  refine zX r (fun (_ : Unit) => [(0, .s p0), (3, .i z3)]) (fun _ => zBx (yE p0 nl1) z3) ?_ ?_
  ·
   refine zL (zX r (fun (y5 : Bool) => [(0, .s p0), (3, .i z3), (4, .b y5)]) (fun y5 => zBq (yE p0 nl1) p0 z3 y5) ?_ ?_)
   ·
    refine zG (o_m2 (.s p0) (.i z3) rfl (bi h fun x14 h15 h => o_c (g0 rfl) rfl rfl rfl (zEz h15) (zEu h15) (o_m2 (.b (decide ((x14.toNat : Int) ≥ 97))) (.b (decide ((x14.toNat : Int) ≥ 97))) rfl ?_)))
    rcases zE h with ⟨h16, h⟩ | ⟨h16, h⟩
    ·
     refine o_s (.s p0) (gy rfl rfl rfl h16) rfl rfl rfl (o_s (.i z3) (gy rfl rfl rfl h16) rfl rfl rfl (bi h fun x17 h18 h => o_c (gy rfl rfl rfl h16) rfl rfl rfl (zEz h18) (zEu h18) (o_s (.b (decide ((x17.toNat : Int) ≤ 122))) (gy rfl rfl rfl h16) rfl rfl rfl (o_pT (.b (decide ((x17.toNat : Int) ≤ 122))) h16 rfl (o_1 (.b (decide ((x17.toNat : Int) ≤ 122))) rfl (zA ?_))))))
     exact lE (decide ((x17.toNat : Int) ≤ 122)) h rfl rfl
    refine o_k4 rfl h16 (o_pF (.b false) h16 rfl (o_1 (.b false) rfl (zA ?_)))
    exact lE false h rfl rfl
   rintro y5 h
   refine zX r (fun (y6 : Bool) => [(0, .s p0), (3, .i z3), (4, .b y5), (5, .b y6)]) (fun y6 => zBF (yE p0 nl1) y5 z3 y6) ?_ ?_
   ·
    refine zG (o_m2 (.s p0) (.i z3) rfl (bi h fun x9 h10 h => o_c (g0 rfl) rfl rfl rfl (zEz h10) (zEu h10) (o_m2 (.b (decide ((x9.toNat : Int) ≥ 48))) (.b (decide ((x9.toNat : Int) ≥ 48))) rfl ?_)))
    rcases zE h with ⟨h11, h⟩ | ⟨h11, h⟩
    ·
     refine o_s (.s p0) (gy rfl rfl rfl h11) rfl rfl rfl (o_s (.i z3) (gy rfl rfl rfl h11) rfl rfl rfl (bi h fun x12 h13 h => o_c (gy rfl rfl rfl h11) rfl rfl rfl (zEz h13) (zEu h13) (o_s (.b (decide ((x12.toNat : Int) ≤ 57))) (gy rfl rfl rfl h11) rfl rfl rfl (o_pT (.b (decide ((x12.toNat : Int) ≤ 57))) h11 rfl (o_1 (.b (decide ((x12.toNat : Int) ≤ 57))) rfl (zA ?_))))))
     exact lE (decide ((x12.toNat : Int) ≤ 57)) h rfl rfl
    refine o_k4 rfl h11 (o_pF (.b false) h11 rfl (o_1 (.b false) rfl (zA ?_)))
    exact lE false h rfl rfl
   rintro y6 h
   refine c_sr (o_m3 (.b y5) (.b (!y5)) (.b (!y5)) rfl ?_)
   rcases zE h with ⟨h7, h⟩ | ⟨h7, h⟩
   ·
    refine o_s (.b y6) (gy rfl rfl rfl h7) rfl rfl rfl (o_s (.b (!y6)) (gy rfl rfl rfl h7) rfl rfl rfl (o_pT (.b (!y6)) h7 rfl (zA (c_if h rfl (fun h8 h => c_sr (o_1 (.b false) rfl (zA (zH ?_)))) fun h8 h => zK ?_))))
    ·
     cases h
     exact end0 rfl .r
    exact lE () h rfl rfl
   refine o_k2 rfl h7 (o_pF (.b false) h7 rfl (zA (c_f rfl rfl (zK ?_))))
   exact lE () h rfl rfl
  rintro ⟨⟩ h
  refine zG (o_m3 (.i z3) (.i (wi (z3 + 1))) (.i (wi (z3 + 1))) rfl (zA ?_))
  exact lE (wi (z3 + 1)) h rfl rfl
 cases h
 exact end0 rfl .r
theorem zIh (p0 : zC) (r : Bool) (h : yT p0 = some r) : FC Tryd.prog 25 [.t (.agg [.lit (.int .i64 p0.Kind), .lit (.string ⟨⟨p0.User⟩⟩), .lit (.string ⟨⟨p0.Folder⟩⟩), .lit (.string ⟨⟨p0.Name⟩⟩), .lit (.string ⟨⟨p0.Other⟩⟩), .lit (.int .i64 p0.Role), .lit (.int .i64 p0.Version), .seq 1 (zD p0.Data)])] [] (.t (.d (.lit (.bool r)))) := by
 refine zAO (rs := [.tmp 2]) (n := 183) Tryd.func25 rfl rfl (Nat.le_of_ble_eq_true rfl) rfl (pins := []) rfl (L := [(0, .t (.agg [.i p0.Kind, .s p0.User, .s p0.Folder, .s p0.Name, .s p0.Other, .i p0.Role, .i p0.Version, .y p0.Data]))]) rfl (c_sr (o_m2 (.box [.i p0.Kind, .s p0.User, .s p0.Folder, .s p0.Name, .s p0.Other, .i p0.Role, .i p0.Version, .y p0.Data]) (.b false) rfl (zA (zM (c_sr (o_m2 (.ref 1 1) (.s p0.User) rfl (bi h fun x1 h2 h => o_cA (zBU _ _ h2) (g0 rfl) rfl (.cons .r .nil) rfl (o_m2 (.b (!x1)) (.b (!x1)) rfl ?_))))))))
 rcases zE h with ⟨h3, h⟩ | ⟨h3, h⟩
 ·
  refine o_k3 rfl h3 (o_pT (.b true) h3 rfl (o_1 (.b true) rfl (o_k3 rfl rfl (o_pT (.b true) rfl rfl (zA (c_t rfl rfl (c_sr (o_1 (.b false) rfl (zA (zH ?_))))))))))
  cases h
  exact end0 rfl .r
 refine o_s (.ref 1 0) (gy rfl rfl rfl h3) rfl rfl rfl (o_s (.i p0.Kind) (gy rfl rfl rfl h3) rfl rfl rfl (o_s (.b (decide (p0.Kind < 1))) (gy rfl rfl rfl h3) rfl rfl rfl (o_pF (.b (decide (p0.Kind < 1))) h3 rfl (o_1 (.b (decide (p0.Kind < 1))) rfl ?_))))
 rcases zE h with ⟨h4, h⟩ | ⟨h4, h⟩
 ·
  refine o_k3 rfl h4 (o_pT (.b true) h4 rfl (zA (c_t rfl rfl (c_sr (o_1 (.b false) rfl (zA (zH ?_)))))))
  cases h
  exact end0 rfl .r
 refine o_s (.ref 1 0) (gy rfl rfl rfl h4) rfl rfl rfl (o_s (.i p0.Kind) (gy rfl rfl rfl h4) rfl rfl rfl (o_s (.b (decide (p0.Kind > 16))) (gy rfl rfl rfl h4) rfl rfl rfl (o_pF (.b (decide (p0.Kind > 16))) h4 rfl (zA ?_))))
 refine c_if h rfl (fun h5 h => c_sr (o_1 (.b false) rfl (zA (zH ?_)))) fun h5 h => zK (c_sr (o_m3 (.ref 1 0) (.i p0.Kind) (.i p0.Kind) rfl (zA ?_)))
 ·
  cases h
  exact end0 rfl .r
 refine zX r (fun (_ : Unit) => [(1, .box [.i p0.Kind, .s p0.User, .s p0.Folder, .s p0.Name, .s p0.Other, .i p0.Role, .i p0.Version, .y p0.Data]), (3, .i p0.Kind)]) (fun _ => qI p0) ?_ ?_
 ·
  refine c_sr (o_m3 (.i p0.Kind) (.b (p0.Kind == 14)) (.b (p0.Kind == 14)) rfl ?_)
  rcases zE h with ⟨h60, h⟩ | ⟨h60, h⟩
  ·
   refine o_k2 rfl h60 (o_pT (.b true) h60 rfl (o_1 (.b true) rfl (o_s (.ref 1 4) (gy rfl rfl rfl rfl) rfl rfl rfl (o_s (.s p0.Other) (gy rfl rfl rfl rfl) rfl rfl rfl (bi h fun x61 h62 h => o_cA (zBU _ _ h62) (gy rfl rfl rfl rfl) rfl (.cons .r .nil) rfl (o_s (.b (!x61)) (gy rfl rfl rfl rfl) rfl rfl rfl (o_s (.b (!x61)) (gy rfl rfl rfl rfl) rfl rfl rfl ?_)))))))
   rcases zE h with ⟨h63, h⟩ | ⟨h63, h⟩
   ·
    refine o_k4 rfl h63 (o_k1 rfl h63 (o_pk (.b true) (b := true) h63 (gy rfl rfl rfl rfl) rfl rfl rfl rfl rfl (o_pT (.b true) rfl rfl (zA (c_t rfl rfl (c_sr (o_1 (.b false) rfl (zA (zH ?_)))))))))
    cases h
    exact end0 rfl .r
   refine o_s (.ref 1 4) (gy rfl rfl rfl h63) rfl rfl rfl (o_s (.s p0.Other) (gy rfl rfl rfl h63) rfl rfl rfl (o_s (.ref 1 1) (gy rfl rfl rfl h63) rfl rfl rfl (o_s (.s p0.User) (gy rfl rfl rfl h63) rfl rfl rfl (o_c (gy rfl rfl rfl h63) rfl rfl rfl (congrArg (fun z => A.b z) (qP _ _)) trivial (o_pk (.b (p0.Other == p0.User)) (b := false) h63 (gy rfl rfl rfl rfl) rfl rfl rfl rfl rfl (o_pT (.b (p0.Other == p0.User)) rfl rfl (zA ?_)))))))
   refine c_if h rfl (fun h64 h => c_sr (o_1 (.b false) rfl (zA (zH ?_)))) fun h64 h => zK ?_
   ·
    cases h
    exact end0 rfl .r
   exact lE () h rfl rfl
  refine o_s (.i p0.Kind) (gy rfl rfl rfl h60) rfl rfl rfl (o_s (.b (p0.Kind == 16)) (gy rfl rfl rfl h60) rfl rfl rfl (o_pF (.b (p0.Kind == 16)) h60 rfl (o_1 (.b (p0.Kind == 16)) rfl ?_)))
  rcases zE h with ⟨h65, h⟩ | ⟨h65, h⟩
  ·
   refine o_s (.ref 1 4) (gy rfl rfl rfl h65) rfl rfl rfl (o_s (.s p0.Other) (gy rfl rfl rfl h65) rfl rfl rfl (bi h fun x66 h67 h => o_cA (zBU _ _ h67) (gy rfl rfl rfl h65) rfl (.cons .r .nil) rfl (o_s (.b (!x66)) (gy rfl rfl rfl h65) rfl rfl rfl (o_s (.b (!x66)) (gy rfl rfl rfl h65) rfl rfl rfl ?_))))
   rcases zE h with ⟨h68, h⟩ | ⟨h68, h⟩
   ·
    refine o_k4 rfl h68 (o_k1 rfl h68 (o_pk (.b true) (b := true) h68 (gy rfl rfl rfl h65) rfl rfl rfl rfl rfl (o_pT (.b true) h65 rfl (zA (c_t rfl rfl (c_sr (o_1 (.b false) rfl (zA (zH ?_)))))))))
    cases h
    exact end0 rfl .r
   refine o_s (.ref 1 4) (gy rfl rfl rfl h68) rfl rfl rfl (o_s (.s p0.Other) (gy rfl rfl rfl h68) rfl rfl rfl (o_s (.ref 1 1) (gy rfl rfl rfl h68) rfl rfl rfl (o_s (.s p0.User) (gy rfl rfl rfl h68) rfl rfl rfl (o_c (gy rfl rfl rfl h68) rfl rfl rfl (congrArg (fun z => A.b z) (qP _ _)) trivial (o_pk (.b (p0.Other == p0.User)) (b := false) h68 (gy rfl rfl rfl h65) rfl rfl rfl rfl rfl (o_pT (.b (p0.Other == p0.User)) h65 rfl (zA ?_)))))))
   refine c_if h rfl (fun h69 h => c_sr (o_1 (.b false) rfl (zA (zH ?_)))) fun h69 h => zK ?_
   ·
    cases h
    exact end0 rfl .r
   exact lE () h rfl rfl
  refine o_k4 rfl h65 (o_k1 rfl h65 (o_un rfl rfl rfl rfl rfl (o_un rfl rfl rfl rfl rfl (o_un rfl rfl rfl rfl rfl ?_))))
  refine o_un rfl rfl rfl rfl rfl (o_un rfl rfl rfl rfl rfl (o_k1 rfl h65 (o_pF (.b false) h65 rfl (zA (c_f rfl rfl (zK ?_))))))
  exact lE () h rfl rfl
 rintro ⟨⟩ h
 refine zX r (fun (_ : Unit) => [(1, .box [.i p0.Kind, .s p0.User, .s p0.Folder, .s p0.Name, .s p0.Other, .i p0.Role, .i p0.Version, .y p0.Data]), (3, .i p0.Kind)]) (fun _ => qD p0) ?_ ?_
 ·
  refine zX r (fun (y49 : Bool) => [(1, .box [.i p0.Kind, .s p0.User, .s p0.Folder, .s p0.Name, .s p0.Other, .i p0.Role, .i p0.Version, .y p0.Data]), (3, .i p0.Kind), (45, .b y49)]) (fun y49 => zZ p0 y49) ?_ ?_
  ·
   refine zG (o_m3 (.i p0.Kind) (.b (p0.Kind == 1)) (.b (p0.Kind == 1)) rfl ?_)
   rcases zE h with ⟨h59, h⟩ | ⟨h59, h⟩
   ·
    refine o_k2 rfl h59 (o_pT (.b true) h59 rfl (zA ?_))
    exact lE true h rfl rfl
   refine o_s (.i p0.Kind) (gy rfl rfl rfl h59) rfl rfl rfl (o_s (.b (decide (p0.Kind ≥ 14))) (gy rfl rfl rfl h59) rfl rfl rfl (o_pF (.b (decide (p0.Kind ≥ 14))) h59 rfl (zA ?_)))
   exact lE (decide (p0.Kind ≥ 14)) h rfl rfl
  rintro y49 h
  refine c_if h rfl (fun h50 h => c_sr (o_m2 (.ref 1 2) (.s p0.Folder) rfl (o_c (g0 rfl) rfl rfl rfl (congrArg (fun z => A.b (!z)) (qP _ _)) trivial (o_1 (.b (!(p0.Folder == []))) rfl ?_)))) fun h50 h => c_sr (o_m2 (.ref 1 2) (.s p0.Folder) rfl ?_)
  ·
   rcases zE h with ⟨h51, h⟩ | ⟨h51, h⟩
   ·
    refine o_k3 rfl h51 (o_un rfl rfl rfl rfl rfl (o_un rfl rfl rfl rfl rfl (o_k2 rfl h51 (o_un rfl rfl rfl rfl rfl ?_))))
    refine o_un rfl rfl rfl rfl rfl (o_un rfl rfl rfl rfl rfl (o_k1 rfl h51 (o_pT (.b true) h51 rfl (zA (c_t rfl rfl (c_sr (o_1 (.b false) rfl (zA (zH ?_)))))))))
    cases h
    exact end0 rfl .r
   refine o_s (.i p0.Kind) (gy rfl rfl rfl h51) rfl rfl rfl (o_s (.b (p0.Kind == 1)) (gy rfl rfl rfl h51) rfl rfl rfl (o_s (.b (p0.Kind == 1)) (gy rfl rfl rfl h51) rfl rfl rfl ?_))
   rcases zE h with ⟨h52, h⟩ | ⟨h52, h⟩
   ·
    refine o_k2 rfl h52 (o_pk (.b true) (b := true) h52 (gy rfl rfl rfl h51) rfl rfl rfl rfl rfl (o_s (.b true) (gy rfl rfl rfl h51) rfl rfl rfl (o_s (.ref 1 4) (gy rfl rfl rfl rfl) rfl rfl rfl (o_s (.s p0.Other) (gy rfl rfl rfl rfl) rfl rfl rfl (o_c (gy rfl rfl rfl rfl) rfl rfl rfl (congrArg (fun z => A.b (!z)) (qP _ _)) trivial (o_pk (.b (!(p0.Other == []))) (b := true) rfl (gy rfl rfl rfl h51) rfl rfl rfl rfl rfl (o_pF (.b (!(p0.Other == []))) h51 rfl (zA ?_))))))))
    refine c_if h rfl (fun h53 h => c_sr (o_1 (.b false) rfl (zA (zH ?_)))) fun h53 h => zK ?_
    ·
     cases h
     exact end0 rfl .r
    exact lE () h rfl rfl
   refine o_s (.i p0.Kind) (gy rfl rfl rfl h52) rfl rfl rfl (o_s (.b (p0.Kind == 15)) (gy rfl rfl rfl h52) rfl rfl rfl (o_pk (.b (p0.Kind == 15)) (b := false) h52 (gy rfl rfl rfl h51) rfl rfl rfl rfl rfl (o_s (.b (p0.Kind == 15)) (gy rfl rfl rfl h51) rfl rfl rfl ?_)))
   rcases zE h with ⟨h54, h⟩ | ⟨h54, h⟩
   ·
    refine o_s (.ref 1 4) (gy rfl rfl rfl h54) rfl rfl rfl (o_s (.s p0.Other) (gy rfl rfl rfl h54) rfl rfl rfl (o_c (gy rfl rfl rfl h54) rfl rfl rfl (congrArg (fun z => A.b (!z)) (qP _ _)) trivial (o_pk (.b (!(p0.Other == []))) (b := true) h54 (gy rfl rfl rfl h51) rfl rfl rfl rfl rfl (o_pF (.b (!(p0.Other == []))) h51 rfl (zA ?_)))))
    refine c_if h rfl (fun h55 h => c_sr (o_1 (.b false) rfl (zA (zH ?_)))) fun h55 h => zK ?_
    ·
     cases h
     exact end0 rfl .r
    exact lE () h rfl rfl
   refine o_k3 rfl h54 (o_pk (.b false) (b := false) h54 (gy rfl rfl rfl h51) rfl rfl rfl rfl rfl (o_pF (.b false) h51 rfl (zA (c_f rfl rfl (zK ?_)))))
   exact lE () h rfl rfl
  refine bi h fun x56 h57 h => o_cA (zBU _ _ h57) (g0 rfl) rfl (.cons .r .nil) rfl (o_1 (.b (!x56)) rfl (zA (c_if h rfl (fun h58 h => c_sr (o_1 (.b false) rfl (zA (zH ?_)))) fun h58 h => zK ?_)))
  ·
   cases h
   exact end0 rfl .r
  exact lE () h rfl rfl
 rintro ⟨⟩ h
 refine zX r (fun (_ : Unit) => [(1, .box [.i p0.Kind, .s p0.User, .s p0.Folder, .s p0.Name, .s p0.Other, .i p0.Role, .i p0.Version, .y p0.Data]), (3, .i p0.Kind)]) (fun _ => zT p0) ?_ ?_
 ·
  refine zX r (fun (y30 : Bool) => [(1, .box [.i p0.Kind, .s p0.User, .s p0.Folder, .s p0.Name, .s p0.Other, .i p0.Role, .i p0.Version, .y p0.Data]), (3, .i p0.Kind), (71, .b y30)]) (fun y30 => qO p0 y30) ?_ ?_
  ·
   refine zG (o_m3 (.i p0.Kind) (.b (p0.Kind == 2)) (.b (p0.Kind == 2)) rfl ?_)
   rcases zE h with ⟨h48, h⟩ | ⟨h48, h⟩
   ·
    refine o_k2 rfl h48 (o_pT (.b true) h48 rfl (zA ?_))
    exact lE true h rfl rfl
   refine o_s (.i p0.Kind) (gy rfl rfl rfl h48) rfl rfl rfl (o_s (.b (p0.Kind == 3)) (gy rfl rfl rfl h48) rfl rfl rfl (o_pF (.b (p0.Kind == 3)) h48 rfl (zA ?_)))
   exact lE (p0.Kind == 3) h rfl rfl
  rintro y30 h
  refine c_if h rfl (fun h31 h => c_sr (o_m2 (.ref 1 4) (.s p0.Other) rfl (o_c (g0 rfl) rfl rfl rfl (congrArg (fun z => A.b (!z)) (qP _ _)) trivial (o_1 (.b (!(p0.Other == []))) rfl ?_)))) fun h31 h => ?_
  ·
   rcases zE h with ⟨h32, h⟩ | ⟨h32, h⟩
   ·
    refine o_s (.ref 1 4) (gy rfl rfl rfl h32) rfl rfl rfl (o_s (.s p0.Other) (gy rfl rfl rfl h32) rfl rfl rfl (bi h fun x33 h34 h => o_cA (zBU _ _ h34) (gy rfl rfl rfl h32) rfl (.cons .r .nil) rfl (o_s (.b (!x33)) (gy rfl rfl rfl h32) rfl rfl rfl (o_pT (.b (!x33)) h32 rfl (o_1 (.b (!x33)) rfl ?_)))))
    rcases zE h with ⟨h35, h⟩ | ⟨h35, h⟩
    ·
     refine o_k3 rfl h35 (o_un rfl rfl rfl rfl rfl (o_un rfl rfl rfl rfl rfl (o_un rfl rfl rfl rfl rfl (o_un rfl rfl rfl rfl rfl (o_un rfl rfl rfl rfl rfl ?_)))))
     refine o_k1 rfl h35 (o_pT (.b true) h35 rfl (zA (c_t rfl rfl (c_sr (o_1 (.b false) rfl (zA (zH ?_)))))))
     cases h
     exact end0 rfl .r
    refine o_s (.i p0.Kind) (gy rfl rfl rfl h35) rfl rfl rfl (o_s (.b (p0.Kind == 2)) (gy rfl rfl rfl h35) rfl rfl rfl (o_s (.b (p0.Kind == 2)) (gy rfl rfl rfl h35) rfl rfl rfl ?_))
    rcases zE h with ⟨h36, h⟩ | ⟨h36, h⟩
    ·
     refine o_s (.ref 1 4) (gy rfl rfl rfl h36) rfl rfl rfl (o_s (.s p0.Other) (gy rfl rfl rfl h36) rfl rfl rfl (o_s (.ref 1 2) (gy rfl rfl rfl h36) rfl rfl rfl (o_s (.s p0.Folder) (gy rfl rfl rfl h36) rfl rfl rfl (o_c (gy rfl rfl rfl h36) rfl rfl rfl (congrArg (fun z => A.b z) (qP _ _)) trivial (o_pk (.b (p0.Other == p0.Folder)) (b := true) h36 (gy rfl rfl rfl h35) rfl rfl rfl rfl rfl (o_pF (.b (p0.Other == p0.Folder)) h35 rfl (zA ?_)))))))
     refine c_if h rfl (fun h37 h => c_sr (o_1 (.b false) rfl (zA (zH ?_)))) fun h37 h => zK ?_
     ·
      cases h
      exact end0 rfl .r
     exact lE () h rfl rfl
    refine o_k4 rfl h36 (o_k1 rfl h36 (o_pk (.b false) (b := false) h36 (gy rfl rfl rfl h35) rfl rfl rfl rfl rfl (o_pF (.b false) h35 rfl (zA (c_f rfl rfl (zK ?_))))))
    exact lE () h rfl rfl
   refine o_k4 rfl h32 (o_pF (.b false) h32 rfl (o_1 (.b false) rfl (o_s (.i p0.Kind) (gy rfl rfl rfl rfl) rfl rfl rfl (o_s (.b (p0.Kind == 2)) (gy rfl rfl rfl rfl) rfl rfl rfl (o_s (.b (p0.Kind == 2)) (gy rfl rfl rfl rfl) rfl rfl rfl ?_)))))
   rcases zE h with ⟨h38, h⟩ | ⟨h38, h⟩
   ·
    refine o_s (.ref 1 4) (gy rfl rfl rfl h38) rfl rfl rfl (o_s (.s p0.Other) (gy rfl rfl rfl h38) rfl rfl rfl (o_s (.ref 1 2) (gy rfl rfl rfl h38) rfl rfl rfl (o_s (.s p0.Folder) (gy rfl rfl rfl h38) rfl rfl rfl (o_c (gy rfl rfl rfl h38) rfl rfl rfl (congrArg (fun z => A.b z) (qP _ _)) trivial (o_pk (.b (p0.Other == p0.Folder)) (b := true) h38 (gy rfl rfl rfl rfl) rfl rfl rfl rfl rfl (o_pF (.b (p0.Other == p0.Folder)) rfl rfl (zA ?_)))))))
    refine c_if h rfl (fun h39 h => c_sr (o_1 (.b false) rfl (zA (zH ?_)))) fun h39 h => zK ?_
    ·
     cases h
     exact end0 rfl .r
    exact lE () h rfl rfl
   refine o_k4 rfl h38 (o_k1 rfl h38 (o_pk (.b false) (b := false) h38 (gy rfl rfl rfl rfl) rfl rfl rfl rfl rfl (o_pF (.b false) rfl rfl (zA (c_f rfl rfl (zK ?_))))))
   exact lE () h rfl rfl
  refine zX r (fun (y40 : Bool) => [(1, .box [.i p0.Kind, .s p0.User, .s p0.Folder, .s p0.Name, .s p0.Other, .i p0.Role, .i p0.Version, .y p0.Data]), (3, .i p0.Kind), (97, .b y40)]) (fun y40 => qA p0 y40) ?_ ?_
  ·
   refine zG (o_m3 (.i p0.Kind) (.b (decide (p0.Kind ≥ 5))) (.b (decide (p0.Kind ≥ 5))) rfl ?_)
   rcases zE h with ⟨h47, h⟩ | ⟨h47, h⟩
   ·
    refine o_s (.i p0.Kind) (gy rfl rfl rfl h47) rfl rfl rfl (o_s (.b (decide (p0.Kind ≤ 7))) (gy rfl rfl rfl h47) rfl rfl rfl (o_pT (.b (decide (p0.Kind ≤ 7))) h47 rfl (zA ?_)))
    exact lE (decide (p0.Kind ≤ 7)) h rfl rfl
   refine o_k2 rfl h47 (o_pF (.b false) h47 rfl (zA ?_))
   exact lE false h rfl rfl
  rintro y40 h
  refine c_if h rfl (fun h41 h => c_sr (o_m2 (.ref 1 4) (.s p0.Other) rfl ?_)) fun h41 h => c_sr (o_m3 (.i p0.Kind) (.b (decide (p0.Kind < 14))) (.b (decide (p0.Kind < 14))) rfl ?_)
  ·
   refine bi h fun x42 h43 h => o_cA (zBU _ _ h43) (g0 rfl) rfl (.cons .r .nil) rfl (o_1 (.b (!x42)) rfl (zA (c_if h rfl (fun h44 h => c_sr (o_1 (.b false) rfl (zA (zH ?_)))) fun h44 h => zK ?_)))
   ·
    cases h
    exact end0 rfl .r
   exact lE () h rfl rfl
  rcases zE h with ⟨h45, h⟩ | ⟨h45, h⟩
  ·
   refine o_s (.ref 1 4) (gy rfl rfl rfl h45) rfl rfl rfl (o_s (.s p0.Other) (gy rfl rfl rfl h45) rfl rfl rfl (o_c (gy rfl rfl rfl h45) rfl rfl rfl (congrArg (fun z => A.b (!z)) (qP _ _)) trivial (o_pT (.b (!(p0.Other == []))) h45 rfl (zA (c_if h rfl (fun h46 h => c_sr (o_1 (.b false) rfl (zA (zH ?_)))) fun h46 h => zK ?_)))))
   ·
    cases h
    exact end0 rfl .r
   exact lE () h rfl rfl
  refine o_k3 rfl h45 (o_pF (.b false) h45 rfl (zA (c_f rfl rfl (zK ?_))))
  exact lE () h rfl rfl
 rintro ⟨⟩ h
 refine zX r (fun (y6 : Bool) => [(1, .box [.i p0.Kind, .s p0.User, .s p0.Folder, .s p0.Name, .s p0.Other, .i p0.Role, .i p0.Version, .y p0.Data]), (3, .i p0.Kind), (4, .b y6)]) (fun y6 => qC p0 y6) ?_ ?_
 ·
  refine zG (o_m3 (.i p0.Kind) (.b (p0.Kind == 8)) (.b (p0.Kind == 8)) rfl ?_)
  rcases zE h with ⟨h27, h⟩ | ⟨h27, h⟩
  ·
   refine o_k2 rfl h27 (o_pT (.b true) h27 rfl (o_1 (.b true) rfl (o_k2 rfl rfl (o_pT (.b true) rfl rfl (o_1 (.b true) rfl (o_k2 rfl rfl (o_pT (.b true) rfl rfl (o_1 (.b true) rfl (zA ?_)))))))))
   exact lE true h rfl rfl
  refine o_s (.i p0.Kind) (gy rfl rfl rfl h27) rfl rfl rfl (o_s (.b (p0.Kind == 9)) (gy rfl rfl rfl h27) rfl rfl rfl (o_pF (.b (p0.Kind == 9)) h27 rfl (o_1 (.b (p0.Kind == 9)) rfl ?_)))
  rcases zE h with ⟨h28, h⟩ | ⟨h28, h⟩
  ·
   refine o_k2 rfl h28 (o_pT (.b true) h28 rfl (o_1 (.b true) rfl (o_k2 rfl rfl (o_pT (.b true) rfl rfl (o_1 (.b true) rfl (zA ?_))))))
   exact lE true h rfl rfl
  refine o_s (.i p0.Kind) (gy rfl rfl rfl h28) rfl rfl rfl (o_s (.b (p0.Kind == 11)) (gy rfl rfl rfl h28) rfl rfl rfl (o_pF (.b (p0.Kind == 11)) h28 rfl (o_1 (.b (p0.Kind == 11)) rfl ?_)))
  rcases zE h with ⟨h29, h⟩ | ⟨h29, h⟩
  ·
   refine o_k2 rfl h29 (o_pT (.b true) h29 rfl (o_1 (.b true) rfl (zA ?_)))
   exact lE true h rfl rfl
  refine o_s (.i p0.Kind) (gy rfl rfl rfl h29) rfl rfl rfl (o_s (.b (p0.Kind == 12)) (gy rfl rfl rfl h29) rfl rfl rfl (o_pF (.b (p0.Kind == 12)) h29 rfl (o_1 (.b (p0.Kind == 12)) rfl (zA ?_))))
  exact lE (p0.Kind == 12) h rfl rfl
 rintro y6 h
 refine zX r (fun (_ : Unit) => [(1, .box [.i p0.Kind, .s p0.User, .s p0.Folder, .s p0.Name, .s p0.Other, .i p0.Role, .i p0.Version, .y p0.Data]), (3, .i p0.Kind)]) (fun _ => qE p0) ?_ ?_
 ·
  refine c_sr (o_m2 (.b y6) (.b y6) rfl ?_)
  rcases zE h with ⟨h19, h⟩ | ⟨h19, h⟩
  ·
   refine o_s (.ref 1 3) (gy rfl rfl rfl h19) rfl rfl rfl (o_s (.s p0.Name) (gy rfl rfl rfl h19) rfl rfl rfl (bi h fun x20 h21 h => o_cA (zBU _ _ h21) (gy rfl rfl rfl h19) rfl (.cons .r .nil) rfl (o_s (.b (!x20)) (gy rfl rfl rfl h19) rfl rfl rfl (o_pT (.b (!x20)) h19 rfl (o_1 (.b (!x20)) rfl ?_)))))
   rcases zE h with ⟨h22, h⟩ | ⟨h22, h⟩
   ·
    refine o_k3 rfl h22 (o_un rfl rfl rfl rfl rfl (o_un rfl rfl rfl rfl rfl (o_un rfl rfl rfl rfl rfl (o_k1 rfl h22 (o_pT (.b true) h22 rfl ?_)))))
    refine zA (c_t rfl rfl (c_sr (o_1 (.b false) rfl (zA (zH ?_)))))
    cases h
    exact end0 rfl .r
   refine o_s (.b y6) (gy rfl rfl rfl h22) rfl rfl rfl (o_s (.b (!y6)) (gy rfl rfl rfl h22) rfl rfl rfl (o_s (.b (!y6)) (gy rfl rfl rfl h22) rfl rfl rfl ?_))
   rcases zE h with ⟨h23, h⟩ | ⟨h23, h⟩
   ·
    refine o_s (.ref 1 3) (gy rfl rfl rfl h23) rfl rfl rfl (o_s (.s p0.Name) (gy rfl rfl rfl h23) rfl rfl rfl (o_c (gy rfl rfl rfl h23) rfl rfl rfl (congrArg (fun z => A.b (!z)) (qP _ _)) trivial (o_pk (.b (!(p0.Name == []))) (b := true) h23 (gy rfl rfl rfl h22) rfl rfl rfl rfl rfl (o_pF (.b (!(p0.Name == []))) h22 rfl (zA ?_)))))
    refine c_if h rfl (fun h24 h => c_sr (o_1 (.b false) rfl (zA (zH ?_)))) fun h24 h => zK ?_
    ·
     cases h
     exact end0 rfl .r
    exact lE () h rfl rfl
   refine o_k3 rfl h23 (o_pk (.b false) (b := false) h23 (gy rfl rfl rfl h22) rfl rfl rfl rfl rfl (o_pF (.b false) h22 rfl (zA (c_f rfl rfl (zK ?_)))))
   exact lE () h rfl rfl
  refine o_k4 rfl h19 (o_pF (.b false) h19 rfl (o_1 (.b false) rfl (o_s (.b y6) (gy rfl rfl rfl rfl) rfl rfl rfl (o_s (.b (!y6)) (gy rfl rfl rfl rfl) rfl rfl rfl (o_s (.b (!y6)) (gy rfl rfl rfl rfl) rfl rfl rfl ?_)))))
  rcases zE h with ⟨h25, h⟩ | ⟨h25, h⟩
  ·
   refine o_s (.ref 1 3) (gy rfl rfl rfl h25) rfl rfl rfl (o_s (.s p0.Name) (gy rfl rfl rfl h25) rfl rfl rfl (o_c (gy rfl rfl rfl h25) rfl rfl rfl (congrArg (fun z => A.b (!z)) (qP _ _)) trivial (o_pk (.b (!(p0.Name == []))) (b := true) h25 (gy rfl rfl rfl rfl) rfl rfl rfl rfl rfl (o_pF (.b (!(p0.Name == []))) rfl rfl (zA ?_)))))
   refine c_if h rfl (fun h26 h => c_sr (o_1 (.b false) rfl (zA (zH ?_)))) fun h26 h => zK ?_
   ·
    cases h
    exact end0 rfl .r
   exact lE () h rfl rfl
  refine o_k3 rfl h25 (o_pk (.b false) (b := false) h25 (gy rfl rfl rfl rfl) rfl rfl rfl rfl rfl (o_pF (.b false) rfl rfl (zA (c_f rfl rfl (zK ?_)))))
  exact lE () h rfl rfl
 rintro ⟨⟩ h
 refine zX r (fun (_ : Unit) => [(1, .box [.i p0.Kind, .s p0.User, .s p0.Folder, .s p0.Name, .s p0.Other, .i p0.Role, .i p0.Version, .y p0.Data]), (3, .i p0.Kind)]) (fun _ => qM p0) ?_ ?_
 ·
  refine zX r (fun (y13 : Bool) => [(1, .box [.i p0.Kind, .s p0.User, .s p0.Folder, .s p0.Name, .s p0.Other, .i p0.Role, .i p0.Version, .y p0.Data]), (3, .i p0.Kind), (144, .b y13)]) (fun y13 => qQ p0 y13) ?_ ?_
  ·
   refine zG (o_m3 (.i p0.Kind) (.b (p0.Kind == 5)) (.b (p0.Kind == 5)) rfl ?_)
   rcases zE h with ⟨h18, h⟩ | ⟨h18, h⟩
   ·
    refine o_k2 rfl h18 (o_pT (.b true) h18 rfl (zA ?_))
    exact lE true h rfl rfl
   refine o_s (.i p0.Kind) (gy rfl rfl rfl h18) rfl rfl rfl (o_s (.b (p0.Kind == 6)) (gy rfl rfl rfl h18) rfl rfl rfl (o_pF (.b (p0.Kind == 6)) h18 rfl (zA ?_)))
   exact lE (p0.Kind == 6) h rfl rfl
  rintro y13 h
  refine c_if h rfl (fun h14 h => c_sr (o_m4 (.ref 1 5) (.i p0.Role) (.b (decide (p0.Role < 1))) (.b (decide (p0.Role < 1))) rfl ?_)) fun h14 h => c_sr (o_m3 (.ref 1 5) (.i p0.Role) (.b (p0.Role != 0)) rfl (zA ?_))
  ·
   rcases zE h with ⟨h15, h⟩ | ⟨h15, h⟩
   ·
    refine o_k3 rfl h15 (o_pT (.b true) h15 rfl (zA (c_t rfl rfl (c_sr (o_1 (.b false) rfl (zA (zH ?_)))))))
    cases h
    exact end0 rfl .r
   refine o_s (.ref 1 5) (gy rfl rfl rfl h15) rfl rfl rfl (o_s (.i p0.Role) (gy rfl rfl rfl h15) rfl rfl rfl (o_s (.b (decide (p0.Role > 4))) (gy rfl rfl rfl h15) rfl rfl rfl (o_pF (.b (decide (p0.Role > 4))) h15 rfl (zA (c_if h rfl (fun h16 h => c_sr (o_1 (.b false) rfl (zA (zH ?_)))) fun h16 h => zK ?_)))))
   ·
    cases h
    exact end0 rfl .r
   exact lE () h rfl rfl
  refine c_if h rfl (fun h17 h => c_sr (o_1 (.b false) rfl (zA (zH ?_)))) fun h17 h => zK ?_
  ·
   cases h
   exact end0 rfl .r
  exact lE () h rfl rfl
 rintro ⟨⟩ h
 refine zX r (fun (_ : Unit) => [(1, .box [.i p0.Kind, .s p0.User, .s p0.Folder, .s p0.Name, .s p0.Other, .i p0.Role, .i p0.Version, .y p0.Data]), (3, .i p0.Kind)]) (fun _ => qN p0) ?_ ?_
 ·
  refine c_sr (o_m2 (.i p0.Kind) (.b (p0.Kind == 9)) rfl (zA (c_if h rfl (fun h9 h => c_sr (o_m4 (.ref 1 6) (.i p0.Version) (.b (decide (p0.Version < 0))) (.b (decide (p0.Version < 0))) rfl ?_)) fun h9 h => c_sr (o_m3 (.ref 1 6) (.i p0.Version) (.b (p0.Version != 0)) rfl (zA ?_)))))
  ·
   rcases zE h with ⟨h10, h⟩ | ⟨h10, h⟩
   ·
    refine o_k3 rfl h10 (o_pT (.b true) h10 rfl (zA (c_t rfl rfl (c_sr (o_1 (.b false) rfl (zA (zH ?_)))))))
    cases h
    exact end0 rfl .r
   refine o_s (.ref 1 6) (gy rfl rfl rfl h10) rfl rfl rfl (o_s (.i p0.Version) (gy rfl rfl rfl h10) rfl rfl rfl (o_s (.b (decide (p0.Version > 1099511627776))) (gy rfl rfl rfl h10) rfl rfl rfl (o_pF (.b (decide (p0.Version > 1099511627776))) h10 rfl (zA (c_if h rfl (fun h11 h => c_sr (o_1 (.b false) rfl (zA (zH ?_)))) fun h11 h => zK ?_)))))
   ·
    cases h
    exact end0 rfl .r
   exact lE () h rfl rfl
  refine c_if h rfl (fun h12 h => c_sr (o_1 (.b false) rfl (zA (zH ?_)))) fun h12 h => zK ?_
  ·
   cases h
   exact end0 rfl .r
  exact lE () h rfl rfl
 rintro ⟨⟩ h
 refine c_sr (o_m2 (.ref 1 7) (.y p0.Data) rfl (o_c (g0 rfl) rfl rfl rfl (lenE _ _) trivial (o_m2 (.b ((p0.Data.length : Int) == 0)) (.b ((p0.Data.length : Int) == 0)) rfl ?_)))
 rcases zE h with ⟨h7, h⟩ | ⟨h7, h⟩
 ·
  refine o_k3 rfl h7 (o_un rfl rfl rfl rfl rfl (o_un rfl rfl rfl rfl rfl (o_un rfl rfl rfl rfl rfl (o_un rfl rfl rfl rfl rfl (o_k1 rfl h7 (o_pT (.b true) h7 rfl (o_1 (.b true) rfl (zA (zH ?_)))))))))
  cases h
  exact end0 rfl .r
 refine o_s (.i p0.Kind) (gy rfl rfl rfl h7) rfl rfl rfl (o_s (.b (p0.Kind == 8)) (gy rfl rfl rfl h7) rfl rfl rfl (o_s (.b (p0.Kind == 8)) (gy rfl rfl rfl h7) rfl rfl rfl ?_))
 rcases zE h with ⟨h8, h⟩ | ⟨h8, h⟩
 ·
  refine o_s (.ref 1 7) (gy rfl rfl rfl h8) rfl rfl rfl (o_s (.y p0.Data) (gy rfl rfl rfl h8) rfl rfl rfl (o_c (gy rfl rfl rfl h8) rfl rfl rfl (lenE _ _) trivial (o_s (.b (decide ((p0.Data.length : Int) ≤ 512))) (gy rfl rfl rfl h8) rfl rfl rfl (o_pk (.b (decide ((p0.Data.length : Int) ≤ 512))) (b := true) h8 (gy rfl rfl rfl h7) rfl rfl rfl rfl rfl (o_pF (.b (decide ((p0.Data.length : Int) ≤ 512))) h7 rfl (o_1 (.b (decide ((p0.Data.length : Int) ≤ 512))) rfl (zA (zH ?_))))))))
  cases h
  exact end0 rfl .r
 refine o_k4 rfl h8 (o_pk (.b false) (b := false) h8 (gy rfl rfl rfl h7) rfl rfl rfl rfl rfl (o_pF (.b false) h7 rfl (o_1 (.b false) rfl (zA (zH ?_)))))
 cases h
 exact end0 rfl .r
end Go.Proofs.YtmgafkpkpmjieaaDoor
