/-
  Texts joined: see the remark at the head of each part.
-/
import Derived.Test.YtjomnccladjpgaaGreatQ09
import Derived.Test.YtjomnccladjpgaaGreatQ12
import Derived.Test.YtjomnccladjpgaaGreatQ15
import Derived.Test.YtjomnccladjpgaaGreatQ07
import Derived.Test.YtjomnccladjpgaaGreatQ10
import Derived.Test.YtjomnccladjpgaaGreatQ16
import Derived.Shelf.SlIterI.Nil
import Derived.Shelf.SlIterI.Sorted
import Derived.Shelf.SortM.Plain
import Derived.Shelf.SortM.SortNone
set_option linter.unusedVariables false
set_option linter.unusedSimpArgs false
/-
 Walks of functions: each function does what its model tells. Printed by a program of this claim's own (gen.py) off the given translation.
-/
namespace Go.Proofs.YtjomnccladjpgaaGreat
open Go Go.RowKit
set_option linter.unusedVariables false
set_option maxHeartbeats 4000000
set_option maxRecDepth 20000
theorem zK0 (p0 : (List UInt8)) (r : Int) (h : zF5 p0 = some r) : FC Tryz.prog 79 [.t (.d (.seq 1 (zN p0)))] [] (.t (.d (.lit (.int .u32 r)))) := by
 refine zD5 (rs := [.tmp 2]) (n := 37) Tryz.func79 rfl rfl (Nat.le_of_ble_eq_true rfl) rfl (pins := []) rfl (L := [(0, .y p0)]) rfl (c_sr (o_1 (.t (.d (.lit (.int .u32 0)))) rfl (zA (c_sr (o_1 (.t (.d (.lit (.int .u32 4294967295)))) rfl (zA (yY r (fun (y1 : Int) => [(3, .t (.d (.lit (.int .u32 y1))))]) (fun y1 => zGe y1) ?_ ?_)))))))
 ·
  refine c_sr (o_1 (.i 0) rfl (zA (zS (c_lp (fun (q : Int × Int) => [(0, .y p0), (3, .t (.d (.lit (.int .u32 q.1)))), (4, .i q.2)]) (fun nl2 q => zBe p0 nl2 q.1 q.2) (p0.length + 1) (4294967295, 0) h (fun _ => rfl) rfl rfl ?_))))
  rintro nl2 ⟨z2, z3⟩ h
  refine zJ (c_sr (o_m2 (.i z3) (.y p0) rfl (o_c (g0 rfl) rfl rfl rfl (lenE _ _) trivial (o_1 (.b (decide (z3 < (p0.length : Int)))) rfl (zA (c_if h rfl (fun h4 h => zG ?_) fun h4 h => zAQ ?_))))))
  ·
   refine yY r (fun (y5 : Int) => [(0, .y p0), (3, .t (.d (.lit (.int .u32 y5)))), (4, .i z3)]) (fun y5 => zGo (zBe p0 nl2) z3 y5) ?_ ?_
   ·
    refine zS (c_sr (o_m2 (.y p0) (.i z3) rfl ?_))
    refine bi h fun x6 h7 h => o_c (g0 rfl) rfl rfl rfl (idxE h7) (idxC h7) (o_1 (.t (.d (.lit (.int .u8 (x6.toNat : Int))))) rfl (o_c (g0 rfl) rfl rfl rfl (congrArg (fun z => A.t (.d (.lit (.int .u32 z)))) (u32_u8 _)) trivial (o_1 (.t (.d (.lit (.int .u32 (x6.toNat : Int))))) rfl (zA (c_sr (o_1 (.i 0) rfl (zA (zS ?_))))))))
    refine c_lp (fun (q : Int × Int × Int) => [(0, .y p0), (3, .t (.d (.lit (.int .u32 q.1)))), (4, .i z3), (5, .t (.d (.lit (.int .u32 q.2.1)))), (6, .i q.2.2)]) (fun nl4 q => zB5 (zBe p0 nl2) z3 nl4 q.1 q.2.1 q.2.2) (Int.toNat 8 + 1) (z2, (x6.toNat : Int), 0) h (fun _ => rfl) rfl rfl ?_
    rintro nl4 ⟨z8, z9, z10⟩ h
    refine zJ (c_sr (o_m2 (.i z10) (.b (decide (z10 < 8))) rfl (zA (c_if h rfl (fun h11 h => zG ?_) fun h11 h => zAQ ?_))))
    ·
     refine yY r (fun (y12 : Int) => [(0, .y p0), (3, .t (.d (.lit (.int .u32 y12)))), (4, .i z3), (5, .t (.d (.lit (.int .u32 (IntKind.u32.wrap (Int.tdiv z9 2)))))), (6, .i z10)]) (fun y12 => zDj (zB5 (zBe p0 nl2) z3 nl4) z9 z10 y12) ?_ ?_
     ·
      refine zS (c_sr (o_m6 (.t (.d (.lit (.int .u32 z8)))) (.t (.d (.lit (.int .u32 z9)))) (.t (.d (.lit (.int .u32 (IntKind.u32.wrap (z8 + z9)))))) (.t (.d (.lit (.int .u32 (Int.tmod (IntKind.u32.wrap (z8 + z9)) 2))))) (.b ((Int.tmod (IntKind.u32.wrap (z8 + z9)) 2) == 1)) (.b ((Int.tmod (IntKind.u32.wrap (z8 + z9)) 2) == 1)) rfl (zA (c_sr (o_m3 (.t (.d (.lit (.int .u32 z8)))) (.t (.d (.lit (.int .u32 (IntKind.u32.wrap (Int.tdiv z8 2)))))) (.t (.d (.lit (.int .u32 (IntKind.u32.wrap (Int.tdiv z8 2)))))) rfl (zA (c_sr ?_)))))))
      refine o_m3 (.t (.d (.lit (.int .u32 z9)))) (.t (.d (.lit (.int .u32 (IntKind.u32.wrap (Int.tdiv z9 2)))))) (.t (.d (.lit (.int .u32 (IntKind.u32.wrap (Int.tdiv z9 2)))))) rfl (zA (c_sr (o_1 (.b ((Int.tmod (IntKind.u32.wrap (z8 + z9)) 2) == 1)) rfl (zA (c_if h rfl (fun h13 h => zL (o_m3 (.t (.d (.lit (.int .u32 (IntKind.u32.wrap (Int.tdiv z8 2)))))) (.t (.d (.lit (.int .u32 (IntKind.u32.wrap ((((BitVec.ofInt IntKind.u32.bits (IntKind.u32.wrap (Int.tdiv z8 2))) ^^^ (BitVec.ofInt IntKind.u32.bits 3988292384)).toNat : Nat) : Int)))))) (.t (.d (.lit (.int .u32 (IntKind.u32.wrap ((((BitVec.ofInt IntKind.u32.bits (IntKind.u32.wrap (Int.tdiv z8 2))) ^^^ (BitVec.ofInt IntKind.u32.bits 3988292384)).toNat : Nat) : Int)))))) rfl (zA ?_))) fun h13 h => zG ?_)))))
      ·
       exact lE (IntKind.u32.wrap ((((BitVec.ofInt IntKind.u32.bits (IntKind.u32.wrap (Int.tdiv z8 2))) ^^^ (BitVec.ofInt IntKind.u32.bits 3988292384)).toNat : Nat) : Int)) h rfl rfl
      exact lE (IntKind.u32.wrap (Int.tdiv z8 2)) h rfl rfl
     rintro y12 h
     refine zL (o_m3 (.i z10) (.i (wi (z10 + 1))) (.i (wi (z10 + 1))) rfl (zA ?_))
     exact lE (y12, (IntKind.u32.wrap (Int.tdiv z9 2)), (wi (z10 + 1))) h rfl rfl
    exact lE z8 h rfl rfl
   rintro y5 h
   refine zL (o_m3 (.i z3) (.i (wi (z3 + 1))) (.i (wi (z3 + 1))) rfl (zA ?_))
   exact lE (y5, (wi (z3 + 1))) h rfl rfl
  exact lE z2 h rfl rfl
 rintro y1 h
 refine c_sr (o_m3 (.t (.d (.lit (.int .u32 y1)))) (.t (.d (.lit (.int .u32 (IntKind.u32.wrap (4294967295 - y1)))))) (.t (.d (.lit (.int .u32 (IntKind.u32.wrap (4294967295 - y1)))))) rfl (zA (zF ?_)))
 cases h
 exact end0 rfl .r
theorem zDQ (p0 : Int) (p1 : Int) (p2 : (List UInt8)) (p3 : Int) (w0 : Hp) (r : (List UInt8)) (h : zAK p0 p1 p2 p3 = some r) : FCH Tryz.prog 61 [.t (.d (.lit (.int .i64 p0))), .t (.d (.lit (.int .i64 p1))), .t (.d (.seq 1 (zN p2))), .t (.d (.lit (.int .i64 p3)))] [] [] (hpA w0) (hpA w0) (.t (.own 5 1 (zN r))) := by
 refine qR (rs := [.tmp 8]) (n := 34) [0] Tryz.func61 rfl rfl (Nat.le_of_ble_eq_true rfl) rfl (pins := []) rfl (L := [(HK, .hp (hpA w0)), (OB + 0, .free), (0, .i p0), (1, .i p1), (2, .y p2), (3, .i p3)]) rfl (c_sr (o_1 (.n) rfl (zA (c_sr (o_1 (.i p0) rfl (o_c (g0 rfl) rfl rfl rfl (congrArg (fun z => A.t (.d (.lit (.int .u8 z)))) (u8c _)) trivial (o_m2 (.t (.own 5 1 (zN [(U8 p0)]))) (.i p1) rfl (bi h fun x1 h2 h => o_cA (zCn _ _ _ h2) (g0 rfl) rfl (.cons .r (.cons .r .nil)) rfl ?_))))))))
 refine bi h fun x3 h4 h => o_cA (zAp _ _ _ h4) (g0 rfl) rfl (.cons .r (.cons .r .nil)) rfl (o_2 (.y x3) (.t (.own 5 1 (zN x3))) (g0 rfl) rfl rfl rfl (zA (zJ (qQ mixed (by kernel_rfl) (d_2 (.y x3) (.t (.own 5 1 (zN x3))) rfl (dg0 rfl) rfl rfl rfl rfl rfl (d_1 (.y p2) rfl rfl (bi h fun x5 h6 h => d_ca (zAp _ _ _ h6) rfl (dg0 rfl) rfl rfl rfl rfl rfl rfl rfl rfl (.cons .r (.cons .r .nil)) rfl rfl ?_)))))))
 refine bi h fun x7 h8 h => d_h0 [] (e := [(20, .t (.own 5 1 (zN (List.replicate x7 (0 : UInt8)))))]) (ks := [20]) rfl (dg0 rfl) rfl rfl (fun S' hM hok => zJt (c := cU8) hM rfl rfl rfl rfl rfl rfl rfl rfl rfl h8 (by first | (unfold zN; rw [List.map_replicate]; rfl) | (rw [List.map_replicate]; rfl)) rfl (hok _ rfl rfl)) rfl (bi h fun x9 h10 h => d_ca (zAp _ _ _ h10) rfl (dg0 rfl) rfl rfl rfl rfl rfl rfl rfl rfl (.cons .r (.cons .r .nil)) rfl rfl (d_2 (.y x9) (.t (.own 5 1 (zN x9))) rfl (dg0 rfl) rfl rfl rfl rfl rfl (yD (by kernel_rfl) (c_sr (o_1 (.i p3) rfl ?_)))))
 refine bi h fun x11 h12 h => o_cA (zCn _ _ _ h12) (g0 rfl) rfl (.cons .r (.cons .r .nil)) rfl (o_1 (.y x11) rfl (zA (c_sr (o_1 (.y x9) rfl (o_2 (.y x9) (.t (.own 5 1 (zN x9))) (g0 rfl) rfl rfl rfl (o_1 (.y x11) rfl (bi h fun x13 h14 h => o_cA (zAp _ _ _ h14) (g0 rfl) rfl (.cons .r (.cons .r .nil)) rfl ?_)))))))
 refine bi h fun x15 h16 h => o_cA (zK0 _ _ h16) (g0 rfl) rfl (.cons .r .nil) rfl (o_1 (.i (wi x15)) rfl (bi h fun x17 h18 h => o_cA (zCn _ _ _ h18) (g0 rfl) rfl (.cons .r (.cons .r .nil)) rfl (bi h fun x19 h20 h => o_cA (zAp _ _ _ h20) (g0 rfl) rfl (.cons .r (.cons .r .nil)) rfl (o_1 (.y x11) rfl ?_))))
 refine bi h fun x21 h22 h => o_cA (zAp _ _ _ h22) (g0 rfl) rfl (.cons .r (.cons .r .nil)) rfl (o_2 (.y x21) (.t (.own 5 1 (zN x21))) (g0 rfl) rfl rfl rfl (zA (zF ?_)))
 cases h; exact eR rfl rfl
theorem zHN (p0 : (Option Nat)) (p1 : Int) (w0 : Hp) (r : ((List zC) × Int)) (h : zEi p0 p1 w0 = some r) : FCH Tryz.prog 81 [.t ((ptT 9 p0)), .t (.d (.lit (.int .i64 p1)))] [] [] (hpA w0) (hpA w0) (.tup [.d (.seq 2 (List.map zB r.1)), .d (.lit (.int .i64 r.2))]) := by
 refine qR (rs := [.tmp 4, .tmp 5]) (n := 132) [0] Tryz.func81 rfl rfl (Nat.le_of_ble_eq_true rfl) rfl (pins := []) rfl (L := [(HK, .hp (hpA w0)), (OB + 0, .free), (0, .t ((ptT 9 p0))), (1, .i p1)]) rfl (c_sr (o_m2 (.n) (.i 0) rfl (zA (c_sr (o_1 (.n) rfl (zA (zJ (c_sr ?_))))))))
 refine o_m2 (.i p1) (.i p1) rfl (zA (zS (zDM (fun (q : (List zC) × Int) => [(0, .t ((ptT 9 p0))), (1, .i p1), (6, .t (.own 61 2 (List.map zB q.1))), (7, .i q.2), (HK, .hp (hpA w0)), (OB + 0, .free)]) (fun nl1 q => zAE p0 w0 p1 nl1 q.1 q.2) (16400) ([], p1) [] h (fun _ => rfl) rfl trivial ⟨.r, .r, (.t (.nilOwn _ _)), .r, .r, .r, trivial⟩ rfl ?_)))
 rintro nl1 ⟨z1, z2⟩ h
 refine zJ (c_sr (o_1 (.i z2) rfl (o_mv rfl (zI rfl) ?_)))
 rcases zQ h with ⟨h3, h⟩ | ⟨i4, h3, h⟩
 ·
  exact qF h
 refine o_nf 1 rfl (pq rfl h3) rfl (bi h fun x5 h6 h => o_ld (.i x5.Size) rfl (zAi h6) rfl (o_1 (.b (decide (z2 < x5.Size))) rfl (zA ?_)))
 refine c_if h rfl (fun h7 h => zG (zJ (zS (c_sr (o_f3 0 rfl (pq rfl h3) rfl (o_of (e := [(24, .t ((ptT 8 x5.D)))]) (g0 rfl) (h_ld mR rfl rfl rfl rfl (zAi h6) rfl (qI _ _) rfl rfl) rfl (o_m2 (.i z2) (.i (wi (2 + z2))) rfl ?_))))))) fun h7 h => zAQ (c_sr (o_m2 (.n) (.i 0) rfl (zA (zF ?_))))
 ·
  refine bi h fun x8 h9 h => o_cR (zD7 _ _ w0 _ h9) (g0 rfl) rfl (a2 (qO rfl) (aR rfl)) (r1 rfl) (o_1 (.y x8) rfl (zA (c_sr (o_1 (.y x8) rfl (bi h fun x10 h11 h => o_c (g0 rfl) rfl rfl rfl (cutE (c := cU8) h11) (cutC (c := cU8) h11) ?_)))))
  refine bi h fun x12 h13 h => o_cA (zGS _ _ h13) (g0 rfl) rfl (.cons .r .nil) rfl (o_m5 (.tup [.i x12.1, .i x12.2]) (.i x12.1) (.i x12.2) (.i x12.1) (.i x12.2) rfl (zA (yY r (fun (_ : Unit) => [(0, .t ((ptT 9 p0))), (1, .i p1), (6, .t (.own 61 2 (List.map zB z1))), (7, .i z2), (8, .y x8), (9, .i x12.1), (HK, .hp (hpA w0)), (OB + 0, .free)]) (fun _ => zAS (zAE p0 w0 p1 nl1) z2 x5 w0 x12 x8 z1) ?_ ?_)))
  ·
   refine zJ (qQ mixed (by kernel_rfl) (d_1 (.t (.d (.seq 2 (List.map zB z1)))) rfl rfl (d_c rfl (dg0 rfl) rfl rfl rfl rfl (lenE _ _) trivial (d_1 (.b (decide ((z1.length : Int) > 0))) rfl rfl (d_1 (.b (decide ((z1.length : Int) > 0))) rfl rfl ?_)))))
   rcases zP h with ⟨h44, h⟩ | ⟨h44, h⟩
   ·
    refine d_s (.i x12.1) rfl (dgy rfl rfl rfl rfl h44) rfl rfl rfl rfl (d_s (.t (.d (.seq 2 (List.map zB z1)))) rfl (dgy rfl rfl rfl rfl h44) rfl rfl rfl rfl (d_c rfl (dgy rfl rfl rfl rfl h44) rfl rfl rfl rfl (lenE _ _) trivial (d_s (.b (x12.1 == (z1.length : Int))) rfl (dgy rfl rfl rfl rfl h44) rfl rfl rfl rfl (d_pT (.b (x12.1 == (z1.length : Int))) h44 rfl rfl (d_1 (.b (x12.1 == (z1.length : Int))) rfl rfl ?_)))))
    rcases zP h with ⟨h45, h⟩ | ⟨h45, h⟩
    ·
     refine d_s (.y x8) rfl (dgy rfl rfl rfl rfl h45) rfl rfl rfl rfl (d_s (.i x12.1) rfl (dgy rfl rfl rfl rfl h45) rfl rfl rfl rfl (bi h fun x46 h47 h => d_h0 [] (e := [(46, .t (.own 5 1 (zN (List.replicate x46 (0 : UInt8)))))]) (ks := [46]) rfl (dgy rfl rfl rfl rfl h45) rfl rfl (fun S' hM hok => zJt (c := cU8) hM rfl rfl rfl rfl rfl rfl rfl rfl rfl h47 (by first | (unfold zN; rw [List.map_replicate]; rfl) | (rw [List.map_replicate]; rfl)) rfl (hok _ rfl rfl)) rfl (d_h0 [] (e := [(47, .t (.hpt (cd 9 i4) 0))]) (ks := [47]) rfl (dgy rfl rfl rfl rfl h45) rfl rfl (fun S' hM hok => h_mv hM (.inl rfl) ((zI rfl).trans (qM h3)) rfl (hok _ rfl rfl)) rfl (d_h0 [] (e := [(48, .t (.hpt (cd 9 i4) 0))]) (ks := [48]) rfl (dgy rfl rfl rfl rfl h45) rfl rfl (fun S' hM hok => h_nc hM rfl rfl rfl rfl (hok _ rfl rfl)) rfl (d_h0 [] (e := [(49, .t (.hpt (cd 9 i4) 2))]) (ks := [49]) rfl (dgy rfl rfl rfl rfl h45) rfl rfl (fun S' hM hok => h_fd hM rfl rfl rfl rfl rfl (hok _ rfl rfl)) rfl (d_h (e := [(50, .i x5.Base)]) (ks := [50]) rfl (dgy rfl rfl rfl rfl h45) rfl rfl (fun S' hM hk hok => h_ld hM hk rfl rfl rfl (zAi h6) rfl rfl rfl (hok _ rfl rfl)) rfl (d_s (.i z2) rfl (dgy rfl rfl rfl rfl h45) rfl rfl rfl rfl (d_s (.i (wi (x5.Base + z2))) rfl (dgy rfl rfl rfl rfl h45) rfl rfl rfl rfl ?_))))))))
     refine bi h fun x48 h49 h => d_cR (zDQ _ _ _ _ w0 _ h49) rfl (dgy rfl rfl rfl rfl h45) rfl (.cons (.plain .r rfl) (.cons (.plain .r rfl) (.cons (.plain .r rfl) (.cons (.plain .r rfl) .nil)))) (r1 rfl) (bi h fun x50 h51 h => d_ca (zCV _ _ _ h51) rfl (dgy rfl rfl rfl rfl h45) rfl rfl rfl rfl rfl rfl rfl rfl (.cons .r (.cons .r .nil)) rfl rfl (d_pT (.b x50) h45 rfl rfl (yD (by kernel_rfl) ?_)))
     refine c_if h rfl (fun h52 h => c_sr (o_2 (.t (.d (.seq 2 (List.map zB z1)))) (.t (.own 61 2 (List.map zB z1))) (g0 rfl) rfl rfl rfl (o_m4 (.i z2) (.i (wi (z2 + 1))) (.i p1) (.i (wi ((wi (z2 + 1)) - p1))) rfl (o_2 (.t (.d (.seq 2 (List.map zB z1)))) (.t (.own 61 2 (List.map zB z1))) (g0 rfl) rfl rfl rfl (o_1 (.i (wi ((wi (z2 + 1)) - p1))) rfl (zA (zF ?_))))))) fun h52 h => zG ?_
     ·
      cases h; exact eR rfl rfl
     exact lE () h rfl rfl
    refine d_k1 rfl rfl h45 (d_k1 rfl rfl h45 (d_k1 rfl rfl h45 (d_k1 rfl rfl h45 (d_k1 rfl rfl h45 (d_k1 rfl rfl h45 (d_k1 rfl rfl h45 (d_k1 rfl rfl h45 (d_k1 rfl rfl h45 (d_k1 rfl rfl h45 (d_k1 rfl rfl h45 ?_))))))))))
    refine d_pF (.b false) h45 rfl rfl (yD (by kernel_rfl) (c_f rfl rfl (zG ?_)))
    exact lE () h rfl rfl
   refine d_k1 rfl rfl h44 (d_k1 rfl rfl h44 (d_k1 rfl rfl h44 (d_k1 rfl rfl h44 (d_pF (.b false) h44 rfl rfl (d_1 (.b false) rfl rfl (d_k1 rfl rfl rfl (d_k1 rfl rfl rfl (d_k1 rfl rfl rfl (d_k1 rfl rfl rfl (d_k1 rfl rfl rfl ?_))))))))))
   refine d_k1 rfl rfl rfl (d_k1 rfl rfl rfl (d_k1 rfl rfl rfl (d_k1 rfl rfl rfl (d_k1 rfl rfl rfl (d_k1 rfl rfl rfl (d_pF (.b false) rfl rfl rfl (yD (by kernel_rfl) (c_f rfl rfl (zG ?_)))))))))
   exact lE () h rfl rfl
  rintro ⟨⟩ h
  refine zJ (zJ (qQ mixed (by kernel_rfl) (d_1 (.i z2) rfl rfl (d_1 (.i (wi (z2 + 1))) rfl rfl (d_mv rfl rfl (pq rfl h3) (d_nc rfl rfl rfl (d_fd 1 rfl rfl rfl (d_ld (.i x5.Size) rfl rfl (zAi h6) rfl ?_))))))))
  refine d_1 (.b (decide ((wi (z2 + 1)) ≥ x5.Size))) rfl rfl (d_1 (.b (decide ((wi (z2 + 1)) ≥ x5.Size))) rfl rfl ?_)
  rcases zP h with ⟨h14, h⟩ | ⟨h14, h⟩
  ·
   refine d_k1 rfl rfl h14 (d_k1 rfl rfl h14 (d_k1 rfl rfl h14 (d_k1 rfl rfl h14 (d_k1 rfl rfl h14 (d_k1 rfl rfl h14 (d_k1 rfl rfl h14 (d_k1 rfl rfl h14 (d_k1 rfl rfl h14 (d_k1 rfl rfl h14 (d_k1 rfl rfl h14 (d_k1 rfl rfl h14 ?_)))))))))))
   refine d_k1 rfl rfl h14 (d_k1 rfl rfl h14 (d_k1 rfl rfl h14 (d_k1 rfl rfl h14 (d_pT (.b true) h14 rfl rfl (d_1 (.b true) rfl rfl (d_k1 rfl rfl rfl (d_k1 rfl rfl rfl (d_k1 rfl rfl rfl (d_k1 rfl rfl rfl (d_k1 rfl rfl rfl ?_))))))))))
   refine d_k1 rfl rfl rfl (d_k1 rfl rfl rfl (d_k1 rfl rfl rfl (d_k1 rfl rfl rfl (d_k1 rfl rfl rfl (d_k1 rfl rfl rfl (d_k1 rfl rfl rfl (d_k1 rfl rfl rfl ?_)))))))
   refine d_pT (.b true) rfl rfl rfl (yD (by kernel_rfl) (c_t rfl rfl (c_sr (o_m2 (.n) (.i 0) rfl (zA (zF ?_))))))
   cases h
   exact ⟨⟨_, rfl, (.tup (.cons (.d (.nil _)) (.cons .r .nil)))⟩, trivial, rfl⟩
  refine d_s (.i x12.1) rfl (dgy rfl rfl rfl rfl h14) rfl rfl rfl rfl (d_h0 [] (e := [(70, .t (.hpt (cd 9 i4) 0))]) (ks := [70]) rfl (dgy rfl rfl rfl rfl h14) rfl rfl (fun S' hM hok => h_mv hM (.inl rfl) ((zI rfl).trans (qM h3)) rfl (hok _ rfl rfl)) rfl (d_h0 [] (e := [(71, .t (.hpt (cd 9 i4) 0))]) (ks := [71]) rfl (dgy rfl rfl rfl rfl h14) rfl rfl (fun S' hM hok => h_nc hM rfl rfl rfl rfl (hok _ rfl rfl)) rfl (d_h0 [] (e := [(72, .t (.hpt (cd 9 i4) 0))]) (ks := [72]) rfl (dgy rfl rfl rfl rfl h14) rfl rfl (fun S' hM hok => h_fd hM rfl rfl rfl rfl rfl (hok _ rfl rfl)) rfl (d_h (e := [(73, .t ((ptT 8 x5.D)))]) (ks := [73]) rfl (dgy rfl rfl rfl rfl h14) rfl rfl (fun S' hM hk hok => h_ld hM hk rfl rfl rfl (zAi h6) rfl (qI _ _) rfl (hok _ rfl rfl)) rfl ?_))))
  rcases zQ h with ⟨h15, h⟩ | ⟨i16, h15, h⟩
  ·
   exact qF h
  refine d_h0 [] (e := [(74, .t (.hpt (cd 8 i16) 0))]) (ks := [74]) rfl (dgy rfl rfl rfl rfl h14) rfl rfl (fun S' hM hok => h_nc hM rfl (zI rfl) (zCx h15) rfl (hok _ rfl rfl)) rfl (d_h0 [] (e := [(75, .t (.hpt (cd 8 i16) 0))]) (ks := [75]) rfl (dgy rfl rfl rfl rfl h14) rfl rfl (fun S' hM hok => h_fd hM rfl rfl rfl rfl rfl (hok _ rfl rfl)) rfl (bi h fun x17 h18 h => d_h (e := [(76, .t (.hvw (cd 11 x17.Kept.1) 0 40 1 x17.Kept.2))]) (ks := [76]) rfl (dgy rfl rfl rfl rfl h14) rfl rfl (fun S' hM hk hok => h_ld hM hk rfl rfl rfl (zBn h18) rfl rfl rfl (hok _ rfl rfl)) rfl (d_h0 [] (e := [(77, .i (x17.Kept.2 : Int))]) (ks := [77]) rfl (dgy rfl rfl rfl rfl h14) rfl rfl (fun S' hM hok => h_ln hM rfl rfl rfl rfl rfl (hok _ rfl rfl)) rfl (d_s (.i (wi ((x17.Kept.2 : Int) - 2))) rfl (dgy rfl rfl rfl rfl h14) rfl rfl rfl rfl (d_h0 [] (e := [(79, .t (.hpt (cd 9 i4) 0))]) (ks := [79]) rfl (dgy rfl rfl rfl rfl h14) rfl rfl (fun S' hM hok => h_mv hM (.inl rfl) ((zI rfl).trans (qM h3)) rfl (hok _ rfl rfl)) rfl (d_h0 [] (e := [(80, .t (.hpt (cd 9 i4) 0))]) (ks := [80]) rfl (dgy rfl rfl rfl rfl h14) rfl rfl (fun S' hM hok => h_nc hM rfl rfl rfl rfl (hok _ rfl rfl)) rfl (d_h0 [] (e := [(81, .t (.hpt (cd 9 i4) 1))]) (ks := [81]) rfl (dgy rfl rfl rfl rfl h14) rfl rfl (fun S' hM hok => h_fd hM rfl rfl rfl rfl rfl (hok _ rfl rfl)) rfl (d_h (e := [(82, .i x5.Size)]) (ks := [82]) rfl (dgy rfl rfl rfl rfl h14) rfl rfl (fun S' hM hk hok => h_ld hM hk rfl rfl rfl (zAi h6) rfl rfl rfl (hok _ rfl rfl)) rfl (d_s (.i (wi ((wi ((x17.Kept.2 : Int) - 2)) - x5.Size))) rfl (dgy rfl rfl rfl rfl h14) rfl rfl rfl rfl ?_)))))))))
  refine d_s (.b (decide (x12.1 ≥ (wi ((wi ((x17.Kept.2 : Int) - 2)) - x5.Size))))) rfl (dgy rfl rfl rfl rfl h14) rfl rfl rfl rfl (d_pF (.b (decide (x12.1 ≥ (wi ((wi ((x17.Kept.2 : Int) - 2)) - x5.Size))))) h14 rfl rfl (d_1 (.b (decide (x12.1 ≥ (wi ((wi ((x17.Kept.2 : Int) - 2)) - x5.Size))))) rfl rfl ?_))
  rcases zP h with ⟨h19, h⟩ | ⟨h19, h⟩
  ·
   refine d_k1 rfl rfl h19 (d_k1 rfl rfl h19 (d_k1 rfl rfl h19 (d_k1 rfl rfl h19 (d_k1 rfl rfl h19 (d_k1 rfl rfl h19 (d_k1 rfl rfl h19 (d_k1 rfl rfl h19 (d_k1 rfl rfl h19 (d_k1 rfl rfl h19 (d_k1 rfl rfl h19 (d_k1 rfl rfl h19 ?_)))))))))))
   refine d_k1 rfl rfl h19 (d_pT (.b true) h19 rfl rfl (yD (by kernel_rfl) (c_t rfl rfl (c_sr (o_m2 (.n) (.i 0) rfl (zA (zF ?_)))))))
   cases h
   exact ⟨⟨_, rfl, (.tup (.cons (.d (.nil _)) (.cons .r .nil)))⟩, trivial, rfl⟩
  refine d_s (.y x8) rfl (dgy rfl rfl rfl rfl h19) rfl rfl rfl rfl (d_s (.i x12.1) rfl (dgy rfl rfl rfl rfl h19) rfl rfl rfl rfl (d_s (.y x8) rfl (dgy rfl rfl rfl rfl h19) rfl rfl rfl rfl (bi h fun x20 h21 h => d_c rfl (dgy rfl rfl rfl rfl h19) rfl rfl rfl rfl (cutE (c := cU8) h21) (cutC (c := cU8) h21) (d_h0 [] (e := [(91, .t (.hpt (cd 9 i4) 0))]) (ks := [91]) rfl (dgy rfl rfl rfl rfl h19) rfl rfl (fun S' hM hok => h_mv hM (.inl rfl) ((zI rfl).trans (qM h3)) rfl (hok _ rfl rfl)) rfl (d_h0 [] (e := [(92, .t (.hpt (cd 9 i4) 0))]) (ks := [92]) rfl (dgy rfl rfl rfl rfl h19) rfl rfl (fun S' hM hok => h_nc hM rfl rfl rfl rfl (hok _ rfl rfl)) rfl (d_h0 [] (e := [(93, .t (.hpt (cd 9 i4) 2))]) (ks := [93]) rfl (dgy rfl rfl rfl rfl h19) rfl rfl (fun S' hM hok => h_fd hM rfl rfl rfl rfl rfl (hok _ rfl rfl)) rfl (d_h (e := [(94, .i x5.Base)]) (ks := [94]) rfl (dgy rfl rfl rfl rfl h19) rfl rfl (fun S' hM hk hok => h_ld hM hk rfl rfl rfl (zAi h6) rfl rfl rfl (hok _ rfl rfl)) rfl (d_s (.i z2) rfl (dgy rfl rfl rfl rfl h19) rfl rfl rfl rfl (d_s (.i (wi (x5.Base + z2))) rfl (dgy rfl rfl rfl rfl h19) rfl rfl rfl rfl ?_)))))))))
  refine bi h fun x22 h23 h => d_cR (zDQ _ _ _ _ w0 _ h23) rfl (dgy rfl rfl rfl rfl h19) rfl (.cons (.plain .r rfl) (.cons (.plain .r rfl) (.cons (.plain .r rfl) (.cons (.plain .r rfl) .nil)))) (r1 rfl) (bi h fun x24 h25 h => d_ca (zCV _ _ _ h25) rfl (dgy rfl rfl rfl rfl h19) rfl rfl rfl rfl rfl rfl rfl rfl (.cons .r (.cons .r .nil)) rfl rfl (d_s (.b (!x24)) rfl (dgy rfl rfl rfl rfl h19) rfl rfl rfl rfl (d_pF (.b (!x24)) h19 rfl rfl (yD (by kernel_rfl) ?_))))
  refine c_if h rfl (fun h26 h => c_sr (o_m2 (.n) (.i 0) rfl (zA (zF ?_)))) fun h26 h => zG (c_sr (o_f3 0 rfl (pq rfl h3) rfl (o_of (e := [(104, .t ((ptT 8 x5.D)))]) (g0 rfl) (h_ld mR rfl rfl rfl rfl (zAi h6) rfl (qI _ _) rfl rfl) rfl (o_m2 (.i z2) (.i (wi (3 + z2))) rfl ?_))))
  ·
   cases h
   exact ⟨⟨_, rfl, (.tup (.cons (.d (.nil _)) (.cons .r .nil)))⟩, trivial, rfl⟩
  refine bi h fun x27 h28 h => o_cR (zD7 _ _ w0 _ h28) (g0 rfl) rfl (a2 (qO rfl) (aR rfl)) (r1 rfl) (o_1 (.y x27) rfl (zA (zJ (zJ (qQ mixed (by kernel_rfl) (d_1 (.y x27) rfl rfl (d_1 (.i x12.1) rfl rfl (d_1 (.y x27) rfl rfl ?_))))))))
  refine bi h fun x29 h30 h => d_c rfl (dg0 rfl) rfl rfl rfl rfl (cutE (c := cU8) h30) (cutC (c := cU8) h30) (d_mv rfl rfl (pq rfl h3) (d_nc rfl rfl rfl (d_fd 2 rfl rfl rfl (d_ld (.i x5.Base) rfl rfl (zAi h6) rfl (d_1 (.i z2) rfl rfl (d_1 (.i (wi (x5.Base + z2))) rfl rfl (d_1 (.i (wi ((wi (x5.Base + z2)) + 1))) rfl rfl ?_)))))))
  refine bi h fun x31 h32 h => d_cR (zDQ _ _ _ _ w0 _ h32) rfl (dg0 rfl) rfl (.cons (.plain .r rfl) (.cons (.plain .r rfl) (.cons (.plain .r rfl) (.cons (.plain .r rfl) .nil)))) (r1 rfl) (bi h fun x33 h34 h => d_ca (zCV _ _ _ h34) rfl (dg0 rfl) rfl rfl rfl rfl rfl rfl rfl rfl (.cons .r (.cons .r .nil)) rfl rfl (d_1 (.b (!x33)) rfl rfl (yD (by kernel_rfl) ?_)))
  refine c_if h rfl (fun h35 h => c_sr (o_m2 (.n) (.i 0) rfl (zA (zF ?_)))) fun h35 h => zG (qQ mixed (by kernel_rfl) (d_2 (.t (.d (.seq 2 (List.map zB z1)))) (.t (.own 61 2 (List.map zB z1))) rfl (dg0 rfl) rfl rfl rfl rfl rfl (d_1 (.i x12.1) rfl rfl (d_1 (.y x8) rfl rfl ?_))))
  ·
   cases h
   exact ⟨⟨_, rfl, (.tup (.cons (.d (.nil _)) (.cons .r .nil)))⟩, trivial, rfl⟩
  refine bi h fun x36 h37 h => d_c rfl (dg0 rfl) rfl rfl rfl rfl (cutE (c := cU8) h37) (cutC (c := cU8) h37) (d_1 (.y x27) rfl rfl (bi h fun x38 h39 h => d_c rfl (dg0 rfl) rfl rfl rfl rfl (cutE (c := cU8) h39) (cutC (c := cU8) h39) (bi h fun x40 h41 h => d_ca (zAp _ _ _ h41) rfl (dg0 rfl) rfl rfl rfl rfl rfl rfl rfl rfl (.cons .r (.cons .r .nil)) rfl rfl (d_1 (.t (.agg [.i x12.1, .y x40])) rfl rfl (d_1 (.t (.own 61 2 (List.map zB [(zC.mk x12.1 x40)]))) rfl rfl ?_)))))
  refine bi h fun x42 h43 h => d_2c rfl (dg0 rfl) rfl rfl rfl rfl rfl (appE (c := zB) h43) (appC (c := zB) h43) (d_2 (.t (.d (.seq 2 (List.map zB x42)))) (.t (.own 61 2 (List.map zB x42))) rfl (dg0 rfl) rfl rfl rfl rfl rfl (yD (by kernel_rfl) (zL (o_m3 (.i z2) (.i (wi (z2 + 2))) (.i (wi (z2 + 2))) rfl (zA ?_)))))
  exact lE (x42, (wi (z2 + 2))) h rfl rfl
 cases h
 exact ⟨⟨_, rfl, (.tup (.cons (.d (.nil _)) (.cons .r .nil)))⟩, trivial, rfl⟩
theorem zG0 (p0 : (Option Nat)) (w0 : Hp) (r : (List zC)) (h : zCo p0 w0 = some r) : FCH Tryz.prog 66 [.t ((ptT 9 p0))] [] [] (hpA w0) (hpA w0) (.t (.own 61 2 (List.map zB r))) := by
 refine qR (rs := [.tmp 2]) (n := 22) [] Tryz.func66 rfl rfl (Nat.le_of_ble_eq_true rfl) rfl (pins := []) rfl (L := [(HK, .hp (hpA w0)), (0, .t ((ptT 9 p0)))]) rfl (c_sr (o_1 (.n) rfl (zA (c_sr (o_1 (.n) rfl (zA (c_sr (o_1 (.i 0) rfl (zA (zS (zDM (fun (q : (List zC) × Int) => [(0, .t ((ptT 9 p0))), (3, .t (.own 61 2 (List.map zB q.1))), (4, .i q.2), (HK, .hp (hpA w0))]) (fun nl1 q => zBA p0 w0 nl1 q.1 q.2) (16400) ([], 0) [] h (fun _ => rfl) rfl trivial ⟨.r, (.t (.nilOwn _ _)), .r, .r, trivial⟩ rfl ?_)))))))))))
 rintro nl1 ⟨z1, z2⟩ h
 refine zS (c_sr (o_mv rfl (zI rfl) (o_1 (.i z2) rfl ?_)))
 refine bi h fun x3 h4 h => o_cR (zHN _ _ w0 _ h4) (g0 rfl) rfl (a2 (qO rfl) (aR rfl)) (r2 rfl) (o_m5 (.tup [.d (.seq 2 (List.map zB x3.1)), .i x3.2]) (.t (.d (.seq 2 (List.map zB x3.1)))) (.i x3.2) (.t (.d (.seq 2 (List.map zB x3.1)))) (.i x3.2) rfl (zA (zJ (c_sr (o_m2 (.i x3.2) (.b (x3.2 == 0)) rfl (zA ?_))))))
 refine c_if h rfl (fun h5 h => c_sr (o_2 (.t (.d (.seq 2 (List.map zB z1)))) (.t (.own 61 2 (List.map zB z1))) (g0 rfl) rfl rfl rfl (o_2 (.t (.d (.seq 2 (List.map zB z1)))) (.t (.own 61 2 (List.map zB z1))) (g0 rfl) rfl rfl rfl (zA (zF ?_))))) fun h5 h => zG (c_sr (o_2 (.t (.d (.seq 2 (List.map zB z1)))) (.t (.own 61 2 (List.map zB z1))) (g0 rfl) rfl rfl rfl (o_1 (.t (.d (.seq 2 (List.map zB x3.1)))) rfl ?_)))
 ·
  cases h; exact eR rfl rfl
 refine bi h fun x6 h7 h => o_2c (g0 rfl) rfl rfl rfl (appE (c := zB) h7) (appC (c := zB) h7) (o_2 (.t (.d (.seq 2 (List.map zB x6)))) (.t (.own 61 2 (List.map zB x6))) (g0 rfl) rfl rfl rfl (zA (zL (o_m4 (.i z2) (.i x3.2) (.i (wi (z2 + x3.2))) (.i (wi (z2 + x3.2))) rfl (zA ?_)))))
 exact lE (x6, (wi (z2 + x3.2))) h rfl rfl
theorem zI4 (p0 : (Option Nat)) (w0 : Hp) (r : ((Option Nat) × Int × Hp)) (h : zC9 p0 w0 = some r) : FCH Tryz.prog 40 [.t ((ptT 8 p0))] [] [] (hpA w0) (hpA r.2.2) (.tup [(ptT 9 r.1), .d (.lit (.int .i64 r.2.1))]) := by
 refine qR (rs := [.tmp 2, .tmp 3]) (n := 76) [] Tryz.func40 rfl rfl (Nat.le_of_ble_eq_true rfl) rfl (pins := []) rfl (L := [(HK, .hp (hpA w0)), (0, .t ((ptT 8 p0)))]) rfl (c_sr (o_of (e := [(2, .t (.d (.lit (.pointer none))))]) (g0 rfl) (h_mv mR (.inr rfl) rfl rfl rfl) rfl (o_1 (.i 0) rfl (zA (zJ (c_sr (o_mv rfl (zI rfl) ?_)))))))
 rcases zQ h with ⟨h1, h⟩ | ⟨i2, h1, h⟩
 ·
  exact qF h
 refine o_nf 3 rfl (pq rfl h1) rfl (bi h fun x3 h4 h => o_ld (.b x3.Off) rfl (zBn h4) rfl (zA ?_))
 refine c_if h rfl (fun h5 h => c_sr (o_of (e := [(2, .t (.d (.lit (.pointer none))))]) (g0 rfl) (h_mv mR (.inr rfl) rfl rfl rfl) rfl (o_1 (.i 30) rfl (zA (zF ?_))))) fun h5 h => zG (c_sr (o_mv rfl (pq rfl h1) (o_f3 4 rfl (pq rfl h1) rfl (o_ld (.i x3.Lives) rfl (zBn h4) rfl (o_of (e := [(18, .ag [.hpt (cd 8 i2) 0, .i 0, .i 0, .i 0, .i 0, .i x3.Lives, .i 0])]) (g0 rfl) (h_bd mR rfl rfl rfl rfl) rfl (o_of (e := [(HK, .hp (hpA (w0.nw_rl (zT.mk (some i2) 0 0 0 0 x3.Lives 0)))), (19, .t (.hpt (cd 9 w0.ln_rl) 0))]) (g0 rfl) (h_box mR rfl rfl rfl rfl rfl (fr_rl _) (nw_rl _ (zT.mk (some i2) 0 0 0 0 x3.Lives 0))) rfl ?_))))))
 ·
  cases h; exact eR rfl rfl
 refine o_of (e := [(4, .t (.hpt (cd 9 w0.ln_rl) 0))]) (g0 rfl) (h_mv mR (.inr rfl) rfl rfl rfl) rfl (zA (yY r (fun (y6 : Hp) => [(4, .t (.hpt (cd 9 w0.ln_rl) 0)), (HK, .hp (hpA y6))]) (fun y6 => zDz w0 y6) ?_ ?_))
 ·
  refine c_sr (o_1 (.i 0) rfl (zA (zS (c_lp (fun (q : Int × Hp) => [(0, .t ((ptT 8 p0))), (4, .t (.hpt (cd 9 w0.ln_rl) 0)), (5, .i q.1), (HK, .hp (hpA q.2))]) (fun nl2 q => zAq i2 w0 nl2 q.1 q.2) (Int.toNat 2 + 1) (0, (w0.nw_rl (zT.mk (some i2) 0 0 0 0 x3.Lives 0))) h (fun _ => rfl) rfl rfl ?_))))
  rintro nl2 ⟨z19, z20⟩ h
  refine zJ (c_sr (o_m2 (.i z19) (.b (decide (z19 < 2))) rfl (zA (c_if h rfl (fun h21 h => zG ?_) fun h21 h => zAQ ?_))))
  ·
   refine yY r (fun (y22 : Hp) => [(0, .t ((ptT 8 p0))), (4, .t (.hpt (cd 9 w0.ln_rl) 0)), (5, .i z19), (HK, .hp (hpA y22))]) (fun y22 => zDO (zAq i2 w0 nl2) z19 y22) ?_ ?_
   ·
    refine zS (c_sr (o_mv rfl (pq rfl h1) (o_1 (.i z19) rfl (bi h fun x23 h24 h => o_cR (zIh _ _ z20 _ h24) (g0 rfl) rfl (a2 aH (aR rfl)) (r2 rfl) (o_m5 (.tup [.i x23.1, .i x23.2]) (.i x23.1) (.i x23.2) (.i x23.1) (.i x23.2) rfl (zA (c_sr (o_1 (.i x23.1) rfl (o_f3 2 rfl rfl rfl ?_)))))))))
    refine bi h fun x25 h26 h => o_ld (.i x25.Base) rfl (zAi h26) rfl (o_1 (.b (decide (x23.1 > x25.Base))) rfl (zA ?_))
    refine c_if h rfl (fun h27 h => c_sr (o_mv (y := .t (.hpt (cd 9 w0.ln_rl) 0)) rfl rfl (o_1 (.i x23.1) rfl (o_nf 2 rfl rfl rfl (o_sH rfl (zAi h26) (zJT (x' := (zT.mk x25.D x25.Size x23.1 x25.Slot x25.Used x25.Life x25.Commits)) h26) rfl rfl (zA (c_sr ?_))))))) fun h27 h => zG ?_
    ·
     refine o_mv (y := .t (.hpt (cd 9 w0.ln_rl) 0)) rfl rfl (o_1 (.i x23.2) rfl (o_nf 1 rfl rfl rfl (o_sH rfl (zAi (zR h26)) (zJT (x' := (zT.mk x25.D x23.2 x23.1 x25.Slot x25.Used x25.Life x25.Commits)) (zR h26)) rfl rfl (zA (zL (o_mv (y := .t (.hpt (cd 9 w0.ln_rl) 0)) rfl rfl (o_1 (.i z19) rfl (o_nf 3 rfl rfl rfl ?_))))))))
     refine o_sH rfl (zAi (zR (zR h26))) (zJT (x' := (zT.mk x25.D x23.2 x23.1 z19 x25.Used x25.Life x25.Commits)) (zR (zR h26))) rfl rfl (zA ?_)
     exact lE (((z20.st_rl w0.ln_rl (zT.mk x25.D x25.Size x23.1 x25.Slot x25.Used x25.Life x25.Commits)).st_rl w0.ln_rl (zT.mk x25.D x23.2 x23.1 x25.Slot x25.Used x25.Life x25.Commits)).st_rl w0.ln_rl (zT.mk x25.D x23.2 x23.1 z19 x25.Used x25.Life x25.Commits)) h rfl rfl
    exact lE z20 h rfl rfl
   rintro y22 h
   refine zL (o_m3 (.i z19) (.i (wi (z19 + 1))) (.i (wi (z19 + 1))) rfl (zA ?_))
   exact lE ((wi (z19 + 1)), y22) h rfl rfl
  exact lE z20 h rfl rfl
 rintro y6 h
 refine zJ (c_sr (o_f3 2 rfl rfl rfl (bi h fun x7 h8 h => o_ld (.i x7.Base) rfl (zAi h8) rfl (o_1 (.b (x7.Base == 0)) rfl (zA ?_)))))
 refine c_if h rfl (fun h9 h => c_sr (o_of (e := [(2, .t (.d (.lit (.pointer none))))]) (g0 rfl) (h_mv mR (.inr rfl) rfl rfl rfl) rfl (o_1 (.i 11) rfl (zA (zF ?_))))) fun h9 h => zG (zJ (zJ (qQ mixed (by kernel_rfl) (d_mv (y := .t (.hpt (cd 9 w0.ln_rl) 0)) rfl rfl rfl (d_nc rfl rfl rfl (d_fd 2 rfl rfl rfl (d_ld (.i x7.Base) rfl rfl (zAi h8) rfl (d_mv (y := .t (.hpt (cd 9 w0.ln_rl) 0)) rfl rfl rfl (d_nc rfl rfl rfl ?_)))))))))
 ·
  cases h; exact eR rfl rfl
 refine d_fd 1 rfl rfl rfl (d_ld (.i x7.Size) rfl rfl (zAi h8) rfl (d_1 (.i (wi (2305843009213693952 - x7.Size))) rfl rfl (d_1 (.b (decide (x7.Base > (wi (2305843009213693952 - x7.Size))))) rfl rfl (yD (by kernel_rfl) ?_))))
 refine c_if h rfl (fun h10 h => c_sr (o_of (e := [(2, .t (.d (.lit (.pointer none))))]) (g0 rfl) (h_mv mR (.inr rfl) rfl rfl rfl) rfl (o_1 (.i 3) rfl (zA (zF ?_))))) fun h10 h => zG (c_sr (o_mv (y := .t (.hpt (cd 9 w0.ln_rl) 0)) rfl rfl (o_mv (y := .t (.hpt (cd 9 w0.ln_rl) 0)) rfl rfl ?_)))
 ·
  cases h; exact eR rfl rfl
 refine bi h fun x11 h12 h => o_cR (zG0 _ y6 _ h12) (g0 rfl) rfl (a1 aH) (r1 rfl) (bi h fun x13 h14 h => o_cH (zEt _ _ y6 _ h14) (g0 rfl) rfl (a2 aH (aR rfl)) (r1 rfl) (o_1 (.i x13.1) rfl (zA (zJ (c_sr (o_m2 (.i x13.1) (.b (x13.1 != 0)) rfl (zA ?_)))))))
 refine c_if h rfl (fun h15 h => c_sr (o_1 (.i x13.1) rfl (o_of (e := [(2, .t (.d (.lit (.pointer none))))]) (g0 rfl) (h_mv mR (.inr rfl) rfl rfl rfl) rfl (o_1 (.i x13.1) rfl (zA (zF ?_)))))) fun h15 h => zG (c_sr (o_mv (y := .t (.hpt (cd 9 w0.ln_rl) 0)) rfl rfl ?_))
 ·
  cases h; exact eR rfl rfl
 refine bi h fun x16 h17 h => o_cH (zCJ _ x13.2 _ h17) (g0 rfl) rfl (a1 aH) (r1 rfl) (o_1 (.i x16.1) rfl (zA (zJ (c_sr (o_m2 (.i x16.1) (.b (x16.1 != 0)) rfl (zA ?_))))))
 refine c_if h rfl (fun h18 h => c_sr (o_1 (.i x16.1) rfl (o_of (e := [(2, .t (.d (.lit (.pointer none))))]) (g0 rfl) (h_mv mR (.inr rfl) rfl rfl rfl) rfl (o_1 (.i x16.1) rfl (zA (zF ?_)))))) fun h18 h => zG (c_sr (o_mv (y := .t (.hpt (cd 9 w0.ln_rl) 0)) rfl rfl (o_of (e := [(2, .t (.hpt (cd 9 w0.ln_rl) 0))]) (g0 rfl) (h_mv mR (.inr rfl) rfl rfl rfl) rfl (o_1 (.i 0) rfl (zA (zF ?_))))))
 ·
  cases h; exact eR rfl rfl
 cases h; exact eR rfl rfl
theorem zBx (p0 : (Option Nat)) (w0 : Hp) (r : Int) (h : yT p0 w0 = some r) : FCH Tryz.prog 14 [.t ((ptT 9 p0))] [] [] (hpA w0) (hpA w0) (.t (.d (.lit (.int .i64 r)))) := by
 refine qR (rs := [.tmp 2]) (n := 17) [] Tryz.func14 rfl rfl (Nat.le_of_ble_eq_true rfl) rfl (pins := []) rfl (L := [(HK, .hp (hpA w0)), (0, .t ((ptT 9 p0)))]) rfl (c_sr (o_1 (.i 0) rfl (zA (zJ (qQ mixed (by kernel_rfl) ?_)))))
 rcases zQ h with ⟨h1, h⟩ | ⟨i2, h1, h⟩
 ·
  refine d_mv rfl rfl ((zI rfl).trans (qL h1)) ?_
  exact qF h
 refine d_mv rfl rfl (pq rfl h1) (d_nc rfl rfl rfl (d_fd 0 rfl rfl rfl (bi h fun x3 h4 h => d_h (e := [(6, .t ((ptT 8 x3.D)))]) (ks := [6]) rfl (dg0 rfl) rfl rfl (fun S' hM hk hok => h_ld hM hk rfl rfl rfl (zAi h4) rfl (qI _ _) rfl (hok _ rfl rfl)) rfl ?_)))
 rcases zQ h with ⟨h5, h⟩ | ⟨i6, h5, h⟩
 ·
  exact qF h
 refine d_nc rfl rfl (pq rfl h5) (d_fd 0 rfl rfl rfl (bi h fun x7 h8 h => d_ld (.t (.hvw (cd 11 x7.Kept.1) 0 40 1 x7.Kept.2)) rfl rfl (zBn h8) rfl (d_h0 [] (e := [(10, .i (x7.Kept.2 : Int))]) (ks := [10]) rfl (dg0 rfl) rfl rfl (fun S' hM hok => h_ln hM rfl rfl rfl rfl rfl (hok _ rfl rfl)) rfl (d_1 (.i (wi ((x7.Kept.2 : Int) - 2))) rfl rfl (d_mv rfl rfl (pq rfl h1) (d_nc rfl rfl rfl (d_fd 1 rfl rfl rfl (d_ld (.i x3.Size) rfl rfl (zAi h4) rfl (d_1 (.i (wi ((wi ((x7.Kept.2 : Int) - 2)) - x3.Size))) rfl rfl ?_)))))))))
 refine d_1 (.i (wi ((wi ((x7.Kept.2 : Int) - 2)) - x3.Size))) rfl rfl (yD (by kernel_rfl) (zF ?_))
 cases h; exact eR rfl rfl
theorem zEF (p0 : (Option Nat)) (p1 : (List zC)) (w0 : Hp) (r : (Int × Hp)) (h : yV p0 p1 w0 = some r) : FCH Tryz.prog 33 [.t ((ptT 9 p0)), .t (.d (.seq 2 (List.map zB p1)))] [] [] (hpA w0) (hpA r.2) (.t (.d (.lit (.int .i64 r.1)))) := by
 refine qR (rs := [.tmp 4]) (n := 173) [0] Tryz.func33 rfl rfl (Nat.le_of_ble_eq_true rfl) rfl (pins := []) rfl (L := [(HK, .hp (hpA w0)), (OB + 0, .free), (0, .t ((ptT 9 p0))), (1, .t (.d (.seq 2 (List.map zB p1))))]) rfl (c_sr (o_1 (.i 0) rfl (zA (c_sr (o_mv rfl (zI rfl) ?_)))))
 refine bi h fun x1 h2 h => o_cR (zCg _ w0 _ h2) (g0 rfl) rfl (a1 (qO rfl)) (r1 rfl) (o_1 (.i x1) rfl (zA (zJ (c_sr (o_m2 (.i x1) (.b (x1 != 0)) rfl (zA ?_))))))
 refine c_if h rfl (fun h3 h => c_sr (o_m2 (.i x1) (.i x1) rfl (zA (zF ?_)))) fun h3 h => zG ?_
 ·
  cases h; exact eR rfl rfl
 refine yY r (fun (_ : Unit) => [(0, .t ((ptT 9 p0))), (1, .t (.d (.seq 2 (List.map zB p1)))), (HK, .hp (hpA w0)), (OB + 0, .free)]) (fun _ => zBQ p0 w0 p1) ?_ ?_
 ·
  refine c_sr (o_1 (.i 0) rfl (zA (zS (c_lp (fun (z49 : Int) => [(0, .t ((ptT 9 p0))), (1, .t (.d (.seq 2 (List.map zB p1)))), (6, .i z49), (HK, .hp (hpA w0)), (OB + 0, .free)]) (fun nl6 z49 => qU p1 w0 p0 nl6 z49) (p1.length + 1) 0 h (fun _ => rfl) rfl rfl ?_))))
  rintro nl6 z49 h
  refine zJ (c_sr (o_m2 (.i z49) (.t (.d (.seq 2 (List.map zB p1)))) rfl (o_c (g0 rfl) rfl rfl rfl (lenE _ _) trivial (o_1 (.b (decide (z49 < (p1.length : Int)))) rfl (zA (c_if h rfl (fun h50 h => zG ?_) fun h50 h => zAQ ?_))))))
  ·
   refine yY r (fun (q : Int × (List UInt8) × Int × (List UInt8) × Int × (Option Nat) × Int × Bool × Int × (List UInt8) × (List UInt8) × (List UInt8) × Int × Bool) => [(0, .t ((ptT 9 p0))), (1, .t (.d (.seq 2 (List.map zB p1)))), (6, .i z49), (30, .t (.d (.seq 2 (List.map zB p1)))), (31, .i z49), (32, .imm [.i q.1, .y q.2.1]), (33, .imm [.i q.2.2.1, .y q.2.2.2.1]), (34, .i q.2.2.2.2.1), (35, .t ((ptT 9 q.2.2.2.2.2.1))), (36, .i q.2.2.2.2.2.2.1), (37, .b q.2.2.2.2.2.2.2.1), (40, .t (.d (.seq 2 (List.map zB p1)))), (41, .i z49), (42, .imm [.i q.2.2.2.2.2.2.2.2.1, .y q.2.2.2.2.2.2.2.2.2.1]), (43, .imm [.y q.2.2.2.2.2.2.2.2.2.2.1]), (44, .y q.2.2.2.2.2.2.2.2.2.2.2.1), (45, .i q.2.2.2.2.2.2.2.2.2.2.2.2.1), (46, .b q.2.2.2.2.2.2.2.2.2.2.2.2.2), (HK, .hp (hpA w0)), (OB + 0, .free)]) (fun q => zB8 (qU p1 w0 p0 nl6) z49 q.1 q.2.1 q.2.2.1 q.2.2.2.1 q.2.2.2.2.1 q.2.2.2.2.2.1 q.2.2.2.2.2.2.1 q.2.2.2.2.2.2.2.1 q.2.2.2.2.2.2.2.2.1 q.2.2.2.2.2.2.2.2.2.1 q.2.2.2.2.2.2.2.2.2.2.1 q.2.2.2.2.2.2.2.2.2.2.2.1 q.2.2.2.2.2.2.2.2.2.2.2.2.1 q.2.2.2.2.2.2.2.2.2.2.2.2.2) ?_ ?_
   ·
    refine zS (zJ (qQ mixed (by kernel_rfl) (d_1 (.t (.d (.seq 2 (List.map zB p1)))) rfl rfl (d_1 (.i z49) rfl rfl (bi h fun x65 h66 h => d_c rfl (dg0 rfl) rfl rfl rfl rfl (idxE h66) (idxC h66) (d_1 (.imm [.i x65.Home, .y x65.Data]) rfl rfl (d_1 (.i x65.Home) rfl rfl (d_1 (.b (decide (x65.Home < 0))) rfl rfl (d_1 (.b (decide (x65.Home < 0))) rfl rfl ?_)))))))))
    rcases zP h with ⟨h67, h⟩ | ⟨h67, h⟩
    ·
     refine d_k1 rfl rfl h67 (d_k1 rfl rfl h67 (d_k1 rfl rfl h67 (d_k1 rfl rfl h67 (d_k1 rfl rfl h67 (d_k1 rfl rfl h67 (d_k1 rfl rfl h67 (d_k1 rfl rfl h67 ?_)))))))
     refine d_pT (.b true) h67 rfl rfl (d_1 (.b true) rfl rfl (d_k1 rfl rfl rfl (d_k1 rfl rfl rfl (d_k1 rfl rfl rfl (d_k1 rfl rfl rfl (d_k1 rfl rfl rfl (d_k1 rfl rfl rfl (d_k1 rfl rfl rfl ?_))))))))
     refine d_pT (.b true) rfl rfl rfl (yD (by kernel_rfl) (c_t rfl rfl (c_sr (o_1 (.i 2) rfl (zA (zF ?_))))))
     cases h; exact eR rfl rfl
    refine d_s (.t (.d (.seq 2 (List.map zB p1)))) rfl (dgy rfl rfl rfl rfl h67) rfl rfl rfl rfl (d_s (.i z49) rfl (dgy rfl rfl rfl rfl h67) rfl rfl rfl rfl (bi h fun x68 h69 h => d_c rfl (dgy rfl rfl rfl rfl h67) rfl rfl rfl rfl (idxE h69) (idxC h69) (d_s (.imm [.i x68.Home, .y x68.Data]) rfl (dgy rfl rfl rfl rfl h67) rfl rfl rfl rfl (d_s (.i x68.Home) rfl (dgy rfl rfl rfl rfl h67) rfl rfl rfl rfl ?_))))
    rcases zQ h with ⟨h70, h⟩ | ⟨i71, h70, h⟩
    ·
     refine d_h0 [] (e := [(35, .t (.d (.lit (.pointer none))))]) (ks := [35]) rfl (dgy rfl rfl rfl rfl h67) rfl rfl (fun S' hM hok => h_mv hM (.inl rfl) ((zI rfl).trans (qL h70)) rfl (hok _ rfl rfl)) rfl (bi h fun x72 h73 h => d_cR (zBx _ w0 _ h73) rfl (dgy rfl rfl rfl rfl h67) rfl (a1 (aR rfl)) (r1 rfl) (d_s (.b (decide (x68.Home ≥ x72))) rfl (dgy rfl rfl rfl rfl h67) rfl rfl rfl rfl (d_pF (.b (decide (x68.Home ≥ x72))) h67 rfl rfl (d_1 (.b (decide (x68.Home ≥ x72))) rfl rfl ?_))))
     rcases zP h with ⟨h74, h⟩ | ⟨h74, h⟩
     ·
      refine d_k1 rfl rfl h74 (d_k1 rfl rfl h74 (d_k1 rfl rfl h74 (d_k1 rfl rfl h74 (d_k1 rfl rfl h74 (d_k1 rfl rfl h74 (d_k1 rfl rfl h74 (d_pT (.b true) h74 rfl rfl ?_)))))))
      refine yD (by kernel_rfl) (c_t rfl rfl (c_sr (o_1 (.i 2) rfl (zA (zF ?_)))))
      cases h; exact eR rfl rfl
     refine d_s (.t (.d (.seq 2 (List.map zB p1)))) rfl (dgy rfl rfl rfl rfl h74) rfl rfl rfl rfl (d_s (.i z49) rfl (dgy rfl rfl rfl rfl h74) rfl rfl rfl rfl (bi h fun x75 h76 h => d_c rfl (dgy rfl rfl rfl rfl h74) rfl rfl rfl rfl (idxE h76) (idxC h76) (d_s (.imm [.y x75.Data]) rfl (dgy rfl rfl rfl rfl h74) rfl rfl rfl rfl (d_s (.y x75.Data) rfl (dgy rfl rfl rfl rfl h74) rfl rfl rfl rfl (d_c rfl (dgy rfl rfl rfl rfl h74) rfl rfl rfl rfl (lenE _ _) trivial (d_s (.b ((x75.Data.length : Int) != 64)) rfl (dgy rfl rfl rfl rfl h74) rfl rfl rfl rfl (d_pF (.b ((x75.Data.length : Int) != 64)) h74 rfl rfl (yD (by kernel_rfl) ?_))))))))
     refine c_if h rfl (fun h77 h => c_sr (o_1 (.i 2) rfl (zA (zF ?_)))) fun h77 h => zG ?_
     ·
      cases h; exact eR rfl rfl
     exact ⟨(x68.Home, x68.Data, x68.Home, x68.Data, x68.Home, none, x72, (decide (x68.Home ≥ x72)), x75.Home, x75.Data, x75.Data, x75.Data, (x75.Data.length : Int), ((x75.Data.length : Int) != 64)), [], h, rfl, trivial, ⟨.r, ⟨.r, ⟨.r, ⟨.r, ⟨.r, ⟨.r, ⟨.r, ⟨.r, .r, .r, .r, .r, .r, .r, .r, .r, .r, .r, .r, .r, trivial⟩⟩⟩⟩⟩⟩⟩⟩, rfl⟩
    refine d_h0 [] (e := [(35, .t (.hpt (cd 9 i71) 0))]) (ks := [35]) rfl (dgy rfl rfl rfl rfl h67) rfl rfl (fun S' hM hok => h_mv hM (.inl rfl) ((zI rfl).trans (qM h70)) rfl (hok _ rfl rfl)) rfl (bi h fun x78 h79 h => d_cR (zBx _ w0 _ h79) rfl (dgy rfl rfl rfl rfl h67) rfl (a1 aH) (r1 rfl) (d_s (.b (decide (x68.Home ≥ x78))) rfl (dgy rfl rfl rfl rfl h67) rfl rfl rfl rfl (d_pF (.b (decide (x68.Home ≥ x78))) h67 rfl rfl (d_1 (.b (decide (x68.Home ≥ x78))) rfl rfl ?_))))
    rcases zP h with ⟨h80, h⟩ | ⟨h80, h⟩
    ·
     refine d_k1 rfl rfl h80 (d_k1 rfl rfl h80 (d_k1 rfl rfl h80 (d_k1 rfl rfl h80 (d_k1 rfl rfl h80 (d_k1 rfl rfl h80 (d_k1 rfl rfl h80 (d_pT (.b true) h80 rfl rfl ?_)))))))
     refine yD (by kernel_rfl) (c_t rfl rfl (c_sr (o_1 (.i 2) rfl (zA (zF ?_)))))
     cases h; exact eR rfl rfl
    refine d_s (.t (.d (.seq 2 (List.map zB p1)))) rfl (dgy rfl rfl rfl rfl h80) rfl rfl rfl rfl (d_s (.i z49) rfl (dgy rfl rfl rfl rfl h80) rfl rfl rfl rfl (bi h fun x81 h82 h => d_c rfl (dgy rfl rfl rfl rfl h80) rfl rfl rfl rfl (idxE h82) (idxC h82) (d_s (.imm [.y x81.Data]) rfl (dgy rfl rfl rfl rfl h80) rfl rfl rfl rfl (d_s (.y x81.Data) rfl (dgy rfl rfl rfl rfl h80) rfl rfl rfl rfl (d_c rfl (dgy rfl rfl rfl rfl h80) rfl rfl rfl rfl (lenE _ _) trivial (d_s (.b ((x81.Data.length : Int) != 64)) rfl (dgy rfl rfl rfl rfl h80) rfl rfl rfl rfl (d_pF (.b ((x81.Data.length : Int) != 64)) h80 rfl rfl (yD (by kernel_rfl) ?_))))))))
    refine c_if h rfl (fun h83 h => c_sr (o_1 (.i 2) rfl (zA (zF ?_)))) fun h83 h => zG ?_
    ·
     cases h; exact eR rfl rfl
    exact ⟨(x68.Home, x68.Data, x68.Home, x68.Data, x68.Home, (some i71), x78, (decide (x68.Home ≥ x78)), x81.Home, x81.Data, x81.Data, x81.Data, (x81.Data.length : Int), ((x81.Data.length : Int) != 64)), [], h, rfl, trivial, ⟨.r, ⟨.r, ⟨.r, ⟨.r, ⟨.r, ⟨.r, ⟨.r, ⟨.r, .r, .r, .r, .r, .r, .r, .r, .r, .r, .r, .r, .r, trivial⟩⟩⟩⟩⟩⟩⟩⟩, rfl⟩
   rintro ⟨y51, y52, y53, y54, y55, y56, y57, y58, y59, y60, y61, y62, y63, y64⟩ h
   refine zL (o_m3 (.i z49) (.i (wi (z49 + 1))) (.i (wi (z49 + 1))) rfl (zA ?_))
   exact lE (wi (z49 + 1)) h rfl rfl
  exact lE () h rfl rfl
 rintro ⟨⟩ h
 refine c_sr (o_1 (.t (.d (.seq 2 (List.map zB p1)))) rfl (o_c (g0 rfl) rfl rfl rfl (lenE _ _) trivial (o_m3 (.i (wi (2 * (p1.length : Int)))) (.i (wi ((wi (2 * (p1.length : Int))) + 1))) (.i (wi ((wi (2 * (p1.length : Int))) + 1))) rfl (zA (zJ (c_sr (o_1 (.i (wi ((wi (2 * (p1.length : Int))) + 1))) rfl (o_mv rfl (zI rfl) ?_))))))))
 rcases zQ h with ⟨h4, h⟩ | ⟨i5, h4, h⟩
 ·
  exact qF h
 refine o_nf 1 rfl (pq rfl h4) rfl (bi h fun x6 h7 h => o_ld (.i x6.Size) rfl (zAi h7) rfl (o_1 (.b (decide ((wi ((wi (2 * (p1.length : Int))) + 1)) > x6.Size))) rfl (zA ?_)))
 refine c_if h rfl (fun h8 h => c_sr (o_1 (.i 3) rfl (zA (zF ?_)))) fun h8 h => zG (zJ (c_sr (o_1 (.t (.d (.seq 2 (List.map zB p1)))) rfl (o_c (g0 rfl) rfl rfl rfl (lenE _ _) trivial (o_1 (.b ((p1.length : Int) == 0)) rfl (zA ?_))))))
 ·
  cases h; exact eR rfl rfl
 refine c_if h rfl (fun h9 h => c_sr (o_1 (.i 0) rfl (zA (zF ?_)))) fun h9 h => zG ?_
 ·
  cases h; exact eR rfl rfl
 refine yY r (fun (y10 : Hp) => [(0, .t ((ptT 9 p0))), (1, .t (.d (.seq 2 (List.map zB p1)))), (7, .i (wi ((wi (2 * (p1.length : Int))) + 1))), (HK, .hp (hpA y10)), (OB + 0, .free)]) (fun y10 => zAm i5 p1 y10) ?_ ?_
 ·
  refine zJ (qQ mixed (by kernel_rfl) (d_1 (.i (wi ((wi (2 * (p1.length : Int))) + 1))) rfl rfl (d_mv rfl rfl (pq rfl h4) (d_nc rfl rfl rfl (d_fd 1 rfl rfl rfl (d_ld (.i x6.Size) rfl rfl (zAi h7) rfl (d_mv rfl rfl (pq rfl h4) ?_)))))))
  refine d_nc rfl rfl rfl (d_fd 4 rfl rfl rfl (d_ld (.i x6.Used) rfl rfl (zAi h7) rfl (d_1 (.i (wi (x6.Size - x6.Used))) rfl rfl (d_1 (.b (decide ((wi ((wi (2 * (p1.length : Int))) + 1)) > (wi (x6.Size - x6.Used))))) rfl rfl (yD (by kernel_rfl) (c_if h rfl (fun h45 h => c_sr (o_mv rfl (pq rfl h4) ?_)) fun h45 h => zG ?_))))))
  ·
   refine bi h fun x46 h47 h => o_cH (zCJ _ w0 _ h47) (g0 rfl) rfl (a1 aH) (r1 rfl) (o_1 (.i x46.1) rfl (zA (c_sr (o_m2 (.i x46.1) (.b (x46.1 != 0)) rfl (zA ?_)))))
   refine c_if h rfl (fun h48 h => c_sr (o_m2 (.i x46.1) (.i x46.1) rfl (zA (zF ?_)))) fun h48 h => zG ?_
   ·
    cases h; exact eR rfl rfl
   exact lE x46.2 h rfl rfl
  exact lE w0 h rfl rfl
 rintro y10 h
 refine c_sr (o_f3 4 rfl (pq rfl h4) rfl (bi h fun x11 h12 h => o_ld (.i x11.Used) rfl (zAi h12) rfl (o_1 (.i x11.Used) rfl (zA (yY r (fun (y13 : Hp) => [(0, .t ((ptT 9 p0))), (1, .t (.d (.seq 2 (List.map zB p1)))), (7, .i (wi ((wi (2 * (p1.length : Int))) + 1))), (HK, .hp (hpA y13)), (OB + 0, .free)]) (fun y13 => zBI i5 p1 y13) ?_ ?_)))))
 ·
  refine c_sr (o_1 (.i 0) rfl (zA (zS (c_lp (fun (q : Int × Hp) => [(0, .t ((ptT 9 p0))), (1, .t (.d (.seq 2 (List.map zB p1)))), (7, .i (wi ((wi (2 * (p1.length : Int))) + 1))), (8, .i x11.Used), (9, .i q.1), (HK, .hp (hpA q.2)), (OB + 0, .free)]) (fun nl4 q => yQ p1 i5 x11 nl4 q.1 q.2) (Int.toNat (wi ((wi (2 * (p1.length : Int))) + 1)) + 1) (0, y10) h (fun _ => rfl) rfl rfl ?_))))
  rintro nl4 ⟨z23, z24⟩ h
  refine zJ (c_sr (o_m3 (.i z23) (.i (wi ((wi (2 * (p1.length : Int))) + 1))) (.b (decide (z23 < (wi ((wi (2 * (p1.length : Int))) + 1))))) rfl (zA ?_)))
  refine c_if h rfl (fun h25 h => zG (zJ (zS (zJ (qQ mixed (by kernel_rfl) (d_1 (.t (.d (.seq 2 (List.map zB p1)))) rfl rfl (d_c rfl (dg0 rfl) rfl rfl rfl rfl (lenE _ _) trivial ?_))))))) fun h25 h => zAQ ?_
  ·
   refine bi h fun x26 h27 h => d_h0 [] (e := [(88, .t (.own 5 1 (zN (List.replicate x26 (0 : UInt8)))))]) (ks := [88]) rfl (dg0 rfl) rfl rfl (fun S' hM hok => zJt (c := cU8) hM rfl rfl rfl rfl rfl rfl rfl rfl rfl h27 (by first | (unfold zN; rw [List.map_replicate]; rfl) | (rw [List.map_replicate]; rfl)) rfl (hok _ rfl rfl)) rfl (d_mv rfl rfl (pq rfl h4) (d_nc rfl rfl rfl (d_fd 2 rfl rfl rfl (bi h fun x28 h29 h => d_ld (.i x28.Base) rfl rfl (zAi h29) rfl (d_1 (.i x11.Used) rfl rfl (d_1 (.i (wi (x28.Base + x11.Used))) rfl rfl (d_1 (.i z23) rfl rfl (d_1 (.i (wi ((wi (x28.Base + x11.Used)) + z23))) rfl rfl ?_))))))))
   refine bi h fun x30 h31 h => d_cR (zDQ _ _ _ _ z24 _ h31) rfl (dg0 rfl) rfl (.cons (.plain .r rfl) (.cons (.plain .r rfl) (.cons (.plain .r rfl) (.cons (.plain .r rfl) .nil)))) (r1 rfl) (d_2 (.y x30) (.t (.own 5 1 (zN x30))) rfl (dg0 rfl) rfl rfl rfl rfl rfl (yD (by kernel_rfl) (yY r (fun (y32 : (List UInt8)) => [(0, .t ((ptT 9 p0))), (1, .t (.d (.seq 2 (List.map zB p1)))), (7, .i (wi ((wi (2 * (p1.length : Int))) + 1))), (8, .i x11.Used), (9, .i z23), (10, .t (.own 5 1 (zN y32))), (HK, .hp (hpA z24)), (OB + 0, .free)]) (fun y32 => zBE (yQ p1 i5 x11 nl4) x28 x11 z23 z24 y32) ?_ ?_)))
   ·
    refine c_sr (o_m4 (.i z23) (.i (wi ((wi (2 * (p1.length : Int))) + 1))) (.i (wi ((wi ((wi (2 * (p1.length : Int))) + 1)) - 1))) (.b (decide (z23 < (wi ((wi ((wi (2 * (p1.length : Int))) + 1)) - 1))))) rfl (zA ?_))
    refine c_if h rfl (fun h36 h => c_sr (o_m3 (.i z23) (.i (Int.tmod z23 2)) (.i (Int.tmod z23 2)) rfl (zA (qQ mixed (by kernel_rfl) (d_1 (.i (Int.tmod z23 2)) rfl rfl (d_1 (.i (wi (1 + (Int.tmod z23 2)))) rfl rfl (d_1 (.t (.d (.seq 2 (List.map zB p1)))) rfl rfl (d_1 (.i z23) rfl rfl (d_1 (.i (wi (Int.tdiv z23 2))) rfl rfl ?_))))))))) fun h36 h => zG ?_
    ·
     refine bi h fun x37 h38 h => d_c rfl (dg0 rfl) rfl rfl rfl rfl (idxE h38) (idxC h38) (d_1 (.imm [.i x37.Home, .y x37.Data]) rfl rfl (d_1 (.i x37.Home) rfl rfl (d_1 (.t (.d (.seq 2 (List.map zB p1)))) rfl rfl (d_1 (.i z23) rfl rfl (d_1 (.i (wi (Int.tdiv z23 2))) rfl rfl ?_)))))
     refine bi h fun x39 h40 h => d_c rfl (dg0 rfl) rfl rfl rfl rfl (idxE h40) (idxC h40) (d_1 (.imm [.y x39.Data]) rfl rfl (d_1 (.y x39.Data) rfl rfl (d_1 (.i (Int.tmod z23 2)) rfl rfl (d_1 (.i (wi (32 * (Int.tmod z23 2)))) rfl rfl (d_1 (.i (Int.tmod z23 2)) rfl rfl (d_1 (.i (wi (32 * (Int.tmod z23 2)))) rfl rfl (d_1 (.i (wi ((wi (32 * (Int.tmod z23 2))) + 32))) rfl rfl ?_)))))))
     refine bi h fun x41 h42 h => d_c rfl (dg0 rfl) rfl rfl rfl rfl (cutE (c := cU8) h42) (cutC (c := cU8) h42) (d_mv rfl rfl (pq rfl h4) (d_nc rfl rfl rfl (d_fd 2 rfl rfl rfl (d_ld (.i x28.Base) rfl rfl (zAi h29) rfl (d_1 (.i x11.Used) rfl rfl (d_1 (.i (wi (x28.Base + x11.Used))) rfl rfl (d_1 (.i z23) rfl rfl (d_1 (.i (wi ((wi (x28.Base + x11.Used)) + z23))) rfl rfl ?_))))))))
     refine bi h fun x43 h44 h => d_cR (zDQ _ _ _ _ z24 _ h44) rfl (dg0 rfl) rfl (.cons (.plain .r rfl) (.cons (.plain .r rfl) (.cons (.plain .r rfl) (.cons (.plain .r rfl) .nil)))) (r1 rfl) (d_2 (.y x43) (.t (.own 5 1 (zN x43))) rfl (dg0 rfl) rfl rfl rfl rfl rfl (yD (by kernel_rfl) ?_))
     exact lE x43 h rfl rfl
    exact lE x30 h rfl rfl
   rintro y32 h
   refine c_sr (o_f3 0 rfl (pq rfl h4) rfl (o_of (e := [(136, .t ((ptT 8 x28.D)))]) (g0 rfl) (h_ld mR rfl rfl rfl rfl (zAi h29) rfl (qI _ _) rfl rfl) rfl (o_m4 (.i x11.Used) (.i (wi (2 + x11.Used))) (.i z23) (.i (wi ((wi (2 + x11.Used)) + z23))) rfl (o_2 (.y y32) (.t (.own 5 1 (zN y32))) (g0 rfl) rfl rfl rfl ?_))))
   refine bi h fun x33 h34 h => o_cH (zBc _ _ _ z24 _ h34) (g0 rfl) rfl (a3 (qO rfl) (aR rfl) (aR rfl)) (r1 rfl) (o_1 (.i x33.1) rfl (zA (c_sr (o_m2 (.i x33.1) (.b (x33.1 != 0)) rfl (zA ?_)))))
   refine c_if h rfl (fun h35 h => c_sr (o_m2 (.i x33.1) (.i x33.1) rfl (zA (zF ?_)))) fun h35 h => zG (zL (o_m3 (.i z23) (.i (wi (z23 + 1))) (.i (wi (z23 + 1))) rfl (zA ?_)))
   ·
    cases h; exact eR rfl rfl
   exact lE ((wi (z23 + 1)), x33.2) h rfl rfl
  exact lE z24 h rfl rfl
 rintro y13 h
 refine c_sr (o_f3 0 rfl (pq rfl h4) rfl (bi h fun x14 h15 h => o_of (e := [(149, .t ((ptT 8 x14.D)))]) (g0 rfl) (h_ld mR rfl rfl rfl rfl (zAi h15) rfl (qI _ _) rfl rfl) rfl ?_))
 refine bi h fun x16 h17 h => o_cH (zBa _ y13 _ h17) (g0 rfl) rfl (a1 (qO rfl)) (r1 rfl) (o_1 (.i x16.1) rfl (zA (zJ (c_sr (o_m2 (.i x16.1) (.b (x16.1 != 0)) rfl (zA ?_))))))
 refine c_if h rfl (fun h18 h => c_sr (o_m2 (.i x16.1) (.i x16.1) rfl (zA (zF ?_)))) fun h18 h => zG (c_sr (o_mv rfl (pq rfl h4) (o_f3 4 rfl (pq rfl h4) rfl ?_)))
 ·
  cases h; exact eR rfl rfl
 refine bi h fun x19 h20 h => o_ld (.i x19.Used) rfl (zAi h20) rfl (o_m2 (.i (wi ((wi (2 * (p1.length : Int))) + 1))) (.i (wi (x19.Used + (wi ((wi (2 * (p1.length : Int))) + 1))))) rfl (o_nf 4 rfl rfl rfl (o_sH rfl (zAi h20) (zJT (x' := (zT.mk x19.D x19.Size x19.Base x19.Slot (wi (x19.Used + (wi ((wi (2 * (p1.length : Int))) + 1)))) x19.Life x19.Commits)) h20) rfl rfl (zA (c_sr (o_f3 6 rfl (pq rfl h4) rfl (o_ld (.i ((zT.mk x19.D x19.Size x19.Base x19.Slot (wi (x19.Used + (wi ((wi (2 * (p1.length : Int))) + 1)))) x19.Life x19.Commits).Commits)) rfl (zAi (zR h20)) rfl (o_1 (.i (wi (((zT.mk x19.D x19.Size x19.Base x19.Slot (wi (x19.Used + (wi ((wi (2 * (p1.length : Int))) + 1)))) x19.Life x19.Commits).Commits) + 1))) rfl (o_nf 6 rfl rfl rfl ?_)))))))))
 refine o_sH rfl (zAi (zR h20)) (zJT (x' := (zT.mk x19.D x19.Size x19.Base x19.Slot (wi (x19.Used + (wi ((wi (2 * (p1.length : Int))) + 1)))) x19.Life (wi (((zT.mk x19.D x19.Size x19.Base x19.Slot (wi (x19.Used + (wi ((wi (2 * (p1.length : Int))) + 1)))) x19.Life x19.Commits).Commits) + 1)))) (zR h20)) rfl rfl (zA (c_sr (o_mv rfl (pq rfl h4) (o_1 (.t (.d (.seq 2 (List.map zB p1)))) rfl (bi h fun x21 h22 h => o_cH (zEt _ _ ((x16.2.st_rl i5 (zT.mk x19.D x19.Size x19.Base x19.Slot (wi (x19.Used + (wi ((wi (2 * (p1.length : Int))) + 1)))) x19.Life x19.Commits)).st_rl i5 (zT.mk x19.D x19.Size x19.Base x19.Slot (wi (x19.Used + (wi ((wi (2 * (p1.length : Int))) + 1)))) x19.Life (wi (((zT.mk x19.D x19.Size x19.Base x19.Slot (wi (x19.Used + (wi ((wi (2 * (p1.length : Int))) + 1)))) x19.Life x19.Commits).Commits) + 1)))) _ h22) (g0 rfl) rfl (a2 aH (aR rfl)) (r1 rfl) (o_1 (.i x21.1) rfl (zA (zF ?_))))))))
 cases h; exact eR rfl rfl
theorem zGv (p0 : (Option Nat)) (p1 : Int) (w0 : Hp) (r : ((List UInt8) × Int)) (h : zCs p0 p1 w0 = some r) : FCH Tryz.prog 41 [.t ((ptT 9 p0)), .t (.d (.lit (.int .i64 p1)))] [] [] (hpA w0) (hpA w0) (.tup [.d (.seq 1 (zN r.1)), .d (.lit (.int .i64 r.2))]) := by
 refine qR (rs := [.tmp 4, .tmp 5]) (n := 34) [] Tryz.func41 rfl rfl (Nat.le_of_ble_eq_true rfl) rfl (pins := []) rfl (L := [(HK, .hp (hpA w0)), (0, .t ((ptT 9 p0))), (1, .i p1)]) rfl (c_sr (o_m2 (.n) (.i 0) rfl (zA (c_sr (o_mv rfl (zI rfl) ?_)))))
 refine bi h fun x1 h2 h => o_cR (zCg _ w0 _ h2) (g0 rfl) rfl (a1 (qO rfl)) (r1 rfl) (o_1 (.i x1) rfl (zA (zJ (c_sr (o_m2 (.i x1) (.b (x1 != 0)) rfl (zA ?_))))))
 refine c_if h rfl (fun h3 h => c_sr (o_m3 (.i x1) (.n) (.i x1) rfl (zA (zF ?_)))) fun h3 h => zG (zJ (c_sr (o_m3 (.i p1) (.b (decide (p1 < 0))) (.b (decide (p1 < 0))) rfl ?_)))
 ·
  cases h
  exact ⟨⟨_, rfl, (.tup (.cons (.d (.nil _)) (.cons .r .nil)))⟩, trivial, rfl⟩
 rcases zP h with ⟨h4, h⟩ | ⟨h4, h⟩
 ·
  refine o_k4 rfl h4 (o_pT (.b true) h4 rfl (zA (c_t rfl rfl (c_sr (o_m2 (.n) (.i 31) rfl (zA (zF ?_)))))))
  cases h
  exact ⟨⟨_, rfl, (.tup (.cons (.d (.nil _)) (.cons .r .nil)))⟩, trivial, rfl⟩
 refine o_s (.i p1) (gy rfl rfl rfl h4) rfl rfl rfl (o_of (e := [(16, .t ((ptT 9 p0)))]) (gy rfl rfl rfl h4) (h_mv mR (.inl rfl) (zI rfl) rfl rfl) rfl (bi h fun x5 h6 h => o_cR (zBx _ w0 _ h6) (gy rfl rfl rfl h4) rfl (a1 (qO rfl)) (r1 rfl) (o_s (.b (decide (p1 ≥ x5))) (gy rfl rfl rfl h4) rfl rfl rfl (o_pF (.b (decide (p1 ≥ x5))) h4 rfl (zA ?_)))))
 refine c_if h rfl (fun h7 h => c_sr (o_m2 (.n) (.i 31) rfl (zA (zF ?_)))) fun h7 h => zG (zJ (qQ mixed (by kernel_rfl) ?_))
 ·
  cases h
  exact ⟨⟨_, rfl, (.tup (.cons (.d (.nil _)) (.cons .r .nil)))⟩, trivial, rfl⟩
 rcases zQ h with ⟨h8, h⟩ | ⟨i9, h8, h⟩
 ·
  refine d_mv rfl rfl ((zI rfl).trans (qL h8)) ?_
  exact qF h
 refine d_mv rfl rfl (pq rfl h8) (d_nc rfl rfl rfl (d_fd 0 rfl rfl rfl ?_))
 refine bi h fun x10 h11 h => d_h (e := [(23, .t ((ptT 8 x10.D)))]) (ks := [23]) rfl (dg0 rfl) rfl rfl (fun S' hM hk hok => h_ld hM hk rfl rfl rfl (zAi h11) rfl (qI _ _) rfl (hok _ rfl rfl)) rfl (d_mv rfl rfl (pq rfl h8) (d_nc rfl rfl rfl (d_fd 1 rfl rfl rfl (d_ld (.i x10.Size) rfl rfl (zAi h11) rfl (d_1 (.i (wi (2 + x10.Size))) rfl rfl (d_1 (.i p1) rfl rfl (d_1 (.i (wi ((wi (2 + x10.Size)) + p1))) rfl rfl ?_)))))))
 refine bi h fun x12 h13 h => d_cR (zDc _ _ w0 _ h13) rfl (dg0 rfl) rfl (a2 (qO rfl) (aR rfl)) (r2 rfl) (d_1 (.y x12.1) rfl rfl (d_1 (.i x12.2) rfl rfl (d_1 (.y x12.1) rfl rfl (d_1 (.i x12.2) rfl rfl (yD (by kernel_rfl) (zF ?_))))))
 cases h; exact eR rfl rfl
end Go.Proofs.YtjomnccladjpgaaGreat

/-
 maps.Keys and slices.Sorted at this program: laid by the shelf's tools, then told as this claim wants them.
-/
namespace Go.Proofs.YtjomnccladjpgaaGreat
open Go Go.RowKit Go.Maps Go.Sort Go.Shelf
set_option linter.unusedVariables false
def zGs : Go.Shelf.Ren := ⟨fun | 7 => 84 | 10 => 96 | n => n, fun | 23 => 118 | 26 => 3 | 3 => 40 | 28 => 124 | 0 => 0 | 27 => 123 | 33 => 135 | 4 => 4 | n => n, fun | n => n⟩
theorem zKI : Go.Proofs.SlLaysZI.n7 Tryz.prog zGs := {
 mixed := by kernel_rfl
 f7 := ⟨Tryz.f84.name, by decide, Tryz.func84.trans (congrArg some (by kernel_rfl))⟩
 f10 := ⟨Tryz.f96.name, by decide, Tryz.func96.trans (congrArg some (by kernel_rfl))⟩
 t0 := Tryz.underlying0
 a0 := Tryz.isAgg0
 z0 := Tryz.sizeOf0
 v0 := Tryz.zeroValue0
 t4 := Tryz.underlying4
 a4 := Tryz.isAgg4
 z4 := Tryz.sizeOf4
 v4 := Tryz.zeroValue4
 t23 := Tryz.underlying118
 a23 := Tryz.isAgg118
 z23 := Tryz.sizeOf118
 v23 := Tryz.zeroValue118
 t26 := Tryz.underlying3
 a26 := Tryz.isAgg3
 z26 := Tryz.sizeOf3
 v26 := Tryz.zeroValue3
 t27 := Tryz.underlying123
 a27 := Tryz.isAgg123
 z27 := Tryz.sizeOf123
 v27 := Tryz.zeroValue123
 t28 := Tryz.underlying124
 a28 := Tryz.isAgg124
 z28 := Tryz.sizeOf124
 v28 := Tryz.zeroValue124
 t33 := Tryz.underlying135
 a33 := Tryz.isAgg135
 z33 := Tryz.sizeOf135
 v33 := Tryz.zeroValue135 }
def zFm : Go.Shelf.Ren := ⟨fun | 6 => 83 | 8 => 94 | 9 => 95 | 11 => 101 | 13 => 103 | 12 => 102 | 23 => 113 | 24 => 114 | 14 => 104 | 15 => 105 | 16 => 106 | 17 => 107 | 18 => 108 | 19 => 109 | 20 => 110 | 21 => 111 | 22 => 112 | 25 => 115 | 26 => 116 | 27 => 117 | 28 => 118 | 29 => 119 | 30 => 120 | 31 => 121 | n => n, fun | 26 => 3 | 28 => 124 | 24 => 121 | 0 => 0 | 3 => 3 | 37 => 129 | 48 => 112 | 50 => 128 | 4 => 4 | 40 => 143 | 39 => 142 | 45 => 148 | 5 => 5 | 9 => 9 | 51 => 152 | 55 => 156 | 57 => 158 | 58 => 101 | 33 => 135 | n => n, fun | n => n⟩
theorem zKv : Go.Proofs.SlLaysZI.n6 Tryz.prog zFm := {
 mixed := by kernel_rfl
 f6 := ⟨Tryz.f83.name, by decide, Tryz.func83.trans (congrArg some (by kernel_rfl))⟩
 f8 := ⟨Tryz.f94.name, by decide, Tryz.func94.trans (congrArg some (by kernel_rfl))⟩
 f11 := ⟨Tryz.f101.name, by decide, Tryz.func101.trans (congrArg some (by kernel_rfl))⟩
 t0 := Tryz.underlying0
 a0 := Tryz.isAgg0
 z0 := Tryz.sizeOf0
 v0 := Tryz.zeroValue0
 t24 := Tryz.underlying121
 a24 := Tryz.isAgg121
 z24 := Tryz.sizeOf121
 v24 := Tryz.zeroValue121
 t26 := Tryz.underlying3
 a26 := Tryz.isAgg3
 z26 := Tryz.sizeOf3
 v26 := Tryz.zeroValue3
 t28 := Tryz.underlying124
 a28 := Tryz.isAgg124
 z28 := Tryz.sizeOf124
 v28 := Tryz.zeroValue124
 i26 := by kernel_rfl }
def zJD : Go.Shelf.Ren := ⟨fun | 5 => 95 | 8 => 103 | 7 => 102 | 19 => 113 | 20 => 114 | 10 => 104 | 11 => 105 | 12 => 106 | 13 => 107 | 14 => 108 | 15 => 109 | 16 => 110 | 17 => 111 | 18 => 112 | 30 => 115 | 31 => 116 | 32 => 117 | 33 => 118 | 34 => 119 | 35 => 120 | 40 => 121 | n => n, fun | 23 => 121 | 25 => 3 | 3 => 3 | 32 => 129 | 22 => 121 | 0 => 0 | 44 => 112 | 46 => 128 | 4 => 4 | 36 => 143 | 35 => 142 | 41 => 148 | 5 => 5 | 9 => 9 | 53 => 152 | 57 => 156 | 63 => 158 | 64 => 101 | n => n, fun | n => n⟩
theorem zKW : Go.Proofs.SlLaysM.n5 Tryz.prog zJD := {
 mixed := by kernel_rfl
 f5 := ⟨Tryz.f95.name, by decide, Tryz.func95.trans (congrArg some (by kernel_rfl))⟩
 f7 := ⟨Tryz.f102.name, by decide, Tryz.func102.trans (congrArg some (by kernel_rfl))⟩
 f8 := Tryz.func103.trans (congrArg some (by kernel_rfl))
 f10 := ⟨Tryz.f104.name, by decide, Tryz.func104.trans (congrArg some (by kernel_rfl))⟩
 f11 := ⟨Tryz.f105.name, by decide, Tryz.func105.trans (congrArg some (by kernel_rfl))⟩
 f12 := ⟨Tryz.f106.name, by decide, Tryz.func106.trans (congrArg some (by kernel_rfl))⟩
 f13 := ⟨Tryz.f107.name, by decide, Tryz.func107.trans (congrArg some (by kernel_rfl))⟩
 f14 := ⟨Tryz.f108.name, by decide, Tryz.func108.trans (congrArg some (by kernel_rfl))⟩
 f15 := ⟨Tryz.f109.name, by decide, Tryz.func109.trans (congrArg some (by kernel_rfl))⟩
 f16 := ⟨Tryz.f110.name, by decide, Tryz.func110.trans (congrArg some (by kernel_rfl))⟩
 f17 := ⟨Tryz.f111.name, by decide, Tryz.func111.trans (congrArg some (by kernel_rfl))⟩
 f18 := ⟨Tryz.f112.name, by decide, Tryz.func112.trans (congrArg some (by kernel_rfl))⟩
 f19 := Tryz.func113.trans (congrArg some (by kernel_rfl))
 f20 := Tryz.func114.trans (congrArg some (by kernel_rfl))
 f30 := ⟨Tryz.f115.name, by decide, Tryz.func115.trans (congrArg some (by kernel_rfl))⟩
 f31 := Tryz.func116.trans (congrArg some (by kernel_rfl))
 f32 := Tryz.func117.trans (congrArg some (by kernel_rfl))
 f33 := ⟨Tryz.f118.name, by decide, Tryz.func118.trans (congrArg some (by kernel_rfl))⟩
 f34 := ⟨Tryz.f119.name, by decide, Tryz.func119.trans (congrArg some (by kernel_rfl))⟩
 f35 := ⟨Tryz.f120.name, by decide, Tryz.func120.trans (congrArg some (by kernel_rfl))⟩
 f40 := ⟨Tryz.f121.name, by decide, Tryz.func121.trans (congrArg some (by kernel_rfl))⟩
 t0 := Tryz.underlying0
 a0 := Tryz.isAgg0
 z0 := Tryz.sizeOf0
 v0 := Tryz.zeroValue0
 t3 := Tryz.underlying3
 a3 := Tryz.isAgg3
 z3 := Tryz.sizeOf3
 v3 := Tryz.zeroValue3
 t4 := Tryz.underlying4
 a4 := Tryz.isAgg4
 z4 := Tryz.sizeOf4
 v4 := Tryz.zeroValue4
 t5 := Tryz.underlying5
 a5 := Tryz.isAgg5
 z5 := Tryz.sizeOf5
 v5 := Tryz.zeroValue5
 t9 := Tryz.underlying9
 a9 := Tryz.isAgg9
 z9 := Tryz.sizeOf9
 v9 := Tryz.zeroValue9
 t22 := Tryz.underlying121
 a22 := Tryz.isAgg121
 z22 := Tryz.sizeOf121
 v22 := Tryz.zeroValue121
 t23 := Tryz.underlying121
 a23 := Tryz.isAgg121
 z23 := Tryz.sizeOf121
 v23 := Tryz.zeroValue121
 t25 := Tryz.underlying3
 a25 := Tryz.isAgg3
 z25 := Tryz.sizeOf3
 v25 := Tryz.zeroValue3
 t32 := Tryz.underlying129
 a32 := Tryz.isAgg129
 z32 := Tryz.sizeOf129
 v32 := Tryz.zeroValue129
 t35 := Tryz.underlying142
 a35 := Tryz.isAgg142
 z35 := Tryz.sizeOf142
 v35 := Tryz.zeroValue142
 t36 := Tryz.underlying143
 a36 := Tryz.isAgg143
 z36 := Tryz.sizeOf143
 v36 := Tryz.zeroValue143
 t41 := Tryz.underlying148
 a41 := Tryz.isAgg148
 z41 := Tryz.sizeOf148
 v41 := Tryz.zeroValue148
 t44 := Tryz.underlying112
 a44 := Tryz.isAgg112
 z44 := Tryz.sizeOf112
 v44 := Tryz.zeroValue112
 t46 := Tryz.underlying128
 a46 := Tryz.isAgg128
 z46 := Tryz.sizeOf128
 v46 := Tryz.zeroValue128
 t53 := Tryz.underlying152
 a53 := Tryz.isAgg152
 z53 := Tryz.sizeOf152
 v53 := Tryz.zeroValue152
 t57 := Tryz.underlying156
 a57 := Tryz.isAgg156
 z57 := Tryz.sizeOf156
 v57 := Tryz.zeroValue156
 t63 := Tryz.underlying158
 a63 := Tryz.isAgg158
 z63 := Tryz.sizeOf158
 v63 := Tryz.zeroValue158
 t64 := Tryz.underlying101
 a64 := Tryz.isAgg101
 z64 := Tryz.sizeOf101
 v64 := Tryz.zeroValue101 }
theorem sk_sorts (m : Nat) : AnyZI.SortsIn Tryz.prog zFm Fence.wide m :=
  ⟨fun blk off cap ss W hH hblk hsz => callsIn_wide.2 (AnyM.slices_Sort_int zKW blk off cap ss W hH hblk hsz),
   fun p cap W => callsIn_wide.2 (AnyM.slices_Sort_int_none zKW p cap W)⟩
theorem keysW : KeysW Tryz.prog 84 96 :=
 ⟨118, fun mb W => (callsIn_wide (n := 5)).1 (AnyZI.keys_in zKI Fence.wide 5 trivial rfl mb W)⟩
theorem sortedW : SortedW Tryz.prog 83 96 3 :=
 ⟨3, fun b Bm nn D0 R w hown hBm hm hmax hbytes => by
  have hseq : SeqGives Fence.wide 2 Tryz.prog 96 #[.pointer (some ⟨Bm, 0, none⟩)] encZ (fun ss => ss.Perm (intKeys D0)) (Maps.size D0) w :=
   AnyZI.keys_gives (ρ := zGs) { zKI with } Fence.wide _ trivial rfl (by omega) Bm b nn D0 w hBm hm hown
  have cS := AnyZI.sorted_in zKv Fence.wide 5 trivial trivial trivial trivial rfl (by omega) (sk_sorts _) (enters_of Tryz.func95 (by kernel_rfl) rfl) 96 #[.pointer (some ⟨Bm, 0, none⟩)] trivial (enters_of Tryz.func96 (by kernel_rfl) rfl) _ _ hmax hbytes _ hseq
  refine ((callsIn_wide (n := 5)).1 cS).mono ?_
  rintro e w' ⟨v, ss, rfl, h1, h2, _, h4⟩
  exact ⟨v, ss, rfl, h1, h2, h4⟩⟩
end Go.Proofs.YtjomnccladjpgaaGreat

/-
 Walks of functions: each function does what its model tells. Printed by a program of this claim's own (gen.py) off the given translation.
-/
namespace Go.Proofs.YtjomnccladjpgaaGreat
open Go Go.RowKit
set_option linter.unusedVariables false
set_option maxHeartbeats 4000000
set_option maxRecDepth 20000
theorem zCP (p0 : (Option Nat)) (w0 : Hp) (r : (Int × Hp)) (h : qT p0 w0 = some r) : FCH Tryz.prog 68 [.t ((ptT 5 p0))] [] [] (hpA w0) (hpA r.2) (.t (.d (.lit (.int .i64 r.1)))) := by
 refine qR (rs := [.tmp 2]) (n := 44) [] Tryz.func68 rfl rfl (Nat.le_of_ble_eq_true rfl) rfl (pins := []) rfl (L := [(HK, .hp (hpA w0)), (0, .t ((ptT 5 p0)))]) rfl (c_sr (o_1 (.i 0) rfl (zA (zJ (c_sr (o_mv rfl (zI rfl) ?_))))))
 refine bi h fun x1 h2 h => o_cR (zDg _ w0 _ h2) (g0 rfl) rfl (a1 (qO rfl)) (r1 rfl) (o_1 (.i x1) rfl (zA (c_sr (o_m2 (.i x1) (.b (x1 != 0)) rfl (zA ?_)))))
 refine c_if h rfl (fun h3 h => c_sr (o_m2 (.i x1) (.i x1) rfl (zA (zF ?_)))) fun h3 h => zG (c_sr (o_mv rfl (zI rfl) ?_))
 ·
  cases h; exact eR rfl rfl
 rcases zQ h with ⟨h4, h⟩ | ⟨i5, h4, h⟩
 ·
  exact qF h
 refine o_nf 2 rfl (pq rfl h4) rfl (bi h fun x6 h7 h => o_sH rfl (zF0 h7) (su_tx (x' := (yN.mk x6.l_ x6.at_ true x6.now_)) h7) rfl rfl (zA (c_sr (o_1 (.n) rfl (zA (yY r (fun (y8 : (List zC)) => [(0, .t ((ptT 5 p0))), (4, .t (.own 61 2 (List.map zB y8))), (HK, .hp (hpA (w0.st_tx i5 (yN.mk x6.l_ x6.at_ true x6.now_))))]) (fun y8 => zBJ x6 w0 i5 y8) ?_ ?_))))))
 ·
  refine c_sr (o_f3 3 rfl (pq rfl h4) rfl (o_ld (.t (.mpt (OB + cd 6 ((yN.mk x6.l_ x6.at_ true x6.now_).now_)))) rfl (zF0 (zR h7)) rfl (o_of (e := [(19, .cl 96 [[.mpt (OB + cd 6 ((yN.mk x6.l_ x6.at_ true x6.now_).now_))]])]) (g0 rfl) (h_keys mR keysW rfl rfl rfl rfl rfl rfl rfl rfl) rfl ?_)))
  refine bi h fun x11 h12 h => bi h fun x13 h14 h => o_of (e := [(20, .t (.d (.seq 1 (List.map cI64 x13))))]) (g0 rfl) (h_sortedK (l := x11) mR rfl sortedW rfl rfl rfl rfl (gl_mp h12) h14 rfl rfl rfl rfl rfl) rfl (o_c (g0 rfl) rfl rfl rfl (lenE _ _) trivial (o_1 (.i 0) rfl (zA (zS (zDM (fun (q : (List zC) × Int) => [(0, .t ((ptT 5 p0))), (4, .t (.own 61 2 (List.map zB q.1))), (20, .t (.d (.seq 1 (List.map cI64 x13)))), (21, .i (x13.length : Int)), (22, .i q.2), (HK, .hp (hpA (w0.st_tx i5 (yN.mk x6.l_ x6.at_ true x6.now_))))]) (fun nl2 q => zAV x13 x11 x6 w0 i5 nl2 q.1 q.2) (x13.length + 1) ([], 0) [] h (fun _ => rfl) rfl trivial ⟨.r, (.t (.nilOwn _ _)), .r, .r, .r, .r, trivial⟩ rfl ?_)))))
  rintro nl2 ⟨z15, z16⟩ h
  refine c_sr (o_1 (.b (decide (z16 < (x13.length : Int)))) rfl (zA (zJ (c_if h rfl (fun h17 h => zG (zJ (zS (c_sr ?_)))) fun h17 h => zAQ ?_))))
  ·
   refine bi h fun x18 h19 h => o_c (g0 rfl) rfl rfl rfl (idxE h19) (idxC h19) (o_m2 (.i x18) (.i x18) rfl (zA (zL (o_2 (.t (.d (.seq 2 (List.map zB z15)))) (.t (.own 61 2 (List.map zB z15))) (g0 rfl) rfl rfl rfl (o_1 (.i x18) rfl (o_f3 3 rfl (pq rfl h4) rfl (o_ld (.t (.mpt (OB + cd 6 ((yN.mk x6.l_ x6.at_ true x6.now_).now_)))) rfl (zF0 (zR h7)) rfl (o_1 (.i x18) rfl ?_))))))))
   refine o_of (e := [(33, .y ((zAu x11 x18).getD ([] : (List UInt8))))]) (g0 rfl) (h_mlkH (kv := (fun z : Int => Value.int .i64 z)) (cv := (fun l : List UInt8 => D.y l)) mR rfl rfl rfl (gl_mp h12) rfl rfl (keyInt (by kernel_rfl)) rfl rfl (fun _ => RepD.nilSeq _ _) rfl rfl rfl) rfl (o_m2 (.t (.agg [.i x18, .y ((zAu x11 x18).getD ([] : (List UInt8)))])) (.t (.own 61 2 (List.map zB [(zC.mk x18 ((zAu x11 x18).getD ([] : (List UInt8))))]))) rfl (bi h fun x20 h21 h => o_2c (g0 rfl) rfl rfl rfl (appE (c := zB) h21) (appC (c := zB) h21) (o_2 (.t (.d (.seq 2 (List.map zB x20)))) (.t (.own 61 2 (List.map zB x20))) (g0 rfl) rfl rfl rfl (zA (zL (o_m2 (.i (wi (z16 + 1))) (.i (wi (z16 + 1))) rfl (zA ?_)))))))
   exact lE (x20, (wi (z16 + 1))) h rfl rfl
  exact lE z15 h rfl rfl
 rintro y8 h
 refine c_sr (o_f3 0 rfl (pq rfl h4) rfl (o_of (e := [(41, .t ((ptT 3 ((yN.mk x6.l_ x6.at_ true x6.now_).l_))))]) (g0 rfl) (h_ld mR rfl rfl rfl rfl (zF0 (zR h7)) rfl (qI _ _) rfl rfl) rfl (o_2 (.t (.d (.seq 2 (List.map zB y8)))) (.t (.own 61 2 (List.map zB y8))) (g0 rfl) rfl rfl rfl (bi h fun x9 h10 h => o_cH (zDJ _ _ (w0.st_tx i5 (yN.mk x6.l_ x6.at_ true x6.now_)) _ h10) (g0 rfl) rfl (a2 (qO rfl) (aR rfl)) (r1 rfl) (o_1 (.i x9.1) rfl (zA (zF ?_)))))))
 cases h; exact eR rfl rfl
end Go.Proofs.YtjomnccladjpgaaGreat
