/-
 Walks of functions: each function does what its model tells. Printed by a program of this claim's own (gen.py) off the given translation.
-/
import Derived.Test.YtjomnccladjpgaaGreatQ09
import Derived.Test.YtjomnccladjpgaaGreatQ12
import Derived.Test.YtjomnccladjpgaaGreatQ17
import Derived.Test.YtjomnccladjpgaaGreatQ18
import Derived.Test.YtjomnccladjpgaaGreatQ15
import Derived.Test.YtjomnccladjpgaaGreatQ07
import Derived.Test.YtjomnccladjpgaaGreatQ10
set_option linter.unusedVariables false
set_option linter.unusedSimpArgs false
namespace Go.Proofs.YtjomnccladjpgaaGreat
open Go Go.RowKit
set_option linter.unusedVariables false
set_option maxHeartbeats 4000000
set_option maxRecDepth 20000
theorem zK5 (p0 : (List zC)) (p1 : zC) (r : (List zC)) (h : zHK p0 p1 = some r) : FC Tryz.prog 72 [.t (.d (.seq 2 (List.map zB p0))), .t (.agg [.lit (.int .i64 p1.Home), .seq 1 (zN p1.Data)])] [] (.t (.own 61 2 (List.map zB r))) := by
 refine zD5 (rs := [.tmp 4]) (n := 45) Tryz.func72 rfl rfl (Nat.le_of_ble_eq_true rfl) rfl (pins := []) rfl (L := [(0, .t (.d (.seq 2 (List.map zB p0)))), (1, .t (.agg [.i p1.Home, .y p1.Data]))]) rfl (c_sr (o_m2 (.box [.i p1.Home, .y p1.Data]) (.n) rfl (zA (c_sr (o_1 (.n) rfl (zA (c_sr (o_1 (.b false) rfl (zA ?_)))))))))
 refine yY r (fun (q : (List zC) × Bool) => [(3, .box [.i p1.Home, .y p1.Data]), (5, .t (.own 61 2 (List.map zB q.1))), (6, .b q.2)]) (fun q => zFH p1 q.1 q.2) ?_ ?_
 ·
  refine c_sr (o_1 (.t (.d (.seq 2 (List.map zB p0)))) rfl (o_c (g0 rfl) rfl rfl rfl (lenE _ _) trivial (o_1 (.i 0) rfl (zA (zS (zDM (fun (q : (List zC) × Bool × Int) => [(3, .box [.i p1.Home, .y p1.Data]), (5, .t (.own 61 2 (List.map zB q.1))), (6, .b q.2.1), (9, .t (.d (.seq 2 (List.map zB p0)))), (10, .i (p0.length : Int)), (11, .i q.2.2)]) (fun nl2 q => zBb p0 p1 nl2 q.1 q.2.1 q.2.2) (p0.length + 1) ([], false, 0) [] h (fun _ => rfl) rfl trivial ⟨.r, (.t (.nilOwn _ _)), .r, .r, .r, .r, trivial⟩ rfl ?_))))))
  rintro nl2 ⟨z6, z7, z8⟩ h
  refine c_sr (o_1 (.b (decide (z8 < (p0.length : Int)))) rfl (zA (zJ (c_if h rfl (fun h9 h => zG (zJ (zS (c_sr ?_)))) fun h9 h => zAQ ?_))))
  ·
   refine bi h fun x10 h11 h => o_c (g0 rfl) rfl rfl rfl (idxE h11) (idxC h11) (o_m2 (.t (.agg [.i x10.Home, .y x10.Data])) (.box [.i 0, .n]) rfl (o_st (.box [.i x10.Home, .y x10.Data]) (g0 rfl) rfl rfl rfl (zA (yY r (fun (q : (List zC) × Bool) => [(3, .box [.i p1.Home, .y p1.Data]), (5, .t (.own 61 2 (List.map zB q.1))), (6, .b q.2), (8, .box [.i x10.Home, .y x10.Data]), (9, .t (.d (.seq 2 (List.map zB p0)))), (10, .i (p0.length : Int)), (11, .i z8)]) (fun q => zC8 (zBb p0 p1 nl2) x10 p1 z8 q.1 q.2) ?_ ?_))))
   ·
    refine c_sr (o_m3 (.b z7) (.b (!z7)) (.b (!z7)) rfl ?_)
    rcases zP h with ⟨h17, h⟩ | ⟨h17, h⟩
    ·
     refine o_s (.ref 3 0) (gy rfl rfl rfl h17) rfl rfl rfl (o_s (.i p1.Home) (gy rfl rfl rfl h17) rfl rfl rfl (o_s (.ref 8 0) (gy rfl rfl rfl h17) rfl rfl rfl (o_s (.i x10.Home) (gy rfl rfl rfl h17) rfl rfl rfl (o_s (.b (decide (p1.Home ≤ x10.Home))) (gy rfl rfl rfl h17) rfl rfl rfl (o_pT (.b (decide (p1.Home ≤ x10.Home))) h17 rfl (zA ?_))))))
     refine c_if h rfl (fun h18 h => c_sr (o_2 (.t (.d (.seq 2 (List.map zB z6)))) (.t (.own 61 2 (List.map zB z6))) (g0 rfl) rfl rfl rfl (o_m2 (.t (.agg [.i p1.Home, .y p1.Data])) (.t (.own 61 2 (List.map zB [p1]))) rfl ?_))) fun h18 h => zG ?_
     ·
      refine bi h fun x19 h20 h => o_2c (g0 rfl) rfl rfl rfl (appE (c := zB) h20) (appC (c := zB) h20) (o_2 (.t (.d (.seq 2 (List.map zB x19)))) (.t (.own 61 2 (List.map zB x19))) (g0 rfl) rfl rfl rfl (zA (zL (o_1 (.b true) rfl (zA ?_)))))
      exact lE (x19, true) h rfl rfl
     exact lE (z6, z7) h rfl rfl
    refine o_k4 rfl h17 (o_k1 rfl h17 (o_pF (.b false) h17 rfl (zA (c_f rfl rfl (zG ?_)))))
    exact lE (z6, z7) h rfl rfl
   rintro ⟨y12, y13⟩ h
   refine c_sr (o_m5 (.ref 8 0) (.i x10.Home) (.ref 3 0) (.i p1.Home) (.b (x10.Home != p1.Home)) rfl (zA (c_if h rfl (fun h14 h => zL (o_2 (.t (.d (.seq 2 (List.map zB y12)))) (.t (.own 61 2 (List.map zB y12))) (g0 rfl) rfl rfl rfl (o_m2 (.t (.agg [.i x10.Home, .y x10.Data])) (.t (.own 61 2 (List.map zB [x10]))) rfl ?_))) fun h14 h => zG (zL (o_m2 (.i (wi (z8 + 1))) (.i (wi (z8 + 1))) rfl (zA ?_))))))
   ·
    refine bi h fun x15 h16 h => o_2c (g0 rfl) rfl rfl rfl (appE (c := zB) h16) (appC (c := zB) h16) (o_2 (.t (.d (.seq 2 (List.map zB x15)))) (.t (.own 61 2 (List.map zB x15))) (g0 rfl) rfl rfl rfl (zA (zL (o_m2 (.i (wi (z8 + 1))) (.i (wi (z8 + 1))) rfl (zA ?_)))))
    exact lE (x15, y13, (wi (z8 + 1))) h rfl rfl
   exact lE (y12, y13, (wi (z8 + 1))) h rfl rfl
  exact lE (z6, z7) h rfl rfl
 rintro ⟨y1, y2⟩ h
 refine zJ (c_sr (o_m2 (.b y2) (.b (!y2)) rfl (zA ?_)))
 refine c_if h rfl (fun h3 h => zL (o_2 (.t (.d (.seq 2 (List.map zB y1)))) (.t (.own 61 2 (List.map zB y1))) (g0 rfl) rfl rfl rfl (o_m2 (.t (.agg [.i p1.Home, .y p1.Data])) (.t (.own 61 2 (List.map zB [p1]))) rfl ?_))) fun h3 h => zG (c_sr (o_2 (.t (.d (.seq 2 (List.map zB y1)))) (.t (.own 61 2 (List.map zB y1))) (g0 rfl) rfl rfl rfl (o_2 (.t (.d (.seq 2 (List.map zB y1)))) (.t (.own 61 2 (List.map zB y1))) (g0 rfl) rfl rfl rfl (zA (zF ?_)))))
 ·
  refine bi h fun x4 h5 h => o_2c (g0 rfl) rfl rfl rfl (appE (c := zB) h5) (appC (c := zB) h5) (o_2 (.t (.d (.seq 2 (List.map zB x4)))) (.t (.own 61 2 (List.map zB x4))) (g0 rfl) rfl rfl rfl (zA (c_sr (o_2 (.t (.d (.seq 2 (List.map zB x4)))) (.t (.own 61 2 (List.map zB x4))) (g0 rfl) rfl rfl rfl (o_2 (.t (.d (.seq 2 (List.map zB x4)))) (.t (.own 61 2 (List.map zB x4))) (g0 rfl) rfl rfl rfl (zA (zF ?_)))))))
  cases h
  exact end0 rfl .r
 cases h
 exact end0 rfl .r
theorem zG2 (p0 : (Option Nat)) (p1 : (Option Nat)) (p2 : (List zC)) (w0 : Hp) (r : (Bool × Hp)) (h : zA8 p0 p1 p2 w0 = some r) : FCH Tryz.prog 42 [.t ((ptT 3 p0)), .t ((ptT 9 p1)), .t (.d (.seq 2 (List.map zB p2)))] [] [] (hpA w0) (hpA r.2) (.t (.d (.lit (.bool r.1)))) := by
 refine qR (rs := [.tmp 6]) (n := 123) [] Tryz.func42 rfl rfl (Nat.le_of_ble_eq_true rfl) rfl (pins := []) rfl (L := [(HK, .hp (hpA w0)), (0, .t ((ptT 3 p0))), (1, .t ((ptT 9 p1))), (2, .t (.d (.seq 2 (List.map zB p2))))]) rfl (c_sr (o_1 (.b false) rfl (zA (c_sr (o_mv rfl (zI rfl) ?_)))))
 refine bi h fun x1 h2 h => o_cH (zGb _ w0 _ h2) (g0 rfl) rfl (a1 (qO rfl)) (.tup (.cons (zHh _ _) (.cons (.flat rfl) .nil))) (o_c (g0 rfl) rfl rfl rfl (congrArg A.tup (zDn (zEw _ _) (zDn rfl zH2))) trivial (o_c (g0 rfl) rfl rfl rfl (congrArg A.t (zEw _ _)) trivial (o_1 (.i x1.2.1) rfl (o_of (e := [(7, .t ((ptT 5 x1.1)))]) (g0 rfl) (h_mv mR (.inr rfl) (zI rfl) rfl rfl) rfl (o_1 (.i x1.2.1) rfl (zA (zJ (c_sr ?_))))))))
 refine o_mv rfl (zI rfl) ?_
 rcases zQ h with ⟨h3, h⟩ | ⟨i4, h3, h⟩
 ·
  refine o_of (e := [(21, .b true)]) (g0 rfl) (h_pn mR (ng := false) rfl rfl rfl (zCz rfl h3) rfl rfl) rfl (zA (c_t rfl rfl (c_sr (o_m3 (.i x1.2.1) (.b (x1.2.1 == 1)) (.b (x1.2.1 == 1)) rfl ?_))))
  rcases zP h with ⟨h5, h⟩ | ⟨h5, h⟩
  ·
   refine o_of (e := [(25, .t ((ptT 5 x1.1)))]) (gy rfl rfl rfl h5) (h_mv mR (.inl rfl) (zI rfl) rfl rfl) rfl (bi h fun x6 h7 h => o_cH (zCP _ x1.2.2 _ h7) (gy rfl rfl rfl h5) rfl (a1 (qO rfl)) (r1 rfl) (o_s (.b (x6.1 == 1)) (gy rfl rfl rfl h5) rfl rfl rfl (o_pT (.b (x6.1 == 1)) h5 rfl (o_1 (.b (x6.1 == 1)) rfl ?_))))
   rcases zP h with ⟨h8, h⟩ | ⟨h8, h⟩
   ·
    refine o_of (e := [(30, .t ((ptT 5 x1.1)))]) (gy rfl rfl rfl h8) (h_mv mR (.inl rfl) (zI rfl) rfl rfl) rfl (bi h fun x9 h10 h => o_cR (zEK _ x6.2 _ h10) (gy rfl rfl rfl h8) rfl (a1 (qO rfl)) (r1 rfl) (o_s (.b (x9 == 0)) (gy rfl rfl rfl h8) rfl rfl rfl (o_pT (.b (x9 == 0)) h8 rfl (o_1 (.b (x9 == 0)) rfl ?_))))
    rcases zP h with ⟨h11, h⟩ | ⟨h11, h⟩
    ·
     refine o_of (e := [(35, .t ((ptT 5 x1.1)))]) (gy rfl rfl rfl h11) (h_mv mR (.inl rfl) (zI rfl) rfl rfl) rfl (bi h fun x12 h13 h => o_cR (zFY _ x6.2 _ h13) (gy rfl rfl rfl h11) rfl (a1 (aR rfl)) (r1 rfl) (bi h fun x14 h15 h => o_cH (zES _ _ _ x6.2 _ h15) (gy rfl rfl rfl h11) rfl (a3 (qO rfl) (aR rfl) (aR rfl)) (r1 rfl) (o_s (.b (x14.1 == 1)) (gy rfl rfl rfl h11) rfl rfl rfl (o_pT (.b (x14.1 == 1)) h11 rfl (o_1 (.b (x14.1 == 1)) rfl (zA (zF ?_)))))))
     cases h; exact eR rfl rfl
    refine o_k4 rfl h11 (o_pF (.b false) h11 rfl (o_1 (.b false) rfl (zA (zF ?_))))
    cases h; exact eR rfl rfl
   refine o_k3 rfl h8 (o_pF (.b false) h8 rfl (o_1 (.b false) rfl (o_k4 rfl rfl (o_pF (.b false) rfl rfl (o_1 (.b false) rfl (zA (zF ?_)))))))
   cases h; exact eR rfl rfl
  refine o_k3 rfl h5 (o_pF (.b false) h5 rfl (o_1 (.b false) rfl (o_k3 rfl rfl (o_pF (.b false) rfl rfl (o_1 (.b false) rfl (o_k4 rfl rfl (o_pF (.b false) rfl rfl (o_1 (.b false) rfl ?_))))))))
  refine zA (zF ?_)
  cases h; exact eR rfl rfl
 refine o_of (e := [(21, .b false)]) (g0 rfl) (h_pn mR (ng := false) rfl rfl rfl (zC2 rfl h3) rfl rfl) rfl (zA (c_f rfl rfl (zG (zJ (c_sr (o_1 (.i x1.2.1) rfl (o_mv rfl (pq rfl h3) ?_)))))))
 refine bi h fun x16 h17 h => o_cR (zCg _ x1.2.2 _ h17) (g0 rfl) rfl (a1 aH) (r1 rfl) (o_1 (.b (x1.2.1 != x16)) rfl (zA ?_))
 refine c_if h rfl (fun h18 h => c_sr (o_1 (.b false) rfl (zA (zF ?_)))) fun h18 h => zG (zJ (c_sr (o_m2 (.i x1.2.1) (.b (x1.2.1 != 0)) rfl (zA ?_))))
 ·
  cases h; exact eR rfl rfl
 refine c_if h rfl (fun h19 h => c_sr (o_mv rfl (zI rfl) ?_)) fun h19 h => zG (c_sr (o_1 (.n) rfl (zA ?_)))
 ·
  refine bi h fun x20 h21 h => o_cH (zCP _ x1.2.2 _ h21) (g0 rfl) rfl (a1 (qO rfl)) (r1 rfl) (o_m2 (.b (x20.1 == 1)) (.b (x20.1 == 1)) rfl (zA (zF ?_)))
  cases h; exact eR rfl rfl
 refine yY r (fun (q : (List zC) × Hp) => [(1, .t ((ptT 9 p1))), (7, .t ((ptT 5 x1.1))), (9, .t (.own 61 2 (List.map zB q.1))), (HK, .hp (hpA q.2))]) (fun q => zDb x1 i4 q.1 q.2) ?_ ?_
 ·
  refine c_sr (o_1 (.t (.d (.seq 2 (List.map zB p2)))) rfl (o_c (g0 rfl) rfl rfl rfl (lenE _ _) trivial (o_1 (.i 0) rfl (zA (zS (zDM (fun (q : (List zC) × Int × Hp) => [(1, .t ((ptT 9 p1))), (7, .t ((ptT 5 x1.1))), (9, .t (.own 61 2 (List.map zB q.1))), (49, .t (.d (.seq 2 (List.map zB p2)))), (50, .i (p2.length : Int)), (51, .i q.2.1), (HK, .hp (hpA q.2.2))]) (fun nl2 q => zAo p2 x1 i4 nl2 q.1 q.2.1 q.2.2) (p2.length + 1) ([], 0, x1.2.2) [] h (fun _ => rfl) rfl trivial ⟨.r, .r, (.t (.nilOwn _ _)), .r, .r, .r, .r, trivial⟩ rfl ?_))))))
  rintro nl2 ⟨z34, z35, z36⟩ h
  refine c_sr (o_1 (.b (decide (z35 < (p2.length : Int)))) rfl (zA (zJ (c_if h rfl (fun h37 h => zG (zJ (zS (c_sr ?_)))) fun h37 h => zAQ ?_))))
  ·
   refine bi h fun x38 h39 h => o_c (g0 rfl) rfl rfl rfl (idxE h39) (idxC h39) (o_m2 (.t (.agg [.i x38.Home, .y x38.Data])) (.box [.i 0, .n]) rfl (o_st (.box [.i x38.Home, .y x38.Data]) (g0 rfl) rfl rfl rfl (zA (c_sr (o_mv rfl (zI rfl) (o_m4 (.ref 11 0) (.i x38.Home) (.ref 11 1) (.y x38.Data) rfl ?_))))))
   refine bi h fun x40 h41 h => o_cH (zES _ _ _ z36 _ h41) (g0 rfl) rfl (a3 (qO rfl) (aR rfl) (aR rfl)) (r1 rfl) (o_1 (.i x40.1) rfl (zA (zS (yY r (fun (y42 : Bool) => [(1, .t ((ptT 9 p1))), (7, .t ((ptT 5 x1.1))), (9, .t (.own 61 2 (List.map zB z34))), (11, .box [.i x38.Home, .y x38.Data]), (12, .i x40.1), (49, .t (.d (.seq 2 (List.map zB p2)))), (50, .i (p2.length : Int)), (51, .i z35), (84, .b y42), (HK, .hp (hpA x40.2))]) (fun y42 => zAk (zAo p2 x1 i4 nl2) x40 z34 z35 x38 x1 y42) ?_ ?_))))
   ·
    refine qQ mixed (by kernel_rfl) (d_1 (.ref 11 0) rfl rfl (d_1 (.i x38.Home) rfl rfl (d_1 (.b (decide (x38.Home < 0))) rfl rfl (d_1 (.b (decide (x38.Home < 0))) rfl rfl ?_))))
    rcases zP h with ⟨h56, h⟩ | ⟨h56, h⟩
    ·
     refine d_k1 rfl rfl h56 (d_k1 rfl rfl h56 (d_k1 rfl rfl h56 (d_k1 rfl rfl h56 (d_k1 rfl rfl h56 (d_pT (.b true) h56 rfl rfl (d_1 (.b true) rfl rfl (yD (by kernel_rfl) ?_)))))))
     exact lE true h rfl rfl
    refine d_s (.ref 11 0) rfl (dgy rfl rfl rfl rfl h56) rfl rfl rfl rfl (d_s (.i x38.Home) rfl (dgy rfl rfl rfl rfl h56) rfl rfl rfl rfl (d_h0 [] (e := [(91, .t (.hpt (cd 9 i4) 0))]) (ks := [91]) rfl (dgy rfl rfl rfl rfl h56) rfl rfl (fun S' hM hok => h_mv hM (.inl rfl) ((zI rfl).trans (qM h3)) rfl (hok _ rfl rfl)) rfl (bi h fun x57 h58 h => d_cR (zBx _ x40.2 _ h58) rfl (dgy rfl rfl rfl rfl h56) rfl (a1 aH) (r1 rfl) (d_s (.b (decide (x38.Home ≥ x57))) rfl (dgy rfl rfl rfl rfl h56) rfl rfl rfl rfl (d_pF (.b (decide (x38.Home ≥ x57))) h56 rfl rfl (d_1 (.b (decide (x38.Home ≥ x57))) rfl rfl (yD (by kernel_rfl) ?_)))))))
    exact lE (decide (x38.Home ≥ x57)) h rfl rfl
   rintro y42 h
   refine c_if h rfl (fun h43 h => c_sr (o_m2 (.i x40.1) (.b (x40.1 != 31)) rfl (zA ?_))) fun h43 h => c_sr (o_m2 (.ref 11 1) (.y x38.Data) rfl (o_c (g0 rfl) rfl rfl rfl (lenE _ _) trivial (o_m2 (.b ((x38.Data.length : Int) != 64)) (.b ((x38.Data.length : Int) != 64)) rfl (zA ?_))))
   ·
    refine c_if h rfl (fun h44 h => c_sr (o_1 (.b false) rfl (zA (zF ?_)))) fun h44 h => zG (zL (o_m2 (.i (wi (z35 + 1))) (.i (wi (z35 + 1))) rfl (zA ?_)))
    ·
     cases h; exact eR rfl rfl
    exact lE (z34, (wi (z35 + 1)), x40.2) h rfl rfl
   refine c_if h rfl (fun h45 h => c_sr (o_m2 (.i x40.1) (.b (x40.1 != 2)) rfl (zA ?_))) fun h45 h => c_sr (o_mv rfl (zI rfl) (o_m2 (.ref 11 0) (.i x38.Home) rfl ?_))
   ·
    refine c_if h rfl (fun h46 h => c_sr (o_1 (.b false) rfl (zA (zF ?_)))) fun h46 h => zG (zL (o_m2 (.i (wi (z35 + 1))) (.i (wi (z35 + 1))) rfl (zA ?_)))
    ·
     cases h; exact eR rfl rfl
    exact lE (z34, (wi (z35 + 1)), x40.2) h rfl rfl
   refine bi h fun x47 h48 h => o_cR (zGy _ _ x40.2 _ h48) (g0 rfl) rfl (a2 (qO rfl) (aR rfl)) (r2 rfl) (o_m5 (.tup [.y x47.1, .i x47.2]) (.y x47.1) (.i x47.2) (.y x47.1) (.i x47.2) rfl (zA (zJ (c_sr (o_m3 (.i x40.1) (.b (x40.1 != 0)) (.b (x40.1 != 0)) rfl ?_)))))
   rcases zP h with ⟨h49, h⟩ | ⟨h49, h⟩
   ·
    refine o_k2 rfl h49 (o_pT (.b true) h49 rfl (o_1 (.b true) rfl (o_k4 rfl rfl (o_k1 rfl rfl ?_))))
    refine o_pT (.b true) rfl rfl (zA (c_t rfl rfl (c_sr (o_1 (.b false) rfl (zA (zF ?_))))))
    cases h; exact eR rfl rfl
   refine o_s (.i x47.2) (gy rfl rfl rfl h49) rfl rfl rfl (o_s (.b (x47.2 != 0)) (gy rfl rfl rfl h49) rfl rfl rfl (o_pF (.b (x47.2 != 0)) h49 rfl (o_1 (.b (x47.2 != 0)) rfl ?_)))
   rcases zP h with ⟨h50, h⟩ | ⟨h50, h⟩
   ·
    refine o_k4 rfl h50 (o_k1 rfl h50 (o_pT (.b true) h50 rfl (zA (c_t rfl rfl (c_sr (o_1 (.b false) rfl (zA (zF ?_))))))))
    cases h; exact eR rfl rfl
   refine o_s (.y x47.1) (gy rfl rfl rfl h50) rfl rfl rfl (o_s (.ref 11 1) (gy rfl rfl rfl h50) rfl rfl rfl (o_s (.y x38.Data) (gy rfl rfl rfl h50) rfl rfl rfl (bi h fun x51 h52 h => o_cA (zCV _ _ _ h52) (gy rfl rfl rfl h50) rfl (.cons .r (.cons .r .nil)) rfl (o_s (.b (!x51)) (gy rfl rfl rfl h50) rfl rfl rfl (o_pF (.b (!x51)) h50 rfl (zA ?_))))))
   refine c_if h rfl (fun h53 h => c_sr (o_1 (.b false) rfl (zA (zF ?_)))) fun h53 h => zG (zL (o_2 (.t (.d (.seq 2 (List.map zB z34)))) (.t (.own 61 2 (List.map zB z34))) (g0 rfl) rfl rfl rfl (o_1 (.t (.agg [.i x38.Home, .y x38.Data])) rfl ?_)))
   ·
    cases h; exact eR rfl rfl
   refine bi h fun x54 h55 h => o_cA (zK5 _ _ _ h55) (g0 rfl) rfl (.cons .r (.cons .r .nil)) rfl (o_2 (.t (.d (.seq 2 (List.map zB x54)))) (.t (.own 61 2 (List.map zB x54))) (g0 rfl) rfl rfl rfl (zA (zL (o_m2 (.i (wi (z35 + 1))) (.i (wi (z35 + 1))) rfl (zA ?_)))))
   exact lE (x54, (wi (z35 + 1)), x40.2) h rfl rfl
  exact lE (z34, z36) h rfl rfl
 rintro ⟨y22, y23⟩ h
 refine c_sr (o_mv rfl (zI rfl) (bi h fun x24 h25 h => o_cR (zEK _ y23 _ h25) (g0 rfl) rfl (a1 (qO rfl)) (r1 rfl) (o_1 (.t (.d (.seq 2 (List.map zB y22)))) rfl (o_c (g0 rfl) rfl rfl rfl (lenE _ _) trivial (o_m2 (.b (x24 == (y22.length : Int))) (.b (x24 == (y22.length : Int))) rfl ?_)))))
 rcases zP h with ⟨h26, h⟩ | ⟨h26, h⟩
 ·
  refine o_of (e := [(111, .t ((ptT 5 x1.1)))]) (gy rfl rfl rfl h26) (h_mv mR (.inl rfl) (zI rfl) rfl rfl) rfl (bi h fun x27 h28 h => o_cH (zCP _ y23 _ h28) (gy rfl rfl rfl h26) rfl (a1 (qO rfl)) (r1 rfl) (o_of (e := [(113, .t (.hpt (cd 9 i4) 0))]) (gy rfl rfl rfl h26) (h_mv mR (.inl rfl) ((zI rfl).trans (qM h3)) rfl rfl) rfl (o_2 (.t (.d (.seq 2 (List.map zB y22)))) (.t (.own 61 2 (List.map zB y22))) (gy rfl rfl rfl h26) rfl rfl rfl (bi h fun x29 h30 h => o_cH (zEF _ _ x27.2 _ h30) (gy rfl rfl rfl h26) rfl (a2 aH (aR rfl)) (r1 rfl) (o_s (.b (x27.1 == x29.1)) (gy rfl rfl rfl h26) rfl rfl rfl (o_pT (.b (x27.1 == x29.1)) h26 rfl (o_1 (.b (x27.1 == x29.1)) rfl ?_)))))))
  rcases zP h with ⟨h31, h⟩ | ⟨h31, h⟩
  ·
   refine o_of (e := [(119, .t ((ptT 5 x1.1)))]) (gy rfl rfl rfl h31) (h_mv mR (.inl rfl) (zI rfl) rfl rfl) rfl (bi h fun x32 h33 h => o_cH (zCP _ x29.2 _ h33) (gy rfl rfl rfl h31) rfl (a1 (qO rfl)) (r1 rfl) (o_s (.b (x32.1 != 0)) (gy rfl rfl rfl h31) rfl rfl rfl (o_pT (.b (x32.1 != 0)) h31 rfl (o_1 (.b (x32.1 != 0)) rfl (zA (zF ?_))))))
   cases h; exact eR rfl rfl
  refine o_k3 rfl h31 (o_pF (.b false) h31 rfl (o_1 (.b false) rfl (zA (zF ?_))))
  cases h; exact eR rfl rfl
 refine o_k4 rfl h26 (o_k2 rfl h26 (o_pF (.b false) h26 rfl (o_1 (.b false) rfl (o_k3 rfl rfl (o_pF (.b false) rfl rfl (o_1 (.b false) rfl (zA (zF ?_))))))))
 cases h; exact eR rfl rfl
theorem zEy (p0 : (Option Nat)) (p1 : zAx) (w0 : Hp) (r : (Bool × Hp)) (h : zAF p0 p1 w0 = some r) : FCH Tryz.prog 10 [.t ((ptT 10 p0)), .t (.agg [.lit (.int .i64 p1.Kind), .lit (.int .i64 p1.N), .seq 2 (List.map zB p1.W), .seq 1 (zN p1.B)])] [] [] (hpA w0) (hpA r.2) (.t (.d (.lit (.bool r.1)))) := by
 refine qR (rs := [.tmp 4]) (n := 198) [] Tryz.func10 rfl rfl (Nat.le_of_ble_eq_true rfl) rfl (pins := []) rfl (L := [(HK, .hp (hpA w0)), (0, .t ((ptT 10 p0))), (1, .t (.agg [.i p1.Kind, .i p1.N, .seq 2 (List.map zB p1.W), .y p1.B]))]) rfl (c_sr (o_m2 (.box [.i p1.Kind, .i p1.N, .d (.seq 2 (List.map zB p1.W)), .y p1.B]) (.b false) rfl (zA (zJ (c_sr (o_m2 (.ref 3 0) (.i p1.Kind) rfl (zA (zS (c_sr ?_)))))))))
 refine o_m2 (.b (p1.Kind == 1)) (.b (p1.Kind == 1)) rfl (zA (c_if h rfl (fun h1 h => zJ (qQ mixed (by kernel_rfl) ?_)) fun h1 h => c_sr (o_m2 (.b (p1.Kind == 2)) (.b (p1.Kind == 2)) rfl (zA ?_))))
 ·
  rcases zQ h with ⟨h2, h⟩ | ⟨i3, h2, h⟩
  ·
   refine d_mv rfl rfl ((zI rfl).trans (qL h2)) ?_
   exact qF h
  refine d_mv rfl rfl (pq rfl h2) (d_nc rfl rfl rfl (d_fd 1 rfl rfl rfl (bi h fun x4 h5 h => d_h (e := [(22, .t ((ptT 3 x4.l_)))]) (ks := [22]) rfl (dg0 rfl) rfl rfl (fun S' hM hk hok => h_ld hM hk rfl rfl rfl (zCL h5) rfl (qI _ _) rfl (hok _ rfl rfl)) rfl (d_1 (.ref 3 2) rfl rfl (d_1 (.t (.d (.seq 2 (List.map zB p1.W)))) rfl rfl ?_)))))
  refine bi h fun x6 h7 h => d_cH (zDJ _ _ w0 _ h7) rfl (dg0 rfl) rfl (a2 (qO rfl) (aR rfl)) (r1 rfl) (d_1 (.i x6.1) rfl rfl (yD (by kernel_rfl) (zJ (c_sr (o_f3 3 rfl (pq rfl h2) rfl (bi h fun x8 h9 h => o_of (e := [(29, .t ((ptT 9 x8.m_)))]) (g0 rfl) (h_ld mR rfl rfl rfl rfl (zCL h9) rfl (qI _ _) rfl rfl) rfl ?_))))))
  rcases zQ h with ⟨h10, h⟩ | ⟨i11, h10, h⟩
  ·
   refine o_of (e := [(30, .b true)]) (g0 rfl) (h_pn mR (ng := false) rfl rfl rfl (zCz rfl h10) rfl rfl) rfl (zA (c_t rfl rfl (c_sr (o_m3 (.i x6.1) (.b (x6.1 == 1)) (.b (x6.1 == 1)) rfl (zA (zF ?_))))))
   cases h; exact eR rfl rfl
  refine o_of (e := [(30, .b false)]) (g0 rfl) (h_pn mR (ng := false) rfl rfl rfl (zC2 rfl h10) rfl rfl) rfl (zA (c_f rfl rfl (zG (zJ (qQ mixed (by kernel_rfl) (d_1 (.i x6.1) rfl rfl (d_mv rfl rfl (pq rfl h2) (d_nc rfl rfl rfl (d_fd 3 rfl rfl rfl ?_)))))))))
  refine d_h (e := [(37, .t ((ptT 9 x8.m_)))]) (ks := [37]) rfl (dg0 rfl) rfl rfl (fun S' hM hk hok => h_ld hM hk rfl rfl rfl (zCL h9) rfl (qI _ _) rfl (hok _ rfl rfl)) rfl (d_1 (.ref 3 2) rfl rfl (d_1 (.t (.d (.seq 2 (List.map zB p1.W)))) rfl rfl (bi h fun x12 h13 h => d_cH (zEF _ _ x6.2 _ h13) rfl (dg0 rfl) rfl (a2 (qO rfl) (aR rfl)) (r1 rfl) (d_1 (.b (x6.1 == x12.1)) rfl rfl (d_1 (.b (x6.1 == x12.1)) rfl rfl (yD (by kernel_rfl) (zF ?_)))))))
  cases h; exact eR rfl rfl
 refine c_if h rfl (fun h14 h => c_sr (o_mv rfl (zI rfl) ?_)) fun h14 h => c_sr (o_m2 (.b (p1.Kind == 3)) (.b (p1.Kind == 3)) rfl (zA ?_))
 ·
  rcases zQ h with ⟨h15, h⟩ | ⟨i16, h15, h⟩
  ·
   exact qF h
  refine o_nf 1 rfl (pq rfl h15) rfl (bi h fun x17 h18 h => o_of (e := [(47, .t ((ptT 3 x17.l_)))]) (g0 rfl) (h_ld mR rfl rfl rfl rfl (zCL h18) rfl (qI _ _) rfl rfl) rfl (bi h fun x19 h20 h => o_cH (zBS _ w0 _ h20) (g0 rfl) rfl (a1 (qO rfl)) (r1 rfl) (o_1 (.i x19.1) rfl (zA (zJ (c_sr (o_f3 3 rfl (pq rfl h15) rfl ?_)))))))
  refine bi h fun x21 h22 h => o_of (e := [(52, .t ((ptT 9 x21.m_)))]) (g0 rfl) (h_ld mR rfl rfl rfl rfl (zCL h22) rfl (qI _ _) rfl rfl) rfl ?_
  rcases zQ h with ⟨h23, h⟩ | ⟨i24, h23, h⟩
  ·
   refine o_of (e := [(53, .b true)]) (g0 rfl) (h_pn mR (ng := false) rfl rfl rfl (zCz rfl h23) rfl rfl) rfl (zA (c_t rfl rfl (c_sr (o_m3 (.i x19.1) (.b (x19.1 == 1)) (.b (x19.1 == 1)) rfl (zA (zF ?_))))))
   cases h; exact eR rfl rfl
  refine o_of (e := [(53, .b false)]) (g0 rfl) (h_pn mR (ng := false) rfl rfl rfl (zC2 rfl h23) rfl rfl) rfl (zA (c_f rfl rfl (zG (c_sr (o_1 (.i x19.1) rfl (o_f3 3 rfl (pq rfl h15) rfl (o_of (e := [(60, .t ((ptT 9 x21.m_)))]) (g0 rfl) (h_ld mR rfl rfl rfl rfl (zCL h22) rfl (qI _ _) rfl rfl) rfl ?_)))))))
  refine bi h fun x25 h26 h => o_cH (zCJ _ x19.2 _ h26) (g0 rfl) rfl (a1 (qO rfl)) (r1 rfl) (o_m2 (.b (x19.1 == x25.1)) (.b (x19.1 == x25.1)) rfl (zA (zF ?_)))
  cases h; exact eR rfl rfl
 refine c_if h rfl (fun h27 h => zJ (qQ mixed (by kernel_rfl) ?_)) fun h27 h => c_sr (o_m2 (.b (p1.Kind == 4)) (.b (p1.Kind == 4)) rfl (zA ?_))
 ·
  rcases zQ h with ⟨h28, h⟩ | ⟨i29, h28, h⟩
  ·
   refine d_mv rfl rfl ((zI rfl).trans (qL h28)) ?_
   exact qF h
  refine d_mv rfl rfl (pq rfl h28) (d_nc rfl rfl rfl (d_fd 0 rfl rfl rfl (bi h fun x30 h31 h => d_h (e := [(68, .t ((ptT 1 x30.d_)))]) (ks := [68]) rfl (dg0 rfl) rfl rfl (fun S' hM hk hok => h_ld hM hk rfl rfl rfl (zCL h31) rfl (qI _ _) rfl (hok _ rfl rfl)) rfl (d_1 (.ref 3 1) rfl rfl (d_1 (.i p1.N) rfl rfl ?_)))))
  refine bi h fun x32 h33 h => d_cH (zEG _ _ w0 _ h33) rfl (dg0 rfl) rfl (a2 (qO rfl) (aR rfl)) (.tup .nil) (yD (by kernel_rfl) (qQ mixed (by kernel_rfl) (d_mv rfl rfl (pq rfl h28) (d_nc rfl rfl rfl (d_fd 2 rfl rfl rfl (bi h fun x34 h35 h => d_h (e := [(75, .t ((ptT 8 x34.w_)))]) (ks := [75]) rfl (dg0 rfl) rfl rfl (fun S' hM hk hok => h_ld hM hk rfl rfl rfl (zCL h35) rfl (qI _ _) rfl (hok _ rfl rfl)) rfl (d_1 (.ref 3 1) rfl rfl (d_1 (.i p1.N) rfl rfl ?_))))))))
  refine bi h fun x36 h37 h => d_cH (zEJ _ _ x32 _ h37) rfl (dg0 rfl) rfl (a2 (qO rfl) (aR rfl)) (.tup .nil) (yD (by kernel_rfl) (c_sr (o_1 (.b true) rfl (zA (zF ?_)))))
  cases h; exact eR rfl rfl
 refine c_if h rfl (fun h38 h => zJ (qQ mixed (by kernel_rfl) ?_)) fun h38 h => c_sr (o_m2 (.b (p1.Kind == 5)) (.b (p1.Kind == 5)) rfl (zA ?_))
 ·
  rcases zQ h with ⟨h39, h⟩ | ⟨i40, h39, h⟩
  ·
   refine d_mv rfl rfl ((zI rfl).trans (qL h39)) ?_
   exact qF h
  refine d_mv rfl rfl (pq rfl h39) (d_nc rfl rfl rfl (d_fd 0 rfl rfl rfl (bi h fun x41 h42 h => d_h (e := [(84, .t ((ptT 1 x41.d_)))]) (ks := [84]) rfl (dg0 rfl) rfl rfl (fun S' hM hk hok => h_ld hM hk rfl rfl rfl (zCL h42) rfl (qI _ _) rfl (hok _ rfl rfl)) rfl (d_1 (.ref 3 3) rfl rfl (d_1 (.y p1.B) rfl rfl ?_)))))
  refine bi h fun x43 h44 h => d_cH (zFs _ _ w0 _ h44) rfl (dg0 rfl) rfl (a2 (qO rfl) (aR rfl)) (r1 rfl) (yD (by kernel_rfl) (zJ (qQ mixed (by kernel_rfl) (d_mv rfl rfl (pq rfl h39) (d_nc rfl rfl rfl (d_fd 2 rfl rfl rfl ?_))))))
  refine bi h fun x45 h46 h => d_h (e := [(91, .t ((ptT 8 x45.w_)))]) (ks := [91]) rfl (dg0 rfl) rfl rfl (fun S' hM hk hok => h_ld hM hk rfl rfl rfl (zCL h46) rfl (qI _ _) rfl (hok _ rfl rfl)) rfl (d_1 (.ref 3 3) rfl rfl (d_1 (.y p1.B) rfl rfl ?_))
  refine bi h fun x47 h48 h => d_cH (zF6 _ _ x43.2 _ h48) rfl (dg0 rfl) rfl (a2 (qO rfl) (aR rfl)) (.tup .nil) (yD (by kernel_rfl) (zJ (qQ mixed (by kernel_rfl) (d_mv rfl rfl (pq rfl h39) (d_nc rfl rfl rfl (d_fd 0 rfl rfl rfl ?_))))))
  refine bi h fun x49 h50 h => d_h (e := [(98, .t ((ptT 1 x49.d_)))]) (ks := [98]) rfl (dg0 rfl) rfl rfl (fun S' hM hk hok => h_ld hM hk rfl rfl rfl (zCL h50) rfl (qI _ _) rfl (hok _ rfl rfl)) rfl (d_1 (.ref 3 1) rfl rfl (d_1 (.i p1.N) rfl rfl ?_))
  refine bi h fun x51 h52 h => d_cH (zEG _ _ x47 _ h52) rfl (dg0 rfl) rfl (a2 (qO rfl) (aR rfl)) (.tup .nil) (yD (by kernel_rfl) (zJ (qQ mixed (by kernel_rfl) (d_mv rfl rfl (pq rfl h39) (d_nc rfl rfl rfl (d_fd 2 rfl rfl rfl ?_))))))
  refine bi h fun x53 h54 h => d_h (e := [(105, .t ((ptT 8 x53.w_)))]) (ks := [105]) rfl (dg0 rfl) rfl rfl (fun S' hM hk hok => h_ld hM hk rfl rfl rfl (zCL h54) rfl (qI _ _) rfl (hok _ rfl rfl)) rfl (d_1 (.ref 3 1) rfl rfl (d_1 (.i p1.N) rfl rfl (bi h fun x55 h56 h => d_cH (zEJ _ _ x51 _ h56) rfl (dg0 rfl) rfl (a2 (qO rfl) (aR rfl)) (.tup .nil) (yD (by kernel_rfl) (c_sr (o_f3 0 rfl (pq rfl h39) rfl ?_))))))
  refine bi h fun x57 h58 h => o_of (e := [(113, .t ((ptT 1 x57.d_)))]) (g0 rfl) (h_ld mR rfl rfl rfl rfl (zCL h58) rfl (qI _ _) rfl rfl) rfl (bi h fun x59 h60 h => o_cH (zGc _ x55 _ h60) (g0 rfl) rfl (a1 (qO rfl)) (.tup (.cons (zHh _ _) (.cons (.flat rfl) .nil))) (o_c (g0 rfl) rfl rfl rfl (congrArg A.tup (zDn (zEw _ _) (zDn rfl zH2))) trivial (o_c (g0 rfl) rfl rfl rfl (congrArg A.t (zEw _ _)) trivial (o_1 (.i x59.2.1) rfl (o_of (e := [(7, .t ((ptT 3 x59.1)))]) (g0 rfl) (h_mv mR (.inr rfl) (zI rfl) rfl rfl) rfl (o_1 (.i x59.2.1) rfl (zA (c_sr ?_))))))))
  refine o_f3 2 rfl (pq rfl h39) rfl (bi h fun x61 h62 h => o_of (e := [(121, .t ((ptT 8 x61.w_)))]) (g0 rfl) (h_ld mR rfl rfl rfl rfl (zCL h62) rfl (qI _ _) rfl rfl) rfl ?_)
  refine bi h fun x63 h64 h => o_cH (zI4 _ x59.2.2 _ h64) (g0 rfl) rfl (a1 (qO rfl)) (.tup (.cons (zHh _ _) (.cons (.flat rfl) .nil))) (o_c (g0 rfl) rfl rfl rfl (congrArg A.tup (zDn (zEw _ _) (zDn rfl zH2))) trivial (o_c (g0 rfl) rfl rfl rfl (congrArg A.t (zEw _ _)) trivial (o_1 (.i x63.2.1) rfl (o_of (e := [(9, .t ((ptT 9 x63.1)))]) (g0 rfl) (h_mv mR (.inr rfl) (zI rfl) rfl rfl) rfl (o_1 (.i x63.2.1) rfl (zA (c_sr ?_)))))))
  refine o_mv rfl (pq rfl h39) (o_mv rfl (pq rfl h39) ?_)
  rcases zQ h with ⟨h65, h⟩ | ⟨i66, h65, h⟩
  ·
   refine o_mv rfl ((zI rfl).trans (qL h65)) ?_
   rcases zQ h with ⟨h67, h⟩ | ⟨i68, h67, h⟩
   ·
    refine o_mv rfl ((zI rfl).trans (qL h67)) (o_nf 1 rfl rfl rfl (bi h fun x69 h70 h => o_sH rfl (zCL h70) (zI3 (x' := (qC.mk x69.d_ none x69.w_ x69.m_)) h70) rfl rfl (o_nf 3 rfl rfl rfl (o_sH rfl (zCL (zR h70)) (zI3 (x' := (qC.mk x69.d_ none x69.w_ none)) (zR h70)) rfl rfl (zA (c_sr (o_m4 (.i x59.2.1) (.i x63.2.1) (.b (x59.2.1 == x63.2.1)) (.b (x59.2.1 == x63.2.1)) rfl ?_)))))))
    rcases zP h with ⟨h71, h⟩ | ⟨h71, h⟩
    ·
     refine o_of (e := [(137, .t (.d (.lit (.pointer none))))]) (gy rfl rfl rfl h71) (h_mv mR (.inl rfl) ((zI rfl).trans (qL h65)) rfl rfl) rfl (o_of (e := [(138, .b true)]) (gy rfl rfl rfl h71) (h_pn mR (ng := false) (b := true) rfl rfl rfl rfl rfl rfl) rfl (o_of (e := [(139, .t (.d (.lit (.pointer none))))]) (gy rfl rfl rfl h71) (h_mv mR (.inl rfl) ((zI rfl).trans (qL h67)) rfl rfl) rfl (o_of (e := [(140, .b true)]) (gy rfl rfl rfl h71) (h_pn mR (ng := false) (b := true) rfl rfl rfl rfl rfl rfl) rfl (o_s (.b (true == true)) (gy rfl rfl rfl h71) rfl rfl rfl (o_pT (.b (true == true)) h71 rfl (o_1 (.b (true == true)) rfl (zA (zF ?_))))))))
     cases h; exact eR rfl rfl
    refine o_k4 rfl h71 (o_k1 rfl h71 (o_pF (.b false) h71 rfl (o_1 (.b false) rfl (zA (zF ?_)))))
    cases h; exact eR rfl rfl
   refine o_mv rfl (pq rfl h67) (o_nf 1 rfl rfl rfl (bi h fun x72 h73 h => o_sH rfl (zCL h73) (zI3 (x' := (qC.mk x72.d_ none x72.w_ x72.m_)) h73) rfl rfl (o_nf 3 rfl rfl rfl (o_sH rfl (zCL (zR h73)) (zI3 (x' := (qC.mk x72.d_ none x72.w_ (some i68))) (zR h73)) rfl rfl (zA (c_sr (o_m4 (.i x59.2.1) (.i x63.2.1) (.b (x59.2.1 == x63.2.1)) (.b (x59.2.1 == x63.2.1)) rfl ?_)))))))
   rcases zP h with ⟨h74, h⟩ | ⟨h74, h⟩
   ·
    refine o_of (e := [(137, .t (.d (.lit (.pointer none))))]) (gy rfl rfl rfl h74) (h_mv mR (.inl rfl) ((zI rfl).trans (qL h65)) rfl rfl) rfl (o_of (e := [(138, .b true)]) (gy rfl rfl rfl h74) (h_pn mR (ng := false) (b := true) rfl rfl rfl rfl rfl rfl) rfl (o_of (e := [(139, .t (.hpt (cd 9 i68) 0))]) (gy rfl rfl rfl h74) (h_mv mR (.inl rfl) ((zI rfl).trans (qM h67)) rfl rfl) rfl (o_of (e := [(140, .b false)]) (gy rfl rfl rfl h74) (h_pn mR (ng := false) (b := false) rfl rfl rfl rfl rfl rfl) rfl (o_s (.b (true == false)) (gy rfl rfl rfl h74) rfl rfl rfl (o_pT (.b (true == false)) h74 rfl (o_1 (.b (true == false)) rfl (zA (zF ?_))))))))
    cases h; exact eR rfl rfl
   refine o_k4 rfl h74 (o_k1 rfl h74 (o_pF (.b false) h74 rfl (o_1 (.b false) rfl (zA (zF ?_)))))
   cases h; exact eR rfl rfl
  refine o_mv rfl (pq rfl h65) ?_
  rcases zQ h with ⟨h75, h⟩ | ⟨i76, h75, h⟩
  ·
   refine o_mv rfl ((zI rfl).trans (qL h75)) (o_nf 1 rfl rfl rfl (bi h fun x77 h78 h => o_sH rfl (zCL h78) (zI3 (x' := (qC.mk x77.d_ (some i66) x77.w_ x77.m_)) h78) rfl rfl (o_nf 3 rfl rfl rfl (o_sH rfl (zCL (zR h78)) (zI3 (x' := (qC.mk x77.d_ (some i66) x77.w_ none)) (zR h78)) rfl rfl (zA (c_sr (o_m4 (.i x59.2.1) (.i x63.2.1) (.b (x59.2.1 == x63.2.1)) (.b (x59.2.1 == x63.2.1)) rfl ?_)))))))
   rcases zP h with ⟨h79, h⟩ | ⟨h79, h⟩
   ·
    refine o_of (e := [(137, .t (.hpt (cd 3 i66) 0))]) (gy rfl rfl rfl h79) (h_mv mR (.inl rfl) ((zI rfl).trans (qM h65)) rfl rfl) rfl (o_of (e := [(138, .b false)]) (gy rfl rfl rfl h79) (h_pn mR (ng := false) (b := false) rfl rfl rfl rfl rfl rfl) rfl (o_of (e := [(139, .t (.d (.lit (.pointer none))))]) (gy rfl rfl rfl h79) (h_mv mR (.inl rfl) ((zI rfl).trans (qL h75)) rfl rfl) rfl (o_of (e := [(140, .b true)]) (gy rfl rfl rfl h79) (h_pn mR (ng := false) (b := true) rfl rfl rfl rfl rfl rfl) rfl (o_s (.b (false == true)) (gy rfl rfl rfl h79) rfl rfl rfl (o_pT (.b (false == true)) h79 rfl (o_1 (.b (false == true)) rfl (zA (zF ?_))))))))
    cases h; exact eR rfl rfl
   refine o_k4 rfl h79 (o_k1 rfl h79 (o_pF (.b false) h79 rfl (o_1 (.b false) rfl (zA (zF ?_)))))
   cases h; exact eR rfl rfl
  refine o_mv rfl (pq rfl h75) (o_nf 1 rfl rfl rfl (bi h fun x80 h81 h => o_sH rfl (zCL h81) (zI3 (x' := (qC.mk x80.d_ (some i66) x80.w_ x80.m_)) h81) rfl rfl (o_nf 3 rfl rfl rfl (o_sH rfl (zCL (zR h81)) (zI3 (x' := (qC.mk x80.d_ (some i66) x80.w_ (some i76))) (zR h81)) rfl rfl (zA (c_sr (o_m4 (.i x59.2.1) (.i x63.2.1) (.b (x59.2.1 == x63.2.1)) (.b (x59.2.1 == x63.2.1)) rfl ?_)))))))
  rcases zP h with ⟨h82, h⟩ | ⟨h82, h⟩
  ·
   refine o_of (e := [(137, .t (.hpt (cd 3 i66) 0))]) (gy rfl rfl rfl h82) (h_mv mR (.inl rfl) ((zI rfl).trans (qM h65)) rfl rfl) rfl (o_of (e := [(138, .b false)]) (gy rfl rfl rfl h82) (h_pn mR (ng := false) (b := false) rfl rfl rfl rfl rfl rfl) rfl (o_of (e := [(139, .t (.hpt (cd 9 i76) 0))]) (gy rfl rfl rfl h82) (h_mv mR (.inl rfl) ((zI rfl).trans (qM h75)) rfl rfl) rfl (o_of (e := [(140, .b false)]) (gy rfl rfl rfl h82) (h_pn mR (ng := false) (b := false) rfl rfl rfl rfl rfl rfl) rfl (o_s (.b (false == false)) (gy rfl rfl rfl h82) rfl rfl rfl (o_pT (.b (false == false)) h82 rfl (o_1 (.b (false == false)) rfl (zA (zF ?_))))))))
   cases h; exact eR rfl rfl
  refine o_k4 rfl h82 (o_k1 rfl h82 (o_pF (.b false) h82 rfl (o_1 (.b false) rfl (zA (zF ?_)))))
  cases h; exact eR rfl rfl
 refine c_if h rfl (fun h83 h => zJ (qQ mixed (by kernel_rfl) ?_)) fun h83 h => c_sr (o_m2 (.b (p1.Kind == 6)) (.b (p1.Kind == 6)) rfl (zA ?_))
 ·
  rcases zQ h with ⟨h84, h⟩ | ⟨i85, h84, h⟩
  ·
   refine d_mv rfl rfl ((zI rfl).trans (qL h84)) ?_
   exact qF h
  refine d_mv rfl rfl (pq rfl h84) (d_nc rfl rfl rfl (d_fd 1 rfl rfl rfl (bi h fun x86 h87 h => d_h (e := [(149, .t ((ptT 3 x86.l_)))]) (ks := [149]) rfl (dg0 rfl) rfl rfl (fun S' hM hk hok => h_ld hM hk rfl rfl rfl (zCL h87) rfl (qI _ _) rfl (hok _ rfl rfl)) rfl (d_1 (.ref 3 1) rfl rfl (d_1 (.i p1.N) rfl rfl ?_)))))
  refine bi h fun x88 h89 h => d_cR (zDo _ _ w0 _ h89) rfl (dg0 rfl) rfl (a2 (qO rfl) (aR rfl)) (r2 rfl) (d_1 (.tup [.y x88.1, .i x88.2]) rfl rfl (d_1 (.y x88.1) rfl rfl (d_1 (.i x88.2) rfl rfl (d_1 (.y x88.1) rfl rfl (d_1 (.i x88.2) rfl rfl (yD (by kernel_rfl) (zJ (c_sr ?_))))))))
  refine o_f3 3 rfl (pq rfl h84) rfl (o_of (e := [(158, .t ((ptT 9 x86.m_)))]) (g0 rfl) (h_ld mR rfl rfl rfl rfl (zCL h87) rfl (qI _ _) rfl rfl) rfl ?_)
  rcases zQ h with ⟨h90, h⟩ | ⟨i91, h90, h⟩
  ·
   refine o_of (e := [(159, .b true)]) (g0 rfl) (h_pn mR (ng := false) rfl rfl rfl (zCz rfl h90) rfl rfl) rfl (zA (c_t rfl rfl (c_sr (o_m3 (.i x88.2) (.b (x88.2 == 1)) (.b (x88.2 == 1)) rfl ?_))))
   rcases zP h with ⟨h92, h⟩ | ⟨h92, h⟩
   ·
    refine o_s (.y x88.1) (gy rfl rfl rfl h92) rfl rfl rfl (o_c (gy rfl rfl rfl h92) rfl rfl rfl (lenE _ _) trivial (o_s (.b ((x88.1.length : Int) == 0)) (gy rfl rfl rfl h92) rfl rfl rfl (o_pT (.b ((x88.1.length : Int) == 0)) h92 rfl (o_1 (.b ((x88.1.length : Int) == 0)) rfl (zA (zF ?_))))))
    cases h; exact eR rfl rfl
   refine o_k3 rfl h92 (o_pF (.b false) h92 rfl (o_1 (.b false) rfl (zA (zF ?_))))
   cases h; exact eR rfl rfl
  refine o_of (e := [(159, .b false)]) (g0 rfl) (h_pn mR (ng := false) rfl rfl rfl (zC2 rfl h90) rfl rfl) rfl (zA (c_f rfl rfl (zG (zJ (qQ mixed (by kernel_rfl) (d_mv rfl rfl (pq rfl h84) (d_nc rfl rfl rfl (d_fd 3 rfl rfl rfl ?_))))))))
  refine d_h (e := [(171, .t ((ptT 9 x86.m_)))]) (ks := [171]) rfl (dg0 rfl) rfl rfl (fun S' hM hk hok => h_ld hM hk rfl rfl rfl (zCL h87) rfl (qI _ _) rfl (hok _ rfl rfl)) rfl (d_1 (.ref 3 1) rfl rfl (d_1 (.i p1.N) rfl rfl ?_))
  refine bi h fun x93 h94 h => d_cR (zGv _ _ w0 _ h94) rfl (dg0 rfl) rfl (a2 (qO rfl) (aR rfl)) (r2 rfl) (d_1 (.tup [.y x93.1, .i x93.2]) rfl rfl (d_1 (.y x93.1) rfl rfl (d_1 (.i x93.2) rfl rfl (d_1 (.y x93.1) rfl rfl (d_1 (.i x93.2) rfl rfl (yD (by kernel_rfl) (c_sr ?_)))))))
  refine o_m4 (.i x88.2) (.i x93.2) (.b (x88.2 == x93.2)) (.b (x88.2 == x93.2)) rfl ?_
  rcases zP h with ⟨h95, h⟩ | ⟨h95, h⟩
  ·
   refine o_s (.y x88.1) (gy rfl rfl rfl h95) rfl rfl rfl (o_s (.y x93.1) (gy rfl rfl rfl h95) rfl rfl rfl (bi h fun x96 h97 h => o_cA (zCV _ _ _ h97) (gy rfl rfl rfl h95) rfl (.cons .r (.cons .r .nil)) rfl (o_pT (.b x96) h95 rfl (o_1 (.b x96) rfl (zA (zF ?_))))))
   cases h; exact eR rfl rfl
  refine o_k3 rfl h95 (o_pF (.b false) h95 rfl (o_1 (.b false) rfl (zA (zF ?_))))
  cases h; exact eR rfl rfl
 refine c_if h rfl (fun h98 h => zJ (qQ mixed (by kernel_rfl) ?_)) fun h98 h => zG (c_sr (o_1 (.b true) rfl (zA (zF ?_))))
 ·
  rcases zQ h with ⟨h99, h⟩ | ⟨i100, h99, h⟩
  ·
   refine d_mv rfl rfl ((zI rfl).trans (qL h99)) ?_
   exact qF h
  refine d_mv rfl rfl (pq rfl h99) (d_nc rfl rfl rfl (d_fd 1 rfl rfl rfl (bi h fun x101 h102 h => d_h (e := [(190, .t ((ptT 3 x101.l_)))]) (ks := [190]) rfl (dg0 rfl) rfl rfl (fun S' hM hk hok => h_ld hM hk rfl rfl rfl (zCL h102) rfl (qI _ _) rfl (hok _ rfl rfl)) rfl (d_mv rfl rfl (pq rfl h99) (d_nc rfl rfl rfl (d_fd 3 rfl rfl rfl (d_h (e := [(194, .t ((ptT 9 x101.m_)))]) (ks := [194]) rfl (dg0 rfl) rfl rfl (fun S' hM hk hok => h_ld hM hk rfl rfl rfl (zCL h102) rfl (qI _ _) rfl (hok _ rfl rfl)) rfl (d_1 (.ref 3 2) rfl rfl (d_1 (.t (.d (.seq 2 (List.map zB p1.W)))) rfl rfl ?_)))))))))
  refine bi h fun x103 h104 h => d_cH (zG2 _ _ _ w0 _ h104) rfl (dg0 rfl) rfl (a3 (qO rfl) (qO rfl) (aR rfl)) (r1 rfl) (d_1 (.b x103.1) rfl rfl (yD (by kernel_rfl) (zF ?_)))
  cases h; exact eR rfl rfl
 cases h; exact eR rfl rfl
theorem zFu (p0 : (Option Nat)) (w0 : Hp) (r : Int) (h : zB1 p0 w0 = some r) : FCH Tryz.prog 15 [.t ((ptT 3 p0))] [] [] (hpA w0) (hpA w0) (.t (.d (.lit (.int .i64 r)))) := by
 refine qR (rs := [.tmp 2]) (n := 9) [] Tryz.func15 rfl rfl (Nat.le_of_ble_eq_true rfl) rfl (pins := []) rfl (L := [(HK, .hp (hpA w0)), (0, .t ((ptT 3 p0)))]) rfl (c_sr (o_1 (.i 0) rfl (zA (zJ (c_sr (o_mv rfl (zI rfl) ?_))))))
 rcases zQ h with ⟨h1, h⟩ | ⟨i2, h1, h⟩
 ·
  refine o_of (e := [(4, .b true)]) (g0 rfl) (h_pn mR (ng := false) rfl rfl rfl (zCz rfl h1) rfl rfl) rfl (zA (c_t rfl rfl (c_sr (o_1 (.i 0) rfl (zA (zF ?_))))))
  cases h; exact eR rfl rfl
 refine o_of (e := [(4, .b false)]) (g0 rfl) (h_pn mR (ng := false) rfl rfl rfl (zC2 rfl h1) rfl rfl) rfl (zA (c_f rfl rfl (zG (c_sr (o_f3 6 rfl (pq rfl h1) rfl (bi h fun x3 h4 h => o_ld (.i x3.commits_) rfl (zAj h4) rfl (o_1 (.i x3.commits_) rfl (zA (zF ?_)))))))))
 cases h; exact eR rfl rfl
theorem zFO (p0 : (Option Nat)) (w0 : Hp) (r : Int) (h : zB9 p0 w0 = some r) : FCH Tryz.prog 19 [.t ((ptT 1 p0))] [] [] (hpA w0) (hpA w0) (.t (.d (.lit (.int .i64 r)))) := by
 refine qR (rs := [.tmp 2]) (n := 11) [] Tryz.func19 rfl rfl (Nat.le_of_ble_eq_true rfl) rfl (pins := []) rfl (L := [(HK, .hp (hpA w0)), (0, .t ((ptT 1 p0)))]) rfl (c_sr (o_1 (.i 0) rfl (zA (zJ (c_sr (o_mv rfl (zI rfl) (bi h fun x1 h2 h => o_cR (zA0 _ w0 _ h2) (g0 rfl) rfl (a1 (qO rfl)) (r1 rfl) (o_1 (.b (!x1)) rfl (zA ?_)))))))))
 refine c_if h rfl (fun h3 h => c_sr (o_1 (.i 0) rfl (zA (zF ?_)))) fun h3 h => zG (c_sr (o_mv rfl (zI rfl) ?_))
 ·
  cases h; exact eR rfl rfl
 rcases zQ h with ⟨h4, h⟩ | ⟨i5, h4, h⟩
 ·
  exact qF h
 refine o_nf 2 rfl (pq rfl h4) rfl (bi h fun x6 h7 h => o_ld (.t (.d (.seq 65 (List.map zAT x6.wait_)))) rfl (zDD h7) rfl (o_c (g0 rfl) rfl rfl rfl (lenE _ _) trivial (o_1 (.i (x6.wait_.length : Int)) rfl (zA (zF ?_)))))
 cases h; exact eR rfl rfl
theorem zGX (p0 : UInt8) (p1 : Int) (p2 : (List zAx)) (w0 : Hp) (r : (Bool × Hp)) (h : zD6 p0 p1 p2 w0 = some r) : FCH Tryz.prog 3 [.t (.d (.lit (.int .u8 (p0.toNat : Int)))), .t (.d (.lit (.int .i64 p1))), .t (.d (.seq 4 (List.map zBK p2)))] [] [] (hpA w0) (hpA r.2) (.t (.d (.lit (.bool r.1)))) := by
 refine qR (rs := [.tmp 6]) (n := 173) [] Tryz.func3 rfl rfl (Nat.le_of_ble_eq_true rfl) rfl (pins := []) rfl (L := [(HK, .hp (hpA w0)), (0, .t (.d (.lit (.int .u8 (p0.toNat : Int))))), (1, .i p1), (2, .t (.d (.seq 4 (List.map zBK p2))))]) rfl (c_sr (o_1 (.b false) rfl (zA (zJ (c_sr (bi h fun x1 h2 h => o_cH (zIl w0 _ h2) (g0 rfl) rfl .nil (r1 rfl) (o_1 (.b (!x1.1)) rfl (zA ?_))))))))
 refine c_if h rfl (fun h3 h => c_sr (o_1 (.b false) rfl (zA (zF ?_)))) fun h3 h => zG (c_sr (o_m5 (.t (.d (.lit (.int .u8 (p0.toNat : Int))))) (.t (.d (.lit (.int .u8 (Int.tmod (p0.toNat : Int) 60))))) (.i (wi (Int.tmod (p0.toNat : Int) 60))) (.i (wi ((wi (Int.tmod (p0.toNat : Int) 60)) + 1))) (.i (wi ((wi (Int.tmod (p0.toNat : Int) 60)) + 1))) rfl (zA (c_sr (o_1 (.i (wi ((wi (Int.tmod (p0.toNat : Int) 60)) + 1))) rfl ?_)))))
 ·
  cases h; exact eR rfl rfl
 refine bi h fun x4 h5 h => o_cH (zGn _ x1.2 _ h5) (g0 rfl) rfl (a1 (aR rfl)) (.tup (.cons (zHh _ _) (.cons (.flat rfl) .nil))) (o_c (g0 rfl) rfl rfl rfl (congrArg A.tup (zDn (zEw _ _) (zDn rfl zH2))) trivial ?_)
 rcases zQ h with ⟨h6, h⟩ | ⟨i7, h6, h⟩
 ·
  exact qF h
 refine o_c (g0 rfl) rfl rfl rfl (congrArg A.t ((zEw _ _).trans (zCx h6))) trivial (o_1 (.i x4.2.1) rfl (o_of (e := [(8, .t (.hpt (cd 1 i7) 0))]) (g0 rfl) (h_mv mR (.inr rfl) rfl rfl rfl) rfl (o_1 (.i x4.2.1) rfl (zA (c_sr (o_1 (.i (wi ((wi (Int.tmod (p0.toNat : Int) 60)) + 1))) rfl (bi h fun x8 h9 h => o_cH (zJz _ x4.2.2 _ h9) (g0 rfl) rfl (a1 (aR rfl)) (.t (zHh _ _)) ?_)))))))
 rcases zQ h with ⟨h10, h⟩ | ⟨i11, h10, h⟩
 ·
  exact qF h
 refine o_of (e := [(10, .t (.hpt (cd 8 i11) 0))]) (g0 rfl) (h_mv mR (.inr rfl) ((zI rfl).trans (qM h10)) rfl rfl) rfl (zA (zJ (c_sr (o_mv (y := .t (.hpt (cd 1 i7) 0)) rfl rfl (o_1 (.i p1) rfl ?_)))))
 refine bi h fun x12 h13 h => o_cH (zEN _ _ x8.2 _ h13) (g0 rfl) rfl (a2 aH (aR rfl)) (r1 rfl) (o_1 (.i x12.1) rfl (zA (c_sr (o_1 (.i x12.1) rfl (o_mv (y := .t (.hpt (cd 8 i11) 0)) rfl rfl (o_1 (.i p1) rfl (bi h fun x14 h15 h => o_cH (zHr _ _ x12.2 _ h15) (g0 rfl) rfl (a2 aH (aR rfl)) (r1 rfl) (o_m2 (.b (x12.1 != x14.1)) (.b (x12.1 != x14.1)) rfl ?_))))))))
 rcases zP h with ⟨h16, h⟩ | ⟨h16, h⟩
 ·
  refine o_k3 rfl h16 (o_pT (.b true) h16 rfl (zA (c_t rfl rfl (c_sr (o_1 (.b false) rfl (zA (zF ?_)))))))
  cases h; exact eR rfl rfl
 refine o_s (.i p1) (gy rfl rfl rfl h16) rfl rfl rfl (bi h fun x17 h18 h => o_cH (zEN _ _ x14.2 _ h18) (gy rfl rfl rfl h16) rfl (a2 (aR rfl) (aR rfl)) (r1 rfl) (o_s (.b (x17.1 != 1)) (gy rfl rfl rfl h16) rfl rfl rfl (o_pF (.b (x17.1 != 1)) h16 rfl (zA ?_))))
 refine c_if h rfl (fun h19 h => c_sr (o_1 (.b false) rfl (zA (zF ?_)))) fun h19 h => zG (zJ (c_sr (o_1 (.t (.d (.seq 4 (List.map zBK p2)))) rfl ?_)))
 ·
  cases h; exact eR rfl rfl
 refine bi h fun x20 h21 h => o_cA (zKk _ _ h21) (g0 rfl) rfl (.cons .r .nil) rfl (o_1 (.b (!x20)) rfl (zA ?_))
 refine c_if h rfl (fun h22 h => c_sr (o_1 (.b true) rfl (zA (zF ?_)))) fun h22 h => zG (c_sr (o_mv (y := .t (.hpt (cd 1 i7) 0)) rfl rfl (o_mv (y := .t (.hpt (cd 8 i11) 0)) rfl rfl (o_of (e := [(51, .ag [.hpt (cd 1 i7) 0, .d (.lit (.pointer none)), .hpt (cd 8 i11) 0, .d (.lit (.pointer none))])]) (g0 rfl) (h_bd mR rfl rfl rfl rfl) rfl (o_of (e := [(HK, .hp (hpA (x17.2.nw_lo (qC.mk (some i7) none (some i11) none)))), (52, .t (.hpt (cd 10 x17.2.ln_lo) 0))]) (g0 rfl) (h_box mR rfl rfl rfl rfl rfl (fr_lo _) (nw_lo _ (qC.mk (some i7) none (some i11) none))) rfl (o_of (e := [(12, .t (.hpt (cd 10 x17.2.ln_lo) 0))]) (g0 rfl) (h_mv mR (.inr rfl) rfl rfl rfl) rfl ?_))))))
 ·
  cases h; exact eR rfl rfl
 refine zA (zJ (c_sr (o_mv (y := .t (.hpt (cd 10 x17.2.ln_lo) 0)) rfl rfl (o_1 (.t (.agg [.i 4, .i (-1), .n, .n])) rfl (bi h fun x23 h24 h => o_cH (zEy _ _ (x17.2.nw_lo (qC.mk (some i7) none (some i11) none)) _ h24) (g0 rfl) rfl (a2 aH (.plain (.t (.agg (.cons .r (.cons .r (.cons (.nil _) (.cons (.nil _) .nil)))))) rfl)) (r1 rfl) (o_1 (.b (!x23.1)) rfl (zA ?_)))))))
 refine c_if h rfl (fun h25 h => c_sr (o_1 (.b false) rfl (zA (zF ?_)))) fun h25 h => zG ?_
 ·
  cases h; exact eR rfl rfl
 refine yY r (fun (y26 : Hp) => [(7, .i (wi ((wi (Int.tmod (p0.toNat : Int) 60)) + 1))), (8, .t (.hpt (cd 1 i7) 0)), (10, .t (.hpt (cd 8 i11) 0)), (12, .t (.hpt (cd 10 x17.2.ln_lo) 0)), (HK, .hp (hpA y26))]) (fun y26 => zCQ x17 p0 i7 i11 y26) ?_ ?_
 ·
  refine c_sr (o_1 (.t (.d (.seq 4 (List.map zBK p2)))) rfl (o_c (g0 rfl) rfl rfl rfl (lenE _ _) trivial (o_1 (.i 0) rfl (zA (zS (c_lp (fun (q : Int × Hp) => [(7, .i (wi ((wi (Int.tmod (p0.toNat : Int) 60)) + 1))), (8, .t (.hpt (cd 1 i7) 0)), (10, .t (.hpt (cd 8 i11) 0)), (12, .t (.hpt (cd 10 x17.2.ln_lo) 0)), (57, .t (.d (.seq 4 (List.map zBK p2)))), (58, .i (p2.length : Int)), (59, .i q.1), (HK, .hp (hpA q.2))]) (fun nl5 q => zAy p2 x17 p0 i7 i11 nl5 q.1 q.2) (p2.length + 1) (0, x23.2) h (fun _ => rfl) rfl rfl ?_))))))
  rintro nl5 ⟨z61, z62⟩ h
  refine c_sr (o_1 (.b (decide (z61 < (p2.length : Int)))) rfl (zA (zJ (c_if h rfl (fun h63 h => zG (zJ (zS (c_sr ?_)))) fun h63 h => zAQ ?_))))
  ·
   refine bi h fun x64 h65 h => o_c (g0 rfl) rfl rfl rfl (idxE h65) (idxC h65) (o_m2 (.t (.agg [.i x64.Kind, .i x64.N, .seq 2 (List.map zB x64.W), .y x64.B])) (.box [.i 0, .i 0, .n, .n]) rfl (o_st (.box [.i x64.Kind, .i x64.N, .d (.seq 2 (List.map zB x64.W)), .y x64.B]) (g0 rfl) rfl rfl rfl (zA (c_sr (o_mv (y := .t (.hpt (cd 10 x17.2.ln_lo) 0)) rfl rfl (o_1 (.t (.agg [.i x64.Kind, .i x64.N, .seq 2 (List.map zB x64.W), .y x64.B])) rfl ?_))))))
   refine bi h fun x66 h67 h => o_cH (zEy _ _ z62 _ h67) (g0 rfl) rfl (a2 aH (aR rfl)) (r1 rfl) (o_1 (.b (!x66.1)) rfl (zA ?_))
   refine c_if h rfl (fun h68 h => c_sr (o_1 (.b false) rfl (zA (zF ?_)))) fun h68 h => zG (zL (o_m2 (.i (wi (z61 + 1))) (.i (wi (z61 + 1))) rfl (zA ?_)))
   ·
    cases h; exact eR rfl rfl
   exact lE ((wi (z61 + 1)), x66.2) h rfl rfl
  exact lE z62 h rfl rfl
 rintro y26 h
 refine yY r (fun (_ : Unit) => [(7, .i (wi ((wi (Int.tmod (p0.toNat : Int) 60)) + 1))), (8, .t (.hpt (cd 1 i7) 0)), (10, .t (.hpt (cd 8 i11) 0)), (HK, .hp (hpA y26))]) (fun _ => zBg p0 i7 y26 i11) ?_ ?_
 ·
  refine zJ (qQ mixed (by kernel_rfl) (d_mv (y := .t (.hpt (cd 10 x17.2.ln_lo) 0)) rfl rfl rfl (d_nc rfl rfl rfl (d_fd 3 rfl rfl rfl (bi h fun x41 h42 h => d_h (e := [(71, .t ((ptT 9 x41.m_)))]) (ks := [71]) rfl (dg0 rfl) rfl rfl (fun S' hM hk hok => h_ld hM hk rfl rfl rfl (zCL h42) rfl (qI _ _) rfl (hok _ rfl rfl)) rfl ?_)))))
  rcases zQ h with ⟨h43, h⟩ | ⟨i44, h43, h⟩
  ·
   refine d_h0 [] (e := [(72, .b false)]) (ks := [72]) rfl (dg0 rfl) rfl rfl (fun S' hM hok => h_pn hM (ng := true) rfl rfl rfl (zCz rfl h43) rfl (hok _ rfl rfl)) rfl (d_1 (.b false) rfl rfl (d_k1 rfl rfl rfl (d_k1 rfl rfl rfl (d_k1 rfl rfl rfl (d_k1 rfl rfl rfl (d_k1 rfl rfl rfl (d_k1 rfl rfl rfl (d_k1 rfl rfl rfl (d_k1 rfl rfl rfl (d_k1 rfl rfl rfl (d_k1 rfl rfl rfl (d_k1 rfl rfl rfl ?_))))))))))))
   refine d_k1 rfl rfl rfl (d_k1 rfl rfl rfl (d_k1 rfl rfl rfl (d_un rfl rfl rfl rfl rfl rfl rfl rfl (d_un rfl rfl rfl rfl rfl rfl rfl rfl (d_un rfl rfl rfl rfl rfl rfl rfl rfl (d_un rfl rfl rfl rfl rfl rfl rfl rfl (d_un rfl rfl rfl rfl rfl rfl rfl rfl ?_)))))))
   refine d_un rfl rfl rfl rfl rfl rfl rfl rfl (d_un rfl rfl rfl rfl rfl rfl rfl rfl (d_un rfl rfl rfl rfl rfl rfl rfl rfl (d_un rfl rfl rfl rfl rfl rfl rfl rfl (d_un rfl rfl rfl rfl rfl rfl rfl rfl (d_un rfl rfl rfl rfl rfl rfl rfl rfl (d_un rfl rfl rfl rfl rfl rfl rfl rfl (d_un rfl rfl rfl rfl rfl rfl rfl rfl ?_)))))))
   refine d_un rfl rfl rfl rfl rfl rfl rfl rfl (d_un rfl rfl rfl rfl rfl rfl rfl rfl (d_un rfl rfl rfl rfl rfl rfl rfl rfl (d_un rfl rfl rfl rfl rfl rfl rfl rfl (d_un rfl rfl rfl rfl rfl rfl rfl rfl (d_un rfl rfl rfl rfl rfl rfl rfl rfl (d_un rfl rfl rfl rfl rfl rfl rfl rfl (d_un rfl rfl rfl rfl rfl rfl rfl rfl ?_)))))))
   refine d_k1 rfl rfl rfl (d_k1 rfl rfl rfl (d_un rfl rfl rfl rfl rfl rfl rfl rfl (d_un rfl rfl rfl rfl rfl rfl rfl rfl (d_un rfl rfl rfl rfl rfl rfl rfl rfl (d_un rfl rfl rfl rfl rfl rfl rfl rfl (d_un rfl rfl rfl rfl rfl rfl rfl rfl (d_un rfl rfl rfl rfl rfl rfl rfl rfl ?_)))))))
   refine d_un rfl rfl rfl rfl rfl rfl rfl rfl (d_un rfl rfl rfl rfl rfl rfl rfl rfl (d_un rfl rfl rfl rfl rfl rfl rfl rfl (d_un rfl rfl rfl rfl rfl rfl rfl rfl (d_un rfl rfl rfl rfl rfl rfl rfl rfl (d_k1 rfl rfl rfl (d_k1 rfl rfl rfl (d_un rfl rfl rfl rfl rfl rfl rfl rfl ?_)))))))
   refine d_un rfl rfl rfl rfl rfl rfl rfl rfl (d_un rfl rfl rfl rfl rfl rfl rfl rfl (d_un rfl rfl rfl rfl rfl rfl rfl rfl (d_un rfl rfl rfl rfl rfl rfl rfl rfl (d_un rfl rfl rfl rfl rfl rfl rfl rfl (d_un rfl rfl rfl rfl rfl rfl rfl rfl (d_un rfl rfl rfl rfl rfl rfl rfl rfl (d_un rfl rfl rfl rfl rfl rfl rfl rfl ?_)))))))
   refine d_un rfl rfl rfl rfl rfl rfl rfl rfl (d_un rfl rfl rfl rfl rfl rfl rfl rfl (d_un rfl rfl rfl rfl rfl rfl rfl rfl (d_un rfl rfl rfl rfl rfl rfl rfl rfl (d_k1 rfl rfl rfl (d_pF (.b false) rfl rfl rfl (yD (by kernel_rfl) (c_f rfl rfl (zG ?_))))))))
   exact lE () h rfl rfl
  refine d_h0 [] (e := [(72, .b true)]) (ks := [72]) rfl (dg0 rfl) rfl rfl (fun S' hM hok => h_pn hM (ng := true) rfl rfl rfl (zC2 rfl h43) rfl (hok _ rfl rfl)) rfl (d_1 (.b true) rfl rfl (d_h0 [] (e := [(74, .t (.hpt (cd 10 x17.2.ln_lo) 0))]) (ks := [74]) rfl (dgy rfl rfl rfl rfl rfl) rfl rfl (fun S' hM hok => h_mv hM (.inl rfl) rfl rfl (hok _ rfl rfl)) rfl (d_h0 [] (e := [(75, .t (.hpt (cd 10 x17.2.ln_lo) 0))]) (ks := [75]) rfl (dgy rfl rfl rfl rfl rfl) rfl rfl (fun S' hM hok => h_nc hM rfl rfl rfl rfl (hok _ rfl rfl)) rfl (d_h0 [] (e := [(76, .t (.hpt (cd 10 x17.2.ln_lo) 1))]) (ks := [76]) rfl (dgy rfl rfl rfl rfl rfl) rfl rfl (fun S' hM hok => h_fd hM rfl rfl rfl rfl rfl (hok _ rfl rfl)) rfl (d_h (e := [(77, .t ((ptT 3 x41.l_)))]) (ks := [77]) rfl (dgy rfl rfl rfl rfl rfl) rfl rfl (fun S' hM hk hok => h_ld hM hk rfl rfl rfl (zCL h42) rfl (qI _ _) rfl (hok _ rfl rfl)) rfl ?_)))))
  refine bi h fun x45 h46 h => d_cR (zEv _ y26 _ h46) rfl (dgy rfl rfl rfl rfl rfl) rfl (a1 (qO rfl)) (r1 rfl) (d_h0 [] (e := [(79, .t (.hpt (cd 10 x17.2.ln_lo) 0))]) (ks := [79]) rfl (dgy rfl rfl rfl rfl rfl) rfl rfl (fun S' hM hok => h_mv hM (.inl rfl) rfl rfl (hok _ rfl rfl)) rfl (d_h0 [] (e := [(80, .t (.hpt (cd 10 x17.2.ln_lo) 0))]) (ks := [80]) rfl (dgy rfl rfl rfl rfl rfl) rfl rfl (fun S' hM hok => h_nc hM rfl rfl rfl rfl (hok _ rfl rfl)) rfl (d_h0 [] (e := [(81, .t (.hpt (cd 10 x17.2.ln_lo) 3))]) (ks := [81]) rfl (dgy rfl rfl rfl rfl rfl) rfl rfl (fun S' hM hok => h_fd hM rfl rfl rfl rfl rfl (hok _ rfl rfl)) rfl (d_h (e := [(82, .t ((ptT 9 x41.m_)))]) (ks := [82]) rfl (dgy rfl rfl rfl rfl rfl) rfl rfl (fun S' hM hk hok => h_ld hM hk rfl rfl rfl (zCL h42) rfl (qI _ _) rfl (hok _ rfl rfl)) rfl (d_h0 [] (e := [(83, .t (.hpt (cd 9 i44) 0))]) (ks := [83]) rfl (dgy rfl rfl rfl rfl rfl) rfl rfl (fun S' hM hok => h_nc hM rfl (zI rfl) (zCx h43) rfl (hok _ rfl rfl)) rfl (d_h0 [] (e := [(84, .t (.hpt (cd 9 i44) 2))]) (ks := [84]) rfl (dgy rfl rfl rfl rfl rfl) rfl rfl (fun S' hM hok => h_fd hM rfl rfl rfl rfl rfl (hok _ rfl rfl)) rfl ?_))))))
  refine bi h fun x47 h48 h => d_h (e := [(85, .i x47.Base)]) (ks := [85]) rfl (dgy rfl rfl rfl rfl rfl) rfl rfl (fun S' hM hk hok => h_ld hM hk rfl rfl rfl (zAi h48) rfl rfl rfl (hok _ rfl rfl)) rfl (d_s (.b (x45 != x47.Base)) rfl (dgy rfl rfl rfl rfl rfl) rfl rfl rfl rfl (d_s (.b (x45 != x47.Base)) rfl (dgy rfl rfl rfl rfl rfl) rfl rfl rfl rfl ?_))
  rcases zP h with ⟨h49, h⟩ | ⟨h49, h⟩
  ·
   refine d_k1 rfl rfl h49 (d_k1 rfl rfl h49 (d_k1 rfl rfl h49 (d_k1 rfl rfl h49 (d_k1 rfl rfl h49 (d_k1 rfl rfl h49 (d_k1 rfl rfl h49 (d_k1 rfl rfl h49 (d_k1 rfl rfl h49 (d_k1 rfl rfl h49 (d_k1 rfl rfl h49 (d_k1 rfl rfl h49 ?_)))))))))))
   refine d_k1 rfl rfl h49 (d_k1 rfl rfl h49 (d_k1 rfl rfl h49 (d_k1 rfl rfl h49 (d_k1 rfl rfl h49 (d_k1 rfl rfl h49 (d_k1 rfl rfl h49 (d_k1 rfl rfl h49 (d_k1 rfl rfl h49 ?_))))))))
   refine d_pk (.b true) (b := true) h49 rfl (dgy rfl rfl rfl rfl rfl) rfl rfl rfl rfl rfl rfl (d_s (.b true) rfl (dgy rfl rfl rfl rfl rfl) rfl rfl rfl rfl (d_k1 rfl rfl rfl (d_k1 rfl rfl rfl (d_k1 rfl rfl rfl (d_k1 rfl rfl rfl (d_k1 rfl rfl rfl (d_k1 rfl rfl rfl ?_)))))))
   refine d_k1 rfl rfl rfl (d_k1 rfl rfl rfl (d_k1 rfl rfl rfl (d_k1 rfl rfl rfl (d_k1 rfl rfl rfl (d_pk (.b true) (b := true) rfl rfl (dgy rfl rfl rfl rfl rfl) rfl rfl rfl rfl rfl rfl (d_s (.b true) rfl (dgy rfl rfl rfl rfl rfl) rfl rfl rfl rfl (d_k1 rfl rfl rfl (d_k1 rfl rfl rfl (d_k1 rfl rfl rfl (d_k1 rfl rfl rfl (d_k1 rfl rfl rfl (d_k1 rfl rfl rfl ?_))))))))))))
   refine d_k1 rfl rfl rfl (d_k1 rfl rfl rfl (d_k1 rfl rfl rfl (d_k1 rfl rfl rfl (d_k1 rfl rfl rfl (d_k1 rfl rfl rfl (d_k1 rfl rfl rfl (d_pk (.b true) (b := true) rfl rfl (dgy rfl rfl rfl rfl rfl) rfl rfl rfl rfl rfl rfl ?_)))))))
   refine d_pT (.b true) rfl rfl rfl (yD (by kernel_rfl) (c_t rfl rfl (c_sr (o_1 (.b false) rfl (zA (zF ?_))))))
   cases h; exact eR rfl rfl
  refine d_h0 [] (e := [(88, .t (.hpt (cd 10 x17.2.ln_lo) 0))]) (ks := [88]) rfl (dgy rfl rfl rfl rfl h49) rfl rfl (fun S' hM hok => h_mv hM (.inl rfl) rfl rfl (hok _ rfl rfl)) rfl (d_h0 [] (e := [(89, .t (.hpt (cd 10 x17.2.ln_lo) 0))]) (ks := [89]) rfl (dgy rfl rfl rfl rfl h49) rfl rfl (fun S' hM hok => h_nc hM rfl rfl rfl rfl (hok _ rfl rfl)) rfl (d_h0 [] (e := [(90, .t (.hpt (cd 10 x17.2.ln_lo) 1))]) (ks := [90]) rfl (dgy rfl rfl rfl rfl h49) rfl rfl (fun S' hM hok => h_fd hM rfl rfl rfl rfl rfl (hok _ rfl rfl)) rfl (d_h (e := [(91, .t ((ptT 3 x41.l_)))]) (ks := [91]) rfl (dgy rfl rfl rfl rfl h49) rfl rfl (fun S' hM hk hok => h_ld hM hk rfl rfl rfl (zCL h42) rfl (qI _ _) rfl (hok _ rfl rfl)) rfl ?_)))
  refine bi h fun x50 h51 h => d_cR (zDs _ y26 _ h51) rfl (dgy rfl rfl rfl rfl h49) rfl (a1 (qO rfl)) (r1 rfl) (d_h0 [] (e := [(93, .t (.hpt (cd 10 x17.2.ln_lo) 0))]) (ks := [93]) rfl (dgy rfl rfl rfl rfl h49) rfl rfl (fun S' hM hok => h_mv hM (.inl rfl) rfl rfl (hok _ rfl rfl)) rfl (d_h0 [] (e := [(94, .t (.hpt (cd 10 x17.2.ln_lo) 0))]) (ks := [94]) rfl (dgy rfl rfl rfl rfl h49) rfl rfl (fun S' hM hok => h_nc hM rfl rfl rfl rfl (hok _ rfl rfl)) rfl (d_h0 [] (e := [(95, .t (.hpt (cd 10 x17.2.ln_lo) 3))]) (ks := [95]) rfl (dgy rfl rfl rfl rfl h49) rfl rfl (fun S' hM hok => h_fd hM rfl rfl rfl rfl rfl (hok _ rfl rfl)) rfl (d_h (e := [(96, .t ((ptT 9 x41.m_)))]) (ks := [96]) rfl (dgy rfl rfl rfl rfl h49) rfl rfl (fun S' hM hk hok => h_ld hM hk rfl rfl rfl (zCL h42) rfl (qI _ _) rfl (hok _ rfl rfl)) rfl (d_h0 [] (e := [(97, .t (.hpt (cd 9 i44) 0))]) (ks := [97]) rfl (dgy rfl rfl rfl rfl h49) rfl rfl (fun S' hM hok => h_nc hM rfl (zI rfl) (zCx h43) rfl (hok _ rfl rfl)) rfl (d_h0 [] (e := [(98, .t (.hpt (cd 9 i44) 1))]) (ks := [98]) rfl (dgy rfl rfl rfl rfl h49) rfl rfl (fun S' hM hok => h_fd hM rfl rfl rfl rfl rfl (hok _ rfl rfl)) rfl (d_h (e := [(99, .i x47.Size)]) (ks := [99]) rfl (dgy rfl rfl rfl rfl h49) rfl rfl (fun S' hM hk hok => h_ld hM hk rfl rfl rfl (zAi h48) rfl rfl rfl (hok _ rfl rfl)) rfl ?_)))))))
  refine d_h0 [] (e := [(100, .t (.hpt (cd 10 x17.2.ln_lo) 0))]) (ks := [100]) rfl (dgy rfl rfl rfl rfl h49) rfl rfl (fun S' hM hok => h_mv hM (.inl rfl) rfl rfl (hok _ rfl rfl)) rfl (d_h0 [] (e := [(101, .t (.hpt (cd 10 x17.2.ln_lo) 0))]) (ks := [101]) rfl (dgy rfl rfl rfl rfl h49) rfl rfl (fun S' hM hok => h_nc hM rfl rfl rfl rfl (hok _ rfl rfl)) rfl (d_h0 [] (e := [(102, .t (.hpt (cd 10 x17.2.ln_lo) 3))]) (ks := [102]) rfl (dgy rfl rfl rfl rfl h49) rfl rfl (fun S' hM hok => h_fd hM rfl rfl rfl rfl rfl (hok _ rfl rfl)) rfl (d_h (e := [(103, .t ((ptT 9 x41.m_)))]) (ks := [103]) rfl (dgy rfl rfl rfl rfl h49) rfl rfl (fun S' hM hk hok => h_ld hM hk rfl rfl rfl (zCL h42) rfl (qI _ _) rfl (hok _ rfl rfl)) rfl (d_h0 [] (e := [(104, .t (.hpt (cd 9 i44) 0))]) (ks := [104]) rfl (dgy rfl rfl rfl rfl h49) rfl rfl (fun S' hM hok => h_nc hM rfl (zI rfl) (zCx h43) rfl (hok _ rfl rfl)) rfl (d_h0 [] (e := [(105, .t (.hpt (cd 9 i44) 4))]) (ks := [105]) rfl (dgy rfl rfl rfl rfl h49) rfl rfl (fun S' hM hok => h_fd hM rfl rfl rfl rfl rfl (hok _ rfl rfl)) rfl (d_h (e := [(106, .i x47.Used)]) (ks := [106]) rfl (dgy rfl rfl rfl rfl h49) rfl rfl (fun S' hM hk hok => h_ld hM hk rfl rfl rfl (zAi h48) rfl rfl rfl (hok _ rfl rfl)) rfl (d_s (.i (wi (x47.Size - x47.Used))) rfl (dgy rfl rfl rfl rfl h49) rfl rfl rfl rfl (d_s (.b (x50 != (wi (x47.Size - x47.Used)))) rfl (dgy rfl rfl rfl rfl h49) rfl rfl rfl rfl (d_pk (.b (x50 != (wi (x47.Size - x47.Used)))) (b := false) h49 rfl (dgy rfl rfl rfl rfl rfl) rfl rfl rfl rfl rfl rfl (d_s (.b (x50 != (wi (x47.Size - x47.Used)))) rfl (dgy rfl rfl rfl rfl rfl) rfl rfl rfl rfl ?_))))))))))
  rcases zP h with ⟨h52, h⟩ | ⟨h52, h⟩
  ·
   refine d_k1 rfl rfl h52 (d_k1 rfl rfl h52 (d_k1 rfl rfl h52 (d_k1 rfl rfl h52 (d_k1 rfl rfl h52 (d_k1 rfl rfl h52 (d_k1 rfl rfl h52 (d_k1 rfl rfl h52 (d_k1 rfl rfl h52 (d_k1 rfl rfl h52 (d_k1 rfl rfl h52 ?_))))))))))
   refine d_pk (.b true) (b := true) h52 rfl (dgy rfl rfl rfl rfl rfl) rfl rfl rfl rfl rfl rfl (d_s (.b true) rfl (dgy rfl rfl rfl rfl rfl) rfl rfl rfl rfl (d_k1 rfl rfl rfl (d_k1 rfl rfl rfl (d_k1 rfl rfl rfl (d_k1 rfl rfl rfl (d_k1 rfl rfl rfl (d_k1 rfl rfl rfl ?_)))))))
   refine d_k1 rfl rfl rfl (d_k1 rfl rfl rfl (d_k1 rfl rfl rfl (d_k1 rfl rfl rfl (d_k1 rfl rfl rfl (d_k1 rfl rfl rfl (d_k1 rfl rfl rfl (d_pk (.b true) (b := true) rfl rfl (dgy rfl rfl rfl rfl rfl) rfl rfl rfl rfl rfl rfl ?_)))))))
   refine d_pT (.b true) rfl rfl rfl (yD (by kernel_rfl) (c_t rfl rfl (c_sr (o_1 (.b false) rfl (zA (zF ?_))))))
   cases h; exact eR rfl rfl
  refine d_h0 [] (e := [(111, .t (.hpt (cd 10 x17.2.ln_lo) 0))]) (ks := [111]) rfl (dgy rfl rfl rfl rfl h52) rfl rfl (fun S' hM hok => h_mv hM (.inl rfl) rfl rfl (hok _ rfl rfl)) rfl (d_h0 [] (e := [(112, .t (.hpt (cd 10 x17.2.ln_lo) 0))]) (ks := [112]) rfl (dgy rfl rfl rfl rfl h52) rfl rfl (fun S' hM hok => h_nc hM rfl rfl rfl rfl (hok _ rfl rfl)) rfl (d_h0 [] (e := [(113, .t (.hpt (cd 10 x17.2.ln_lo) 1))]) (ks := [113]) rfl (dgy rfl rfl rfl rfl h52) rfl rfl (fun S' hM hok => h_fd hM rfl rfl rfl rfl rfl (hok _ rfl rfl)) rfl (d_h (e := [(114, .t ((ptT 3 x41.l_)))]) (ks := [114]) rfl (dgy rfl rfl rfl rfl h52) rfl rfl (fun S' hM hk hok => h_ld hM hk rfl rfl rfl (zCL h42) rfl (qI _ _) rfl (hok _ rfl rfl)) rfl (bi h fun x53 h54 h => d_cR (zAX _ y26 _ h54) rfl (dgy rfl rfl rfl rfl h52) rfl (a1 (qO rfl)) (r1 rfl) (d_h0 [] (e := [(116, .t (.hpt (cd 10 x17.2.ln_lo) 0))]) (ks := [116]) rfl (dgy rfl rfl rfl rfl h52) rfl rfl (fun S' hM hok => h_mv hM (.inl rfl) rfl rfl (hok _ rfl rfl)) rfl (d_h0 [] (e := [(117, .t (.hpt (cd 10 x17.2.ln_lo) 0))]) (ks := [117]) rfl (dgy rfl rfl rfl rfl h52) rfl rfl (fun S' hM hok => h_nc hM rfl rfl rfl rfl (hok _ rfl rfl)) rfl (d_h0 [] (e := [(118, .t (.hpt (cd 10 x17.2.ln_lo) 3))]) (ks := [118]) rfl (dgy rfl rfl rfl rfl h52) rfl rfl (fun S' hM hok => h_fd hM rfl rfl rfl rfl rfl (hok _ rfl rfl)) rfl (d_h (e := [(119, .t ((ptT 9 x41.m_)))]) (ks := [119]) rfl (dgy rfl rfl rfl rfl h52) rfl rfl (fun S' hM hk hok => h_ld hM hk rfl rfl rfl (zCL h42) rfl (qI _ _) rfl (hok _ rfl rfl)) rfl ?_))))))))
  refine bi h fun x55 h56 h => d_cR (zBx _ y26 _ h56) rfl (dgy rfl rfl rfl rfl h52) rfl (a1 (qO rfl)) (r1 rfl) (d_s (.b (x53 != x55)) rfl (dgy rfl rfl rfl rfl h52) rfl rfl rfl rfl (d_pk (.b (x53 != x55)) (b := false) h52 rfl (dgy rfl rfl rfl rfl rfl) rfl rfl rfl rfl rfl rfl (d_s (.b (x53 != x55)) rfl (dgy rfl rfl rfl rfl rfl) rfl rfl rfl rfl ?_)))
  rcases zP h with ⟨h57, h⟩ | ⟨h57, h⟩
  ·
   refine d_k1 rfl rfl h57 (d_k1 rfl rfl h57 (d_k1 rfl rfl h57 (d_k1 rfl rfl h57 (d_k1 rfl rfl h57 (d_k1 rfl rfl h57 (d_k1 rfl rfl h57 (d_k1 rfl rfl h57 (d_k1 rfl rfl h57 (d_k1 rfl rfl h57 (d_k1 rfl rfl h57 (d_k1 rfl rfl h57 ?_)))))))))))
   refine d_k1 rfl rfl h57 (d_pk (.b true) (b := true) h57 rfl (dgy rfl rfl rfl rfl rfl) rfl rfl rfl rfl rfl rfl (d_pT (.b true) rfl rfl rfl (yD (by kernel_rfl) (c_t rfl rfl (c_sr (o_1 (.b false) rfl (zA (zF ?_))))))))
   cases h; exact eR rfl rfl
  refine d_h0 [] (e := [(124, .t (.hpt (cd 10 x17.2.ln_lo) 0))]) (ks := [124]) rfl (dgy rfl rfl rfl rfl h57) rfl rfl (fun S' hM hok => h_mv hM (.inl rfl) rfl rfl (hok _ rfl rfl)) rfl (d_h0 [] (e := [(125, .t (.hpt (cd 10 x17.2.ln_lo) 0))]) (ks := [125]) rfl (dgy rfl rfl rfl rfl h57) rfl rfl (fun S' hM hok => h_nc hM rfl rfl rfl rfl (hok _ rfl rfl)) rfl (d_h0 [] (e := [(126, .t (.hpt (cd 10 x17.2.ln_lo) 1))]) (ks := [126]) rfl (dgy rfl rfl rfl rfl h57) rfl rfl (fun S' hM hok => h_fd hM rfl rfl rfl rfl rfl (hok _ rfl rfl)) rfl (d_h (e := [(127, .t ((ptT 3 x41.l_)))]) (ks := [127]) rfl (dgy rfl rfl rfl rfl h57) rfl rfl (fun S' hM hk hok => h_ld hM hk rfl rfl rfl (zCL h42) rfl (qI _ _) rfl (hok _ rfl rfl)) rfl ?_)))
  refine bi h fun x58 h59 h => d_cR (zFu _ y26 _ h59) rfl (dgy rfl rfl rfl rfl h57) rfl (a1 (qO rfl)) (r1 rfl) (d_h0 [] (e := [(129, .t (.hpt (cd 10 x17.2.ln_lo) 0))]) (ks := [129]) rfl (dgy rfl rfl rfl rfl h57) rfl rfl (fun S' hM hok => h_mv hM (.inl rfl) rfl rfl (hok _ rfl rfl)) rfl (d_h0 [] (e := [(130, .t (.hpt (cd 10 x17.2.ln_lo) 0))]) (ks := [130]) rfl (dgy rfl rfl rfl rfl h57) rfl rfl (fun S' hM hok => h_nc hM rfl rfl rfl rfl (hok _ rfl rfl)) rfl (d_h0 [] (e := [(131, .t (.hpt (cd 10 x17.2.ln_lo) 3))]) (ks := [131]) rfl (dgy rfl rfl rfl rfl h57) rfl rfl (fun S' hM hok => h_fd hM rfl rfl rfl rfl rfl (hok _ rfl rfl)) rfl (d_h (e := [(132, .t ((ptT 9 x41.m_)))]) (ks := [132]) rfl (dgy rfl rfl rfl rfl h57) rfl rfl (fun S' hM hk hok => h_ld hM hk rfl rfl rfl (zCL h42) rfl (qI _ _) rfl (hok _ rfl rfl)) rfl (d_h0 [] (e := [(133, .t (.hpt (cd 9 i44) 0))]) (ks := [133]) rfl (dgy rfl rfl rfl rfl h57) rfl rfl (fun S' hM hok => h_nc hM rfl (zI rfl) (zCx h43) rfl (hok _ rfl rfl)) rfl (d_h0 [] (e := [(134, .t (.hpt (cd 9 i44) 6))]) (ks := [134]) rfl (dgy rfl rfl rfl rfl h57) rfl rfl (fun S' hM hok => h_fd hM rfl rfl rfl rfl rfl (hok _ rfl rfl)) rfl (d_h (e := [(135, .i x47.Commits)]) (ks := [135]) rfl (dgy rfl rfl rfl rfl h57) rfl rfl (fun S' hM hk hok => h_ld hM hk rfl rfl rfl (zAi h48) rfl rfl rfl (hok _ rfl rfl)) rfl ?_)))))))
  refine d_s (.b (x58 != x47.Commits)) rfl (dgy rfl rfl rfl rfl h57) rfl rfl rfl rfl (d_pk (.b (x58 != x47.Commits)) (b := false) h57 rfl (dgy rfl rfl rfl rfl rfl) rfl rfl rfl rfl rfl rfl (d_pT (.b (x58 != x47.Commits)) rfl rfl rfl (yD (by kernel_rfl) (c_if h rfl (fun h60 h => c_sr (o_1 (.b false) rfl (zA (zF ?_)))) fun h60 h => zG ?_))))
  ·
   cases h; exact eR rfl rfl
  exact lE () h rfl rfl
 rintro ⟨⟩ h
 refine yY r (fun (_ : Unit) => [(8, .t (.hpt (cd 1 i7) 0)), (10, .t (.hpt (cd 8 i11) 0)), (HK, .hp (hpA y26))]) (fun _ => zCO i7 y26 i11) ?_ ?_
 ·
  refine c_sr (o_m2 (.i (wi ((wi (Int.tmod (p0.toNat : Int) 60)) + 1))) (.i 0) rfl (zA (zS (c_lp (fun (z31 : Int) => [(8, .t (.hpt (cd 1 i7) 0)), (10, .t (.hpt (cd 8 i11) 0)), (139, .i (wi ((wi (Int.tmod (p0.toNat : Int) 60)) + 1))), (140, .i z31), (HK, .hp (hpA y26))]) (fun nl4 z31 => zBd p0 i7 y26 i11 nl4 z31) (Int.toNat (wi ((wi (Int.tmod (p0.toNat : Int) 60)) + 1)) + 1) 0 h (fun _ => rfl) rfl rfl ?_))))
  rintro nl4 z31 h
  refine c_sr (o_1 (.b (decide (z31 < (wi ((wi (Int.tmod (p0.toNat : Int) 60)) + 1))))) rfl (zA (zJ ?_)))
  refine c_if h rfl (fun h32 h => zG (zJ (zS (c_sr (o_m2 (.i z31) (.i z31) rfl (zA (c_sr ?_))))))) fun h32 h => zAQ ?_
  ·
   refine o_mv (y := .t (.hpt (cd 1 i7) 0)) rfl rfl (o_1 (.i z31) rfl (bi h fun x33 h34 h => o_cR (zCN _ _ y26 _ h34) (g0 rfl) rfl (a2 aH (aR rfl)) (r2 rfl) (o_m5 (.tup [.y x33.1, .i x33.2]) (.y x33.1) (.i x33.2) (.y x33.1) (.i x33.2) rfl (zA (c_sr (o_mv (y := .t (.hpt (cd 8 i11) 0)) rfl rfl (o_1 (.i z31) rfl ?_)))))))
   refine bi h fun x35 h36 h => o_cR (zDc _ _ y26 _ h36) (g0 rfl) rfl (a2 aH (aR rfl)) (r2 rfl) (o_m5 (.tup [.y x35.1, .i x35.2]) (.y x35.1) (.i x35.2) (.y x35.1) (.i x35.2) rfl (zA (c_sr (o_m4 (.i x33.2) (.i x35.2) (.b (x33.2 != x35.2)) (.b (x33.2 != x35.2)) rfl ?_))))
   rcases zP h with ⟨h37, h⟩ | ⟨h37, h⟩
   ·
    refine o_k4 rfl h37 (o_pT (.b true) h37 rfl (zA (c_t rfl rfl (c_sr (o_1 (.b false) rfl (zA (zF ?_)))))))
    cases h; exact eR rfl rfl
   refine o_s (.y x33.1) (gy rfl rfl rfl h37) rfl rfl rfl (o_s (.y x35.1) (gy rfl rfl rfl h37) rfl rfl rfl (bi h fun x38 h39 h => o_cA (zCV _ _ _ h39) (gy rfl rfl rfl h37) rfl (.cons .r (.cons .r .nil)) rfl (o_s (.b (!x38)) (gy rfl rfl rfl h37) rfl rfl rfl (o_pF (.b (!x38)) h37 rfl (zA ?_)))))
   refine c_if h rfl (fun h40 h => c_sr (o_1 (.b false) rfl (zA (zF ?_)))) fun h40 h => zG (zL (o_m2 (.i (wi (z31 + 1))) (.i (wi (z31 + 1))) rfl (zA ?_)))
   ·
    cases h; exact eR rfl rfl
   exact lE (wi (z31 + 1)) h rfl rfl
  exact lE () h rfl rfl
 rintro ⟨⟩ h
 refine zJ (qQ mixed (by kernel_rfl) (d_mv (y := .t (.hpt (cd 1 i7) 0)) rfl rfl rfl (bi h fun x27 h28 h => d_cR (zFO _ y26 _ h28) rfl (dg0 rfl) rfl (a1 aH) (r1 rfl) (d_mv (y := .t (.hpt (cd 8 i11) 0)) rfl rfl rfl (d_nc rfl rfl rfl (d_fd 1 rfl rfl rfl ?_))))))
 refine bi h fun x29 h30 h => d_ld (.t (.d (.seq 2 (List.map yF x29.Wait)))) rfl rfl (zBn h30) rfl (d_c rfl (dg0 rfl) rfl rfl rfl rfl (lenE _ _) trivial (d_1 (.b (x27 == (x29.Wait.length : Int))) rfl rfl (d_1 (.b (x27 == (x29.Wait.length : Int))) rfl rfl (yD (by kernel_rfl) (zF ?_)))))
 cases h; exact eR rfl rfl
end Go.Proofs.YtjomnccladjpgaaGreat
