/-
 Walks of functions: each function does what its model tells. Printed by a program of this claim's own (gen.py) off the given translation.
-/
import Derived.Test.YtjomnccladjpgaaGreatQ09
import Derived.Test.YtjomnccladjpgaaGreatQ12
import Derived.Test.YtjomnccladjpgaaGreatQ15
import Derived.Test.YtjomnccladjpgaaGreatQ07
import Derived.Test.YtjomnccladjpgaaGreatQ10
set_option linter.unusedVariables false
set_option linter.unusedSimpArgs false
namespace Go.Proofs.YtjomnccladjpgaaGreat
open Go Go.RowKit
set_option linter.unusedVariables false
set_option maxHeartbeats 4000000
set_option maxRecDepth 20000
theorem zF6 (p0 : (Option Nat)) (p1 : (List UInt8)) (w0 : Hp) (r : Hp) (h : zCC p0 p1 w0 = some r) : FCH Tryz.prog 39 [.t ((ptT 8 p0)), .t (.d (.seq 1 (zN p1)))] [] [] (hpA w0) (hpA r) (.tup []) := by
 refine qR (rs := []) (n := 100) [0] Tryz.func39 rfl rfl (Nat.le_of_ble_eq_true rfl) rfl (pins := []) rfl (L := [(HK, .hp (hpA w0)), (OB + 0, .free), (0, .t ((ptT 8 p0))), (1, .y p1)]) rfl (yY r (fun (q : (Option Nat) × Hp) => [(0, .t ((ptT 8 q.1))), (HK, .hp (hpA q.2)), (OB + 0, .free)]) (fun q => zC4 q.1 q.2) ?_ ?_)
 ·
  refine c_sr (o_1 (.i 0) rfl (zA (zS (c_lp (fun (q : (Option Nat) × Int × Hp) => [(0, .t ((ptT 8 q.1))), (1, .y p1), (4, .i q.2.1), (HK, .hp (hpA q.2.2)), (OB + 0, .free)]) (fun nl2 q => yC p1 nl2 q.1 q.2.1 q.2.2) ((((w0).rd.map fun x => x.Wait.length).sum + 1)) (p0, 0, w0) h (fun _ => rfl) rfl rfl ?_))))
  rintro nl2 ⟨z7, z8, z9⟩ h
  refine zJ (c_sr (o_1 (.i z8) rfl (o_mv rfl (zI rfl) ?_)))
  rcases zQ h with ⟨h10, h⟩ | ⟨i11, h10, h⟩
  ·
   exact qF h
  refine o_nf 1 rfl (pq rfl h10) rfl (bi h fun x12 h13 h => o_ld (.t (.d (.seq 2 (List.map yF x12.Wait)))) rfl (zBn h13) rfl (o_c (g0 rfl) rfl rfl rfl (lenE _ _) trivial (o_1 (.b (decide (z8 < (x12.Wait.length : Int)))) rfl (zA ?_))))
  refine c_if h rfl (fun h14 h => zG (zJ (zS (zJ (qQ mixed (by kernel_rfl) (d_mv rfl rfl (pq rfl h10) (d_nc rfl rfl rfl (d_fd 0 rfl rfl rfl (d_ld (.t (.hvw (cd 11 x12.Kept.1) 0 40 1 x12.Kept.2)) rfl rfl (zBn h13) rfl (d_mv rfl rfl (pq rfl h10) (d_nc rfl rfl rfl ?_))))))))))) fun h14 h => zAQ ?_
  ·
   refine d_fd 1 rfl rfl rfl (d_ld (.t (.d (.seq 2 (List.map yF x12.Wait)))) rfl rfl (zBn h13) rfl (d_1 (.i z8) rfl rfl (bi h fun x15 h16 h => d_c rfl (dg0 rfl) rfl rfl rfl rfl (idxE h16) (idxC h16) (d_1 (.imm [.i x15.N, .y x15.B]) rfl rfl (d_1 (.i x15.N) rfl rfl ?_)))))
   refine bi h fun x17 h18 h => bi h fun x19 h20 h => bi h fun x21 h22 h => d_h0 [] (e := [(29, .t (.hpt (cd 11 x12.Kept.1) (0 + Int.toNat x15.N * 1)))]) (ks := [29]) rfl (dg0 rfl) rfl rfl (fun S' hM hok => h_ix hM rfl rfl rfl rfl (idxV (zCM h20) h22) rfl rfl (hok _ rfl rfl)) rfl (d_h (e := [(30, .y x21)]) (ks := [30]) rfl (dg0 rfl) rfl rfl (fun S' hM hk hok => h_ld hM hk rfl rfl rfl (gl_rs h18) (fl_at h22 rfl (fun _ => rfl)) rfl rfl (hok _ rfl rfl)) rfl (d_1 (.y x21) rfl rfl (yD (by kernel_rfl) (c_sr ?_))))
   refine bi h fun x23 h24 h => o_of (e := [((OB + 0), .box (fl (dT cU8) (List.replicate x23 (0 : UInt8)))), (31, .t (.view 0 0 5 1 x23))]) (g0 rfl) (zKr mR rfl rfl rfl rfl rfl rfl rfl (by kernel_rfl) rfl h24 (zH6 (c := cU8) (z := (0 : UInt8)) (by kernel_rfl) x23) rfl rfl rfl rfl) rfl (o_1 (.t (.view 0 0 5 1 x23)) rfl (zA (yY r (fun (y25 : (List UInt8)) => [(0, .t ((ptT 8 z7))), (1, .y p1), (4, .i z8), (6, .t (.view 0 0 5 1 y25.length)), ((OB + 0), .box (fl (dT cU8) y25)), (HK, .hp (hpA z9))]) (fun y25 => zB7 (yC p1 nl2) x12 z8 x17 i11 z9 y25) ?_ ?_)))
   ·
    refine c_sr (o_1 (.i 0) rfl (zA (zS (zDM (fun (q : Int × (List UInt8)) => [(0, .t ((ptT 8 z7))), (1, .y p1), (4, .i z8), (5, .y x21), (6, .t (.view 0 0 5 1 q.2.length)), (7, .i q.1), ((OB + 0), .box (fl (dT cU8) q.2)), (HK, .hp (hpA z9))]) (fun nl4 q => zAA (yC p1 nl2) x21 z8 p1 x12 x17 i11 z9 nl4 q.1 q.2) (Int.toNat 64 + 1) (0, (List.replicate x23 (0 : UInt8))) [] h (fun _ => rfl) rfl trivial ⟨.r, .r, .r, .r, (.vwn (by first | rfl | omega | (simp; done) | (dsimp only; omega) | (simp; omega))), .r, .r, .r, trivial⟩ rfl ?_))))
    rintro nl4 ⟨z32, z33⟩ h
    refine zJ (c_sr (o_m2 (.i z32) (.b (decide (z32 < 64))) rfl (zA (c_if h rfl (fun h34 h => zG ?_) fun h34 h => zAQ ?_))))
    ·
     refine yY r (fun (y35 : (List UInt8)) => [(0, .t ((ptT 8 z7))), (1, .y p1), (4, .i z8), (5, .y x21), (6, .t (.view 0 0 5 1 y35.length)), (7, .i z32), ((OB + 0), .box (fl (dT cU8) y35)), (HK, .hp (hpA z9))]) (fun y35 => zAl (zAA (yC p1 nl2) x21 z8 p1 x12 x17 i11 z9 nl4) z32 y35) ?_ ?_
     ·
      refine zS (c_sr (o_m4 (.t (.view 0 0 5 1 z33.length)) (.i z32) (.y x21) (.i z32) rfl (bi h fun x36 h37 h => o_c (g0 rfl) rfl rfl rfl (idxE h37) (idxC h37) (o_1 (.t (.d (.lit (.int .u8 (x36.toNat : Int))))) rfl (bi h fun x38 h39 h => o_of (e := [(42, .ref (OB + 0) (0 + Int.toNat z32 * 1))]) (g0 rfl) (h_lix mR rfl rfl rfl rfl rfl (idxV rfl h39) rfl rfl rfl) rfl (o_of (e := [((OB + 0), .box (fl (dT cU8) (z33.set (Int.toNat z32) x36)))]) (g0 rfl) (h_lst mR rfl rfl rfl rfl rfl rfl rfl (zIs h39 (fun _ => rfl)) (zKS h39 x36 (fun _ => rfl) rfl)) rfl (zA ?_)))))))
      refine yY r (fun (y40 : Bool) => [(0, .t ((ptT 8 z7))), (1, .y p1), (4, .i z8), (5, .y x21), (6, .t (.view 0 0 5 1 ((z33.set (Int.toNat z32) x36).length))), (7, .i z32), (55, .b y40), ((OB + 0), .box (fl (dT cU8) (z33.set (Int.toNat z32) x36))), (HK, .hp (hpA z9))]) (fun y40 => zBO (zAA (yC p1 nl2) x21 z8 p1 x12 x17 i11 z9 nl4) x12 z8 z32 z33 x36 y40) ?_ ?_
      ·
       refine zL (o_m2 (.i z8) (.y p1) rfl (o_c (g0 rfl) rfl rfl rfl (lenE _ _) trivial (o_m2 (.b (decide (z8 < (p1.length : Int)))) (.b (decide (z8 < (p1.length : Int)))) rfl ?_)))
       rcases zP h with ⟨h48, h⟩ | ⟨h48, h⟩
       ·
        refine o_s (.i z32) (gy rfl rfl rfl h48) rfl rfl rfl (o_s (.y p1) (gy rfl rfl rfl h48) rfl rfl rfl (o_s (.i z8) (gy rfl rfl rfl h48) rfl rfl rfl (bi h fun x49 h50 h => o_c (gy rfl rfl rfl h48) rfl rfl rfl (idxE h50) (idxC h50) (o_s (.t (.d (.lit (.int .u8 (x49.toNat : Int))))) (gy rfl rfl rfl h48) rfl rfl rfl (o_c (gy rfl rfl rfl h48) rfl rfl rfl (congrArg (fun z => A.i z) (zKA _)) trivial (o_s (.b (decide (z32 < (x49.toNat : Int)))) (gy rfl rfl rfl h48) rfl rfl rfl (o_pT (.b (decide (z32 < (x49.toNat : Int)))) h48 rfl (zA ?_))))))))
        exact ⟨(decide (z32 < (x49.toNat : Int))), [], h, rfl, trivial, ⟨.r, .r, .r, .r, (.vwn (by first | rfl | omega | (simp; done) | (dsimp only; omega) | (simp; omega))), .r, .r, .r, .r, trivial⟩, rfl⟩
       refine o_k4 rfl h48 (o_k3 rfl h48 (o_pF (.b false) h48 rfl (zA ?_)))
       exact ⟨false, [], h, rfl, trivial, ⟨.r, .r, .r, .r, (.vwn (by first | rfl | omega | (simp; done) | (dsimp only; omega) | (simp; omega))), .r, .r, .r, .r, trivial⟩, rfl⟩
      rintro y40 h
      refine c_if h rfl (fun h41 h => zL (o_m2 (.t (.view 0 0 5 1 ((z33.set (Int.toNat z32) x36).length))) (.i z32) rfl (o_f3 1 rfl (pq rfl h10) rfl (o_ld (.t (.d (.seq 2 (List.map yF x12.Wait)))) rfl (zBn h13) rfl (o_1 (.i z8) rfl ?_))))) fun h41 h => zG ?_
      ·
       refine bi h fun x42 h43 h => o_c (g0 rfl) rfl rfl rfl (idxE h43) (idxC h43) (o_m3 (.imm [.y x42.B]) (.y x42.B) (.i z32) rfl (bi h fun x44 h45 h => o_c (g0 rfl) rfl rfl rfl (idxE h45) (idxC h45) (o_1 (.t (.d (.lit (.int .u8 (x44.toNat : Int))))) rfl (bi h fun x46 h47 h => o_of (e := [(69, .ref (OB + 0) (0 + Int.toNat z32 * 1))]) (g0 rfl) (h_lix mR rfl rfl rfl rfl rfl (idxV rfl h47) rfl rfl rfl) rfl (o_of (e := [((OB + 0), .box (fl (dT cU8) ((z33.set (Int.toNat z32) x36).set (Int.toNat z32) x44)))]) (g0 rfl) (h_lst mR rfl rfl rfl rfl rfl rfl rfl (zIs h47 (fun _ => rfl)) (zKS h47 x44 (fun _ => rfl) rfl)) rfl (zA ?_))))))
       exact ⟨((z33.set (Int.toNat z32) x36).set (Int.toNat z32) x44), [], h, rfl, trivial, ⟨.r, .r, .r, .r, (.vwn (by first | rfl | omega | (simp; done) | (dsimp only; omega) | (simp; omega))), .r, .r, .r, trivial⟩, rfl⟩
      exact lE (z33.set (Int.toNat z32) x36) h rfl rfl
     rintro y35 h
     refine zL (o_m3 (.i z32) (.i (wi (z32 + 1))) (.i (wi (z32 + 1))) rfl (zA ?_))
     exact lE ((wi (z32 + 1)), y35) h rfl rfl
    exact lE z33 h rfl rfl
   rintro y25 h
   rw [qM (t := 8) h10]
   refine c_frz 6 0 rfl rfl (by first | (simp; done) | (rw [List.length_map]; omega)) (zEM _ _) (zEp (c := cU8) (fun _ => rfl) _) rfl ⟨.inr ⟨_, rfl, zCm _⟩, by (repeat (first | exact ObP.nil | refine ObP.cons (.inl rfl) ?_ | refine ObP.cons (.inr (fun _ => rfl)) ?_ | refine ObP.cons (.inr (zIG (zBp _ _))) ?_ | refine ObP.cons (.inr (ob_gb _ _)) ?_))⟩ rfl (qQ mixed (by kernel_rfl) (d_mv (y := .t (.hpt (cd 8 i11) 0)) rfl rfl rfl (d_nc rfl rfl rfl (d_fd 0 rfl rfl rfl (d_ld (.t (.hvw (cd 11 x12.Kept.1) 0 40 1 x12.Kept.2)) rfl rfl (zBn h13) rfl (d_mv (y := .t (.hpt (cd 8 i11) 0)) rfl rfl rfl (d_nc rfl rfl rfl (d_fd 1 rfl rfl rfl (d_ld (.t (.d (.seq 2 (List.map yF x12.Wait)))) rfl rfl (zBn h13) rfl (d_1 (.i z8) rfl rfl ?_))))))))))
   refine bi h fun x26 h27 h => d_c rfl (dg0 rfl) rfl rfl rfl rfl (idxE h27) (idxC h27) (d_1 (.imm [.i x26.N, .y x26.B]) rfl rfl (d_1 (.i x26.N) rfl rfl (d_1 (.y y25) rfl rfl ?_)))
   refine bi h fun x28 h29 h => bi h fun x30 h31 h => d_h0 [] (e := [(83, .t (.hpt (cd 11 x12.Kept.1) (0 + Int.toNat x26.N * 1)))]) (ks := [83]) rfl (dg0 rfl) rfl rfl (fun S' hM hok => h_ix hM rfl rfl rfl rfl (idxV (zCM h29) h31) rfl rfl (hok _ rfl rfl)) rfl (d_h (e := [(HK, .hp (hpA (z9.st_rs x12.Kept.1 (x17.set (Int.toNat x26.N) y25))))]) (ks := [HK]) rfl (dg0 rfl) rfl rfl (fun S' hM hk hok => h_st hM hk rfl rfl rfl rfl (gl_rs h18) rfl (by kernel_rfl) (zFZ (c := (cSl 1 cU8)) (k := 1) (q := 0) h31 (fun _ => (by kernel_rfl)) rfl) (zHk (c := (cSl 1 cU8)) (k := 1) (q := 0) h31 y25 (fun _ => (by kernel_rfl)) (by kernel_rfl) (by kernel_rfl)) (su_rs (x' := (x17.set (Int.toNat x26.N) y25)) h18)) rfl (yD (by kernel_rfl) (zL (o_m3 (.i z8) (.i (wi (z8 + 1))) (.i (wi (z8 + 1))) rfl (zA ?_)))))
   exact lE ((some i11), (wi (z8 + 1)), (z9.st_rs x12.Kept.1 (x17.set (Int.toNat x26.N) y25))) h rfl rfl
  exact lE (z7, z9) h rfl rfl
 rintro ⟨y1, y2⟩ h
 refine c_sr (o_mv rfl (zI rfl) ?_)
 rcases zQ h with ⟨h3, h⟩ | ⟨i4, h3, h⟩
 ·
  exact qF h
 refine o_nf 1 rfl (pq rfl h3) rfl (bi h fun x5 h6 h => o_of (e := [(HK, .hp (hpA (y2.st_rd i4 (zO.mk x5.Kept [] x5.Fuse x5.Off x5.Lives))))]) (g0 rfl) (h_stw mR rfl rfl rfl rfl rfl (zBn h6) rfl rfl (Nat.le_of_ble_eq_true rfl) (.cons .r (.cons (.nilOwn _ _) (.cons .r (.cons .r (.cons .r .nil))))) rfl (zHt (x' := (zO.mk x5.Kept [] x5.Fuse x5.Off x5.Lives)) h6)) rfl (zA (c_sr (o_f3 2 rfl (pq rfl h3) rfl (o_sH rfl (zBn (zR h6)) (zHt (x' := (zO.mk x5.Kept [] (-1) x5.Off x5.Lives)) (zR h6)) rfl rfl (zA (c_sr (o_f3 3 rfl (pq rfl h3) rfl ?_))))))))
 refine o_sH rfl (zBn (zR (zR h6))) (zHt (x' := (zO.mk x5.Kept [] (-1) false x5.Lives)) (zR (zR h6))) rfl rfl (zA (zL (o_f3 4 rfl (pq rfl h3) rfl (o_ld (.i ((zO.mk x5.Kept [] (-1) false x5.Lives).Lives)) rfl (zBn (zR (zR (zR h6)))) rfl (o_1 (.i (wi (((zO.mk x5.Kept [] (-1) false x5.Lives).Lives) + 1))) rfl (o_nf 4 rfl rfl rfl (o_sH rfl (zBn (zR (zR (zR h6)))) (zHt (x' := (zO.mk x5.Kept [] (-1) false (wi (((zO.mk x5.Kept [] (-1) false x5.Lives).Lives) + 1)))) (zR (zR (zR h6)))) rfl rfl (zA ?_))))))))
 cases h; exact eR rfl rfl
theorem zEJ (p0 : (Option Nat)) (p1 : Int) (w0 : Hp) (r : Hp) (h : zA2 p0 p1 w0 = some r) : FCH Tryz.prog 37 [.t ((ptT 8 p0)), .t (.d (.lit (.int .i64 p1)))] [] [] (hpA w0) (hpA r) (.tup []) := by
 refine qR (rs := []) (n := 13) [] Tryz.func37 rfl rfl (Nat.le_of_ble_eq_true rfl) rfl (pins := []) rfl (L := [(HK, .hp (hpA w0)), (0, .t ((ptT 8 p0))), (1, .i p1)]) rfl (c_sr (o_mv rfl (zI rfl) (o_1 (.i p1) rfl ?_)))
 rcases zQ h with ⟨h1, h⟩ | ⟨i2, h1, h⟩
 ·
  exact qF h
 refine o_nf 2 rfl (pq rfl h1) rfl (bi h fun x3 h4 h => o_sH rfl (zBn h4) (zHt (x' := (zO.mk x3.Kept x3.Wait p1 x3.Off x3.Lives)) h4) rfl rfl (zA (c_sr (o_m2 (.i p1) (.b (decide (p1 < 0))) rfl (zA ?_)))))
 refine c_if h rfl (fun h5 h => zL (o_f3 2 rfl (pq rfl h1) rfl (o_sH rfl (zBn (zR h4)) (zHt (x' := (zO.mk x3.Kept x3.Wait (-1) x3.Off x3.Lives)) (zR h4)) rfl rfl (zA ?_)))) fun h5 h => zG ?_
 ·
  cases h; exact eR rfl rfl
 cases h; exact eR rfl rfl
theorem zD7 (p0 : (Option Nat)) (p1 : Int) (w0 : Hp) (r : (List UInt8)) (h : zBi p0 p1 w0 = some r) : FCH Tryz.prog 44 [.t ((ptT 8 p0)), .t (.d (.lit (.int .i64 p1)))] [] [] (hpA w0) (hpA w0) (.t (.d (.seq 1 (zN r)))) := by
 refine qR (rs := [.tmp 4]) (n := 41) [] Tryz.func44 rfl rfl (Nat.le_of_ble_eq_true rfl) rfl (pins := []) rfl (L := [(HK, .hp (hpA w0)), (0, .t ((ptT 8 p0))), (1, .i p1)]) rfl (c_sr (o_1 (.n) rfl (zA (yY r (fun (_ : Unit) => [(0, .t ((ptT 8 p0))), (1, .i p1), (HK, .hp (hpA w0))]) (fun _ => zDu p0 w0 p1) ?_ ?_))))
 ·
  refine c_sr (o_mv rfl (zI rfl) ?_)
  rcases zQ h with ⟨h11, h⟩ | ⟨i12, h11, h⟩
  ·
   exact qF h
  refine o_nf 1 rfl (pq rfl h11) rfl (bi h fun x13 h14 h => o_ld (.t (.d (.seq 2 (List.map yF x13.Wait)))) rfl (zBn h14) rfl (o_c (g0 rfl) rfl rfl rfl (lenE _ _) trivial (o_m2 (.i (wi ((x13.Wait.length : Int) - 1))) (.i (wi ((x13.Wait.length : Int) - 1))) rfl (zA (zS (c_lp (fun (z15 : Int) => [(0, .t ((ptT 8 p0))), (1, .i p1), (5, .i z15), (HK, .hp (hpA w0))]) (fun nl2 z15 => zBX x13 p1 p0 w0 nl2 z15) (Int.toNat (wi ((x13.Wait.length : Int) - 1)) + 2) (wi ((x13.Wait.length : Int) - 1)) h (fun _ => rfl) rfl rfl ?_))))))
  rintro nl2 z15 h
  refine zJ (c_sr (o_m2 (.i z15) (.b (decide (z15 ≥ 0))) rfl (zA ?_)))
  refine c_if h rfl (fun h16 h => zG (zJ (zS (c_sr (o_f3 1 rfl (pq rfl h11) rfl (o_ld (.t (.d (.seq 2 (List.map yF x13.Wait)))) rfl (zBn h14) rfl (o_1 (.i z15) rfl ?_))))))) fun h16 h => zAQ ?_
  ·
   refine bi h fun x17 h18 h => o_c (g0 rfl) rfl rfl rfl (idxE h18) (idxC h18) (o_m4 (.imm [.i x17.N, .y x17.B]) (.i x17.N) (.i p1) (.b (x17.N == p1)) rfl (zA ?_))
   refine c_if h rfl (fun h19 h => c_sr (o_f3 1 rfl (pq rfl h11) rfl (o_ld (.t (.d (.seq 2 (List.map yF x13.Wait)))) rfl (zBn h14) rfl (o_1 (.i z15) rfl ?_)))) fun h19 h => zG (zL (o_m3 (.i z15) (.i (wi (z15 - 1))) (.i (wi (z15 - 1))) rfl (zA ?_)))
   ·
    refine bi h fun x20 h21 h => o_c (g0 rfl) rfl rfl rfl (idxE h21) (idxC h21) (o_m3 (.imm [.y x20.B]) (.y x20.B) (.y x20.B) rfl (zA (zF ?_)))
    cases h; exact eR rfl rfl
   exact lE (wi (z15 - 1)) h rfl rfl
  exact lE () h rfl rfl
 rintro ⟨⟩ h
 refine c_sr (o_mv rfl (zI rfl) ?_)
 rcases zQ h with ⟨h1, h⟩ | ⟨i2, h1, h⟩
 ·
  exact qF h
 refine o_nf 0 rfl (pq rfl h1) rfl (bi h fun x3 h4 h => o_ld (.t (.hvw (cd 11 x3.Kept.1) 0 40 1 x3.Kept.2)) rfl (zBn h4) rfl (o_1 (.i p1) rfl ?_))
 refine bi h fun x5 h6 h => bi h fun x7 h8 h => bi h fun x9 h10 h => o_of (e := [(39, .t (.hpt (cd 11 x3.Kept.1) (0 + Int.toNat p1 * 1)))]) (g0 rfl) (h_ix mR rfl rfl rfl rfl (idxV (zCM h8) h10) rfl rfl rfl) rfl (o_of (e := [(40, .y x9)]) (g0 rfl) (h_ld mR rfl rfl rfl rfl (gl_rs h6) (fl_at h10 rfl (fun _ => rfl)) rfl rfl rfl) rfl (o_1 (.y x9) rfl (zA (zF ?_))))
 cases h; exact eR rfl rfl
theorem zDc (p0 : (Option Nat)) (p1 : Int) (w0 : Hp) (r : ((List UInt8) × Int)) (h : zBP p0 p1 w0 = some r) : FCH Tryz.prog 17 [.t ((ptT 8 p0)), .t (.d (.lit (.int .i64 p1)))] [] [] (hpA w0) (hpA w0) (.tup [.d (.seq 1 (zN r.1)), .d (.lit (.int .i64 r.2))]) := by
 refine qR (rs := [.tmp 4, .tmp 5]) (n := 24) [] Tryz.func17 rfl rfl (Nat.le_of_ble_eq_true rfl) rfl (pins := []) rfl (L := [(HK, .hp (hpA w0)), (0, .t ((ptT 8 p0))), (1, .i p1)]) rfl (c_sr (o_m2 (.n) (.i 0) rfl (zA (zJ (c_sr (o_mv rfl (zI rfl) ?_))))))
 rcases zQ h with ⟨h1, h⟩ | ⟨i2, h1, h⟩
 ·
  exact qF h
 refine o_nf 3 rfl (pq rfl h1) rfl (bi h fun x3 h4 h => o_ld (.b x3.Off) rfl (zBn h4) rfl (zA ?_))
 refine c_if h rfl (fun h5 h => c_sr (o_m2 (.n) (.i 30) rfl (zA (zF ?_)))) fun h5 h => zG (zJ (c_sr (o_m3 (.i p1) (.b (decide (p1 < 0))) (.b (decide (p1 < 0))) rfl ?_)))
 ·
  cases h
  exact ⟨⟨_, rfl, (.tup (.cons (.d (.nil _)) (.cons .r .nil)))⟩, trivial, rfl⟩
 rcases zP h with ⟨h6, h⟩ | ⟨h6, h⟩
 ·
  refine o_k4 rfl h6 (o_k3 rfl h6 (o_pT (.b true) h6 rfl (zA (c_t rfl rfl (c_sr (o_m2 (.n) (.i 31) rfl (zA (zF ?_))))))))
  cases h
  exact ⟨⟨_, rfl, (.tup (.cons (.d (.nil _)) (.cons .r .nil)))⟩, trivial, rfl⟩
 refine o_s (.i p1) (gy rfl rfl rfl h6) rfl rfl rfl (o_of (e := [(14, .t (.hpt (cd 8 i2) 0))]) (gy rfl rfl rfl h6) (h_mv mR (.inl rfl) ((zI rfl).trans (qM h1)) rfl rfl) rfl (o_of (e := [(15, .t (.hpt (cd 8 i2) 0))]) (gy rfl rfl rfl h6) (h_nc mR rfl rfl rfl rfl rfl) rfl (o_of (e := [(16, .t (.hpt (cd 8 i2) 0))]) (gy rfl rfl rfl h6) (h_fd mR rfl rfl rfl rfl rfl rfl) rfl (o_of (e := [(17, .t (.hvw (cd 11 x3.Kept.1) 0 40 1 x3.Kept.2))]) (gy rfl rfl rfl h6) (h_ld mR rfl rfl rfl rfl (zBn h4) rfl rfl rfl rfl) rfl (o_of (e := [(18, .i (x3.Kept.2 : Int))]) (gy rfl rfl rfl h6) (h_ln mR rfl rfl rfl rfl rfl rfl) rfl (o_s (.b (decide (p1 ≥ (x3.Kept.2 : Int)))) (gy rfl rfl rfl h6) rfl rfl rfl (o_pF (.b (decide (p1 ≥ (x3.Kept.2 : Int)))) h6 rfl (zA ?_))))))))
 refine c_if h rfl (fun h7 h => c_sr (o_m2 (.n) (.i 31) rfl (zA (zF ?_)))) fun h7 h => zG (c_sr (o_mv rfl (pq rfl h1) (o_1 (.i p1) rfl ?_)))
 ·
  cases h
  exact ⟨⟨_, rfl, (.tup (.cons (.d (.nil _)) (.cons .r .nil)))⟩, trivial, rfl⟩
 refine bi h fun x8 h9 h => o_cR (zD7 _ _ w0 _ h9) (g0 rfl) rfl (a2 aH (aR rfl)) (r1 rfl) (o_m2 (.y x8) (.i 0) rfl (zA (zF ?_)))
 cases h; exact eR rfl rfl
theorem zEb (p0 : (Option Nat)) (w0 : Hp) (r : (Bool × Hp)) (h : zBu p0 w0 = some r) : FCH Tryz.prog 57 [.t ((ptT 8 p0))] [] [] (hpA w0) (hpA r.2) (.t (.d (.lit (.bool r.1)))) := by
 refine qR (rs := [.tmp 2]) (n := 28) [] Tryz.func57 rfl rfl (Nat.le_of_ble_eq_true rfl) rfl (pins := []) rfl (L := [(HK, .hp (hpA w0)), (0, .t ((ptT 8 p0)))]) rfl (c_sr (o_1 (.b false) rfl (zA (yY r (fun (y1 : Hp) => [(0, .t ((ptT 8 p0))), (HK, .hp (hpA y1))]) (fun y1 => zBj p0 y1) ?_ ?_))))
 ·
  refine c_sr (o_mv rfl (zI rfl) ?_)
  rcases zQ h with ⟨h12, h⟩ | ⟨i13, h12, h⟩
  ·
   exact qF h
  refine o_nf 2 rfl (pq rfl h12) rfl (bi h fun x14 h15 h => o_ld (.i x14.Fuse) rfl (zBn h15) rfl (o_1 (.b (x14.Fuse == 0)) rfl (zA (c_if h rfl (fun h16 h => zL (o_f3 3 rfl (pq rfl h12) rfl (o_sH rfl (zBn h15) (zHt (x' := (zO.mk x14.Kept x14.Wait x14.Fuse true x14.Lives)) h15) rfl rfl (zA ?_)))) fun h16 h => zG ?_))))
  ·
   exact lE (w0.st_rd i13 (zO.mk x14.Kept x14.Wait x14.Fuse true x14.Lives)) h rfl rfl
  exact lE w0 h rfl rfl
 rintro y1 h
 refine yY r (fun (y2 : Hp) => [(0, .t ((ptT 8 p0))), (HK, .hp (hpA y2))]) (fun y2 => zAw p0 y2) ?_ ?_
 ·
  refine c_sr (o_mv rfl (zI rfl) ?_)
  rcases zQ h with ⟨h7, h⟩ | ⟨i8, h7, h⟩
  ·
   exact qF h
  refine o_nf 2 rfl (pq rfl h7) rfl (bi h fun x9 h10 h => o_ld (.i x9.Fuse) rfl (zBn h10) rfl (o_1 (.b (decide (x9.Fuse ≥ 0))) rfl (zA ?_)))
  refine c_if h rfl (fun h11 h => zL (o_mv rfl (pq rfl h7) (o_f3 2 rfl (pq rfl h7) rfl (o_ld (.i x9.Fuse) rfl (zBn h10) rfl (o_1 (.i (wi (x9.Fuse - 1))) rfl (o_nf 2 rfl rfl rfl (o_sH rfl (zBn h10) (zHt (x' := (zO.mk x9.Kept x9.Wait (wi (x9.Fuse - 1)) x9.Off x9.Lives)) h10) rfl rfl ?_))))))) fun h11 h => zG ?_
  ·
   refine zA ?_
   exact lE (y1.st_rd i8 (zO.mk x9.Kept x9.Wait (wi (x9.Fuse - 1)) x9.Off x9.Lives)) h rfl rfl
  exact lE y1 h rfl rfl
 rintro y2 h
 refine c_sr (o_mv rfl (zI rfl) ?_)
 rcases zQ h with ⟨h3, h⟩ | ⟨i4, h3, h⟩
 ·
  exact qF h
 refine o_nf 3 rfl (pq rfl h3) rfl (bi h fun x5 h6 h => o_ld (.b x5.Off) rfl (zBn h6) rfl (o_1 (.b x5.Off) rfl (zA (zF ?_))))
 cases h; exact eR rfl rfl
theorem zBc (p0 : (Option Nat)) (p1 : Int) (p2 : (List UInt8)) (w0 : Hp) (r : (Int × Hp)) (h : yH p0 p1 p2 w0 = some r) : FCH Tryz.prog 29 [.t ((ptT 8 p0)), .t (.d (.lit (.int .i64 p1))), .t (.d (.seq 1 (zN p2)))] [] [] (hpA w0) (hpA r.2) (.t (.d (.lit (.int .i64 r.1)))) := by
 refine qR (rs := [.tmp 6]) (n := 41) [] Tryz.func29 rfl rfl (Nat.le_of_ble_eq_true rfl) rfl (pins := []) rfl (L := [(HK, .hp (hpA w0)), (0, .t ((ptT 8 p0))), (1, .i p1), (2, .y p2)]) rfl (c_sr (o_1 (.i 0) rfl (zA (zJ (c_sr (o_mv rfl (zI rfl) ?_))))))
 rcases zQ h with ⟨h1, h⟩ | ⟨i2, h1, h⟩
 ·
  exact qF h
 refine o_nf 3 rfl (pq rfl h1) rfl (bi h fun x3 h4 h => o_ld (.b x3.Off) rfl (zBn h4) rfl (zA ?_))
 refine c_if h rfl (fun h5 h => c_sr (o_1 (.i 30) rfl (zA (zF ?_)))) fun h5 h => zG (zJ (c_sr (o_m3 (.i p1) (.b (decide (p1 < 0))) (.b (decide (p1 < 0))) rfl ?_)))
 ·
  cases h; exact eR rfl rfl
 rcases zP h with ⟨h6, h⟩ | ⟨h6, h⟩
 ·
  refine o_k4 rfl h6 (o_k3 rfl h6 (o_pT (.b true) h6 rfl (zA (c_t rfl rfl (c_sr (o_1 (.i 31) rfl (zA (zF ?_))))))))
  cases h; exact eR rfl rfl
 refine o_s (.i p1) (gy rfl rfl rfl h6) rfl rfl rfl (o_of (e := [(15, .t (.hpt (cd 8 i2) 0))]) (gy rfl rfl rfl h6) (h_mv mR (.inl rfl) ((zI rfl).trans (qM h1)) rfl rfl) rfl (o_of (e := [(16, .t (.hpt (cd 8 i2) 0))]) (gy rfl rfl rfl h6) (h_nc mR rfl rfl rfl rfl rfl) rfl (o_of (e := [(17, .t (.hpt (cd 8 i2) 0))]) (gy rfl rfl rfl h6) (h_fd mR rfl rfl rfl rfl rfl rfl) rfl (o_of (e := [(18, .t (.hvw (cd 11 x3.Kept.1) 0 40 1 x3.Kept.2))]) (gy rfl rfl rfl h6) (h_ld mR rfl rfl rfl rfl (zBn h4) rfl rfl rfl rfl) rfl (o_of (e := [(19, .i (x3.Kept.2 : Int))]) (gy rfl rfl rfl h6) (h_ln mR rfl rfl rfl rfl rfl rfl) rfl (o_s (.b (decide (p1 ≥ (x3.Kept.2 : Int)))) (gy rfl rfl rfl h6) rfl rfl rfl (o_pF (.b (decide (p1 ≥ (x3.Kept.2 : Int)))) h6 rfl (zA ?_))))))))
 refine c_if h rfl (fun h7 h => c_sr (o_1 (.i 31) rfl (zA (zF ?_)))) fun h7 h => zG (zJ (c_sr (o_1 (.y p2) rfl (o_c (g0 rfl) rfl rfl rfl (lenE _ _) trivial (o_1 (.b ((p2.length : Int) != 64)) rfl (zA ?_))))))
 ·
  cases h; exact eR rfl rfl
 refine c_if h rfl (fun h8 h => c_sr (o_1 (.i 2) rfl (zA (zF ?_)))) fun h8 h => zG (zJ (qQ mixed (by kernel_rfl) (d_mv rfl rfl (pq rfl h1) (d_mv rfl rfl (pq rfl h1) (d_nc rfl rfl rfl (d_fd 1 rfl rfl rfl ?_))))))
 ·
  cases h; exact eR rfl rfl
 refine d_h (e := [(HK, .hp (updF (hpA w0) (cd 8 i2) (.box [.hvw (cd 11 x3.Kept.1) 0 40 1 x3.Kept.2, .d (.seq 2 (List.map yF x3.Wait)), .i x3.Fuse, .b x3.Off, .i x3.Lives]))), (29, .t (.own 97 2 (List.map yF x3.Wait)))]) (ks := [HK, 29]) rfl (dg0 rfl) rfl rfl (fun S' hM hk hok => h_htake hM hk rfl rfl rfl (zBn h4) rfl rfl rfl (hok _ rfl rfl) rfl) rfl (d_1 (.i p1) rfl rfl (d_b0 (.t (.own 5 1 (zN []))) rfl (dg0 rfl) rfl rfl rfl rfl rfl rfl (d_1 (.y p2) rfl rfl (bi h fun x9 h10 h => d_2c rfl (dg0 rfl) rfl rfl rfl rfl rfl (appE (c := cU8) h10) (appC (c := cU8) h10) (d_1 (.t (.agg [.i p1, .y x9])) rfl rfl (d_1 (.t (.own 97 2 (List.map yF [(zDX.mk p1 x9)]))) rfl rfl ?_))))))
 refine bi h fun x11 h12 h => d_2c rfl (dg0 rfl) rfl rfl rfl rfl rfl (appE (c := yF) h12) (appC (c := yF) h12) (d_nc rfl rfl rfl (d_fd 1 rfl rfl rfl (d_h (e := [(HK, .hp (hpA (w0.st_rd i2 (zO.mk x3.Kept x11 x3.Fuse x3.Off x3.Lives)))), (36, .t (.d (.seq 2 (List.map yF x11))))]) (ks := [HK, 36]) rfl (dg0 rfl) rfl rfl (fun S' hM hk hok => h_hsto hM hk rfl rfl rfl rfl rfl (if_pos rfl) rfl rfl rfl (hok _ rfl rfl) (su2_rd (x' := (zO.mk x3.Kept x11 x3.Fuse x3.Off x3.Lives)) h4)) rfl (yD (by kernel_rfl) (zJ (c_sr (o_mv rfl (pq rfl h1) ?_)))))))
 refine bi h fun x13 h14 h => o_cH (zEb _ (w0.st_rd i2 (zO.mk x3.Kept x11 x3.Fuse x3.Off x3.Lives)) _ h14) (g0 rfl) rfl (a1 aH) (r1 rfl) (zA ?_)
 refine c_if h rfl (fun h15 h => c_sr (o_1 (.i 30) rfl (zA (zF ?_)))) fun h15 h => zG (c_sr (o_1 (.i 0) rfl (zA (zF ?_))))
 ·
  cases h; exact eR rfl rfl
 cases h; exact eR rfl rfl
theorem zBa (p0 : (Option Nat)) (w0 : Hp) (r : (Int × Hp)) (h : yJ p0 w0 = some r) : FCH Tryz.prog 30 [.t ((ptT 8 p0))] [] [] (hpA w0) (hpA r.2) (.t (.d (.lit (.int .i64 r.1)))) := by
 refine qR (rs := [.tmp 2]) (n := 45) [] Tryz.func30 rfl rfl (Nat.le_of_ble_eq_true rfl) rfl (pins := []) rfl (L := [(HK, .hp (hpA w0)), (0, .t ((ptT 8 p0)))]) rfl (c_sr (o_1 (.i 0) rfl (zA (zJ (c_sr (o_mv rfl (zI rfl) ?_))))))
 rcases zQ h with ⟨h1, h⟩ | ⟨i2, h1, h⟩
 ·
  exact qF h
 refine o_nf 3 rfl (pq rfl h1) rfl (bi h fun x3 h4 h => o_ld (.b x3.Off) rfl (zBn h4) rfl (o_1 (.b x3.Off) rfl ?_))
 rcases zP h with ⟨h5, h⟩ | ⟨h5, h⟩
 ·
  refine o_k2 rfl h5 (o_pT (.b true) h5 rfl (zA (c_t rfl rfl (c_sr (o_1 (.i 30) rfl (zA (zF ?_)))))))
  cases h; exact eR rfl rfl
 refine o_of (e := [(9, .t (.hpt (cd 8 i2) 0))]) (gy rfl rfl rfl h5) (h_mv mR (.inl rfl) ((zI rfl).trans (qM h1)) rfl rfl) rfl (bi h fun x6 h7 h => o_cH (zEb _ w0 _ h7) (gy rfl rfl rfl h5) rfl (a1 aH) (r1 rfl) (o_pF (.b x6.1) h5 rfl (zA (c_if h rfl (fun h8 h => c_sr (o_1 (.i 30) rfl (zA (zF ?_)))) fun h8 h => zG ?_))))
 ·
  cases h; exact eR rfl rfl
 refine yY r (fun (y9 : Hp) => [(0, .t ((ptT 8 p0))), (HK, .hp (hpA y9))]) (fun y9 => zC3 i2 y9) ?_ ?_
 ·
  refine c_sr (o_1 (.i 0) rfl (zA (zS (c_lp (fun (q : Int × Hp) => [(0, .t ((ptT 8 p0))), (3, .i q.1), (HK, .hp (hpA q.2))]) (fun nl2 q => zBL i2 nl2 q.1 q.2) ((((x6.2).rd.map fun x => x.Wait.length).sum + 1)) (0, x6.2) h (fun _ => rfl) rfl rfl ?_))))
  rintro nl2 ⟨z12, z13⟩ h
  refine zJ (c_sr (o_1 (.i z12) rfl (o_f3 1 rfl (pq rfl h1) rfl (bi h fun x14 h15 h => o_ld (.t (.d (.seq 2 (List.map yF x14.Wait)))) rfl (zBn h15) rfl (o_c (g0 rfl) rfl rfl rfl (lenE _ _) trivial (o_1 (.b (decide (z12 < (x14.Wait.length : Int)))) rfl (zA ?_)))))))
  refine c_if h rfl (fun h16 h => zG (zJ (zS (qQ mixed (by kernel_rfl) (d_mv rfl rfl (pq rfl h1) (d_nc rfl rfl rfl (d_fd 0 rfl rfl rfl (d_ld (.t (.hvw (cd 11 x14.Kept.1) 0 40 1 x14.Kept.2)) rfl rfl (zBn h15) rfl (d_mv rfl rfl (pq rfl h1) (d_nc rfl rfl rfl ?_)))))))))) fun h16 h => zAQ ?_
  ·
   refine d_fd 1 rfl rfl rfl (d_ld (.t (.d (.seq 2 (List.map yF x14.Wait)))) rfl rfl (zBn h15) rfl (d_1 (.i z12) rfl rfl ?_))
   refine bi h fun x17 h18 h => d_c rfl (dg0 rfl) rfl rfl rfl rfl (idxE h18) (idxC h18) (d_1 (.imm [.i x17.N, .y x17.B]) rfl rfl (d_1 (.i x17.N) rfl rfl (d_mv rfl rfl (pq rfl h1) (d_nc rfl rfl rfl (d_fd 1 rfl rfl rfl (d_ld (.t (.d (.seq 2 (List.map yF x14.Wait)))) rfl rfl (zBn h15) rfl (d_1 (.i z12) rfl rfl ?_)))))))
   refine bi h fun x19 h20 h => d_c rfl (dg0 rfl) rfl rfl rfl rfl (idxE h20) (idxC h20) (d_1 (.imm [.y x19.B]) rfl rfl (d_1 (.y x19.B) rfl rfl ?_))
   refine bi h fun x21 h22 h => bi h fun x23 h24 h => bi h fun x25 h26 h => d_h0 [] (e := [(41, .t (.hpt (cd 11 x14.Kept.1) (0 + Int.toNat x17.N * 1)))]) (ks := [41]) rfl (dg0 rfl) rfl rfl (fun S' hM hok => h_ix hM rfl rfl rfl rfl (idxV (zCM h24) h26) rfl rfl (hok _ rfl rfl)) rfl (d_h (e := [(HK, .hp (hpA (z13.st_rs x14.Kept.1 (x21.set (Int.toNat x17.N) x19.B))))]) (ks := [HK]) rfl (dg0 rfl) rfl rfl (fun S' hM hk hok => h_st hM hk rfl rfl rfl rfl (gl_rs h22) rfl (by kernel_rfl) (zFZ (c := (cSl 1 cU8)) (k := 1) (q := 0) h26 (fun _ => (by kernel_rfl)) rfl) (zHk (c := (cSl 1 cU8)) (k := 1) (q := 0) h26 x19.B (fun _ => (by kernel_rfl)) (by kernel_rfl) (by kernel_rfl)) (su_rs (x' := (x21.set (Int.toNat x17.N) x19.B)) h22)) rfl (yD (by kernel_rfl) (zL (o_m3 (.i z12) (.i (wi (z12 + 1))) (.i (wi (z12 + 1))) rfl (zA ?_)))))
   exact lE ((wi (z12 + 1)), (z13.st_rs x14.Kept.1 (x21.set (Int.toNat x17.N) x19.B))) h rfl rfl
  exact lE z13 h rfl rfl
 rintro y9 h
 refine c_sr (o_f3 1 rfl (pq rfl h1) rfl (bi h fun x10 h11 h => o_of (e := [(HK, .hp (hpA (y9.st_rd i2 (zO.mk x10.Kept [] x10.Fuse x10.Off x10.Lives))))]) (g0 rfl) (h_stw mR rfl rfl rfl rfl rfl (zBn h11) rfl rfl (Nat.le_of_ble_eq_true rfl) (.cons .r (.cons (.nilOwn _ _) (.cons .r (.cons .r (.cons .r .nil))))) rfl (zHt (x' := (zO.mk x10.Kept [] x10.Fuse x10.Off x10.Lives)) h11)) rfl (zA (c_sr (o_1 (.i 0) rfl (zA (zF ?_)))))))
 cases h; exact eR rfl rfl
theorem zAp (p0 : (List UInt8)) (p1 : (List UInt8)) (r : (List UInt8)) (h : zAM p0 p1 = some r) : FC Tryz.prog 58 [.t (.d (.seq 1 (zN p0))), .t (.d (.seq 1 (zN p1)))] [] (.t (.own 5 1 (zN r))) := by
 refine zD5 (rs := [.tmp 4]) (n := 12) Tryz.func58 rfl rfl (Nat.le_of_ble_eq_true rfl) rfl (pins := []) rfl (L := [(0, .y p0), (1, .y p1)]) rfl (c_sr (o_1 (.n) rfl (zA (c_sr (o_1 (.n) rfl (zA (c_sr (o_m2 (.n) (.y p0) rfl ?_))))))))
 refine bi h fun x1 h2 h => o_c (g0 rfl) rfl rfl rfl (appE0 (c := cU8) h2) (appC0 (c := cU8) h2) (o_2 (.y x1) (.t (.own 5 1 (zN x1))) (g0 rfl) rfl rfl rfl (zA (c_sr (o_2 (.y x1) (.t (.own 5 1 (zN x1))) (g0 rfl) rfl rfl rfl (o_1 (.y p1) rfl ?_)))))
 refine bi h fun x3 h4 h => o_2c (g0 rfl) rfl rfl rfl (appE (c := cU8) h4) (appC (c := cU8) h4) (o_2 (.y x3) (.t (.own 5 1 (zN x3))) (g0 rfl) rfl rfl rfl (zA (zF ?_)))
 cases h
 exact end0 rfl .r
theorem zK6 (p0 : Int) (p1 : Int) (r : ((List UInt8) × Int)) (h : zHI p0 p1 = some r) : FC Tryz.prog 92 [.t (.d (.lit (.int .i64 p0))), .t (.d (.lit (.int .i64 p1)))] [] (.tup [.d (.seq 1 (zN r.1)), .d (.lit (.int .i64 r.2))]) := by
 refine zD5 (rs := [.tmp 4, .tmp 5]) (n := 38) Tryz.func92 rfl rfl (Nat.le_of_ble_eq_true rfl) rfl (pins := []) rfl (L := [(0, .i p0), (1, .i p1)]) rfl (c_sr (o_m2 (.n) (.i 0) rfl (zA (zJ (c_sr (o_m3 (.i p1) (.b (decide (p1 < 1))) (.b (decide (p1 < 1))) rfl ?_))))))
 rcases zP h with ⟨h1, h⟩ | ⟨h1, h⟩
 ·
  refine o_k2 rfl h1 (o_pT (.b true) h1 rfl (o_1 (.b true) rfl (o_k2 rfl rfl (o_pT (.b true) rfl rfl (o_1 (.b true) rfl (o_k2 rfl rfl ?_))))))
  refine o_pT (.b true) rfl rfl (zA (c_t rfl rfl (c_sr (o_m2 (.n) (.i 2) rfl (zA (zF ?_))))))
  cases h
  exact end0 rfl (.tup (.cons (.d (.nil _)) (.cons .r .nil)))
 refine o_s (.i p1) (gy rfl rfl rfl h1) rfl rfl rfl (o_s (.b (decide (p1 > 8))) (gy rfl rfl rfl h1) rfl rfl rfl (o_pF (.b (decide (p1 > 8))) h1 rfl (o_1 (.b (decide (p1 > 8))) rfl ?_)))
 rcases zP h with ⟨h2, h⟩ | ⟨h2, h⟩
 ·
  refine o_k2 rfl h2 (o_pT (.b true) h2 rfl (o_1 (.b true) rfl (o_k2 rfl rfl (o_pT (.b true) rfl rfl (zA (c_t rfl rfl (c_sr (o_m2 (.n) (.i 2) rfl (zA (zF ?_))))))))))
  cases h
  exact end0 rfl (.tup (.cons (.d (.nil _)) (.cons .r .nil)))
 refine o_s (.i p0) (gy rfl rfl rfl h2) rfl rfl rfl (o_s (.b (decide (p0 < 0))) (gy rfl rfl rfl h2) rfl rfl rfl (o_pF (.b (decide (p0 < 0))) h2 rfl (o_1 (.b (decide (p0 < 0))) rfl ?_)))
 rcases zP h with ⟨h3, h⟩ | ⟨h3, h⟩
 ·
  refine o_k2 rfl h3 (o_pT (.b true) h3 rfl (zA (c_t rfl rfl (c_sr (o_m2 (.n) (.i 2) rfl (zA (zF ?_)))))))
  cases h
  exact end0 rfl (.tup (.cons (.d (.nil _)) (.cons .r .nil)))
 refine o_s (.i p0) (gy rfl rfl rfl h3) rfl rfl rfl (o_s (.b (decide (p0 > 4611686018427387904))) (gy rfl rfl rfl h3) rfl rfl rfl (o_pF (.b (decide (p0 > 4611686018427387904))) h3 rfl (zA ?_)))
 refine c_if h rfl (fun h4 h => c_sr (o_m2 (.n) (.i 2) rfl (zA (zF ?_)))) fun h4 h => zG (c_sr (o_1 (.n) rfl (zA ?_)))
 ·
  cases h
  exact end0 rfl (.tup (.cons (.d (.nil _)) (.cons .r .nil)))
 refine yY r (fun (q : Int × (List UInt8)) => [(0, .i q.1), (6, .t (.own 5 1 (zN q.2)))]) (fun q => zFU q.1 q.2) ?_ ?_
 ·
  refine c_sr (o_1 (.i 0) rfl (zA (zS (zDM (fun (q : Int × (List UInt8) × Int) => [(0, .i q.1), (1, .i p1), (6, .t (.own 5 1 (zN q.2.1))), (7, .i q.2.2)]) (fun nl2 q => zDA p1 nl2 q.1 q.2.1 q.2.2) (Int.toNat p1 + 1) (p0, [], 0) [] h (fun _ => rfl) rfl trivial ⟨.r, .r, (.t (.nilOwn _ _)), .r, trivial⟩ rfl ?_))))
  rintro nl2 ⟨z8, z9, z10⟩ h
  refine zJ (c_sr (o_m3 (.i z10) (.i p1) (.b (decide (z10 < p1))) rfl (zA ?_)))
  refine c_if h rfl (fun h11 h => zG (zJ (zS (c_sr (o_2 (.y z9) (.t (.own 5 1 (zN z9))) (g0 rfl) rfl rfl rfl (o_m2 (.i z8) (.i (Int.tmod z8 256)) rfl (o_c (g0 rfl) rfl rfl rfl (congrArg (fun z => A.t (.d (.lit (.int .u8 z)))) (u8c _)) trivial ?_))))))) fun h11 h => zAQ ?_
  ·
   refine o_1 (.t (.own 5 1 (zN [(U8 (Int.tmod z8 256))]))) rfl (bi h fun x12 h13 h => o_2c (g0 rfl) rfl rfl rfl (appE (c := cU8) h13) (appC (c := cU8) h13) (o_2 (.y x12) (.t (.own 5 1 (zN x12))) (g0 rfl) rfl rfl rfl (zA (zL (o_m3 (.i z8) (.i (wi (Int.tdiv z8 256))) (.i (wi (Int.tdiv z8 256))) rfl (zA (zL (o_m3 (.i z10) (.i (wi (z10 + 1))) (.i (wi (z10 + 1))) rfl ?_))))))))
   refine zA ?_
   exact lE ((wi (Int.tdiv z8 256)), x12, (wi (z10 + 1))) h rfl rfl
  exact lE (z8, z9) h rfl rfl
 rintro ⟨y5, y6⟩ h
 refine zJ (c_sr (o_m2 (.i y5) (.b (decide (y5 > 0))) rfl (zA ?_)))
 refine c_if h rfl (fun h7 h => c_sr (o_m2 (.n) (.i 2) rfl (zA (zF ?_)))) fun h7 h => zG (c_sr (o_2 (.y y6) (.t (.own 5 1 (zN y6))) (g0 rfl) rfl rfl rfl (o_2 (.y y6) (.t (.own 5 1 (zN y6))) (g0 rfl) rfl rfl rfl (o_1 (.i 0) rfl (zA (zF ?_))))))
 ·
  cases h
  exact end0 rfl (.tup (.cons (.d (.nil _)) (.cons .r .nil)))
 cases h
 exact end0 rfl .r
theorem zIY (p0 : (List UInt8)) (r : (List UInt8)) (h : zEL p0 = some r) : FC Tryz.prog 93 [.t (.d (.seq 1 (zN p0)))] [] (.t (.own 5 1 (zN r))) := by
 refine zD5 (rs := [.tmp 2]) (n := 20) Tryz.func93 rfl rfl (Nat.le_of_ble_eq_true rfl) rfl (pins := []) rfl (L := [(0, .y p0)]) rfl (c_sr (o_1 (.n) rfl (zA (c_sr (o_1 (.n) rfl (zA (zJ (c_sr ?_))))))))
 refine o_1 (.y p0) rfl (o_c (g0 rfl) rfl rfl rfl (lenE _ _) trivial (o_m2 (.i (wi ((p0.length : Int) - 1))) (.i (wi ((p0.length : Int) - 1))) rfl (zA (zS (zDM (fun (q : (List UInt8) × Int) => [(0, .y p0), (3, .t (.own 5 1 (zN q.1))), (4, .i q.2)]) (fun nl1 q => zCc p0 nl1 q.1 q.2) (Int.toNat (wi ((p0.length : Int) - 1)) + 2) ([], (wi ((p0.length : Int) - 1))) [] h (fun _ => rfl) rfl trivial ⟨.r, (.t (.nilOwn _ _)), .r, trivial⟩ rfl ?_)))))
 rintro nl1 ⟨z1, z2⟩ h
 refine zJ (c_sr (o_m2 (.i z2) (.b (decide (z2 ≥ 0))) rfl (zA ?_)))
 refine c_if h rfl (fun h3 h => zG (zJ (zS (zL (o_2 (.y z1) (.t (.own 5 1 (zN z1))) (g0 rfl) rfl rfl rfl (o_m2 (.y p0) (.i z2) rfl ?_)))))) fun h3 h => zAQ (c_sr (o_2 (.y z1) (.t (.own 5 1 (zN z1))) (g0 rfl) rfl rfl rfl (o_2 (.y z1) (.t (.own 5 1 (zN z1))) (g0 rfl) rfl rfl rfl (zA (zF ?_)))))
 ·
  refine bi h fun x4 h5 h => o_c (g0 rfl) rfl rfl rfl (idxE h5) (idxC h5) (o_m2 (.t (.d (.lit (.int .u8 (x4.toNat : Int))))) (.t (.own 5 1 (zN [x4]))) rfl (bi h fun x6 h7 h => o_2c (g0 rfl) rfl rfl rfl (appE (c := cU8) h7) (appC (c := cU8) h7) (o_2 (.y x6) (.t (.own 5 1 (zN x6))) (g0 rfl) rfl rfl rfl (zA (zL (o_m3 (.i z2) (.i (wi (z2 - 1))) (.i (wi (z2 - 1))) rfl (zA ?_)))))))
  exact lE (x6, (wi (z2 - 1))) h rfl rfl
 cases h
 exact end0 rfl .r
theorem zKt (p0 : Int) (p1 : Int) (r : ((List UInt8) × Int)) (h : zGG p0 p1 = some r) : FC Tryz.prog 78 [.t (.d (.lit (.int .i64 p0))), .t (.d (.lit (.int .i64 p1)))] [] (.tup [.d (.seq 1 (zN r.1)), .d (.lit (.int .i64 r.2))]) := by
 refine zD5 (rs := [.tmp 4, .tmp 5]) (n := 17) Tryz.func78 rfl rfl (Nat.le_of_ble_eq_true rfl) rfl (pins := []) rfl (L := [(0, .i p0), (1, .i p1)]) rfl (c_sr (o_m2 (.n) (.i 0) rfl (zA (c_sr (o_m2 (.i p0) (.i p1) rfl (bi h fun x1 h2 h => o_cA (zK6 _ _ _ h2) (g0 rfl) rfl (.cons .r (.cons .r .nil)) rfl (o_m5 (.tup [.y x1.1, .i x1.2]) (.y x1.1) (.i x1.2) (.y x1.1) (.i x1.2) rfl (zA (c_sr (o_1 (.y x1.1) rfl ?_))))))))))
 refine bi h fun x3 h4 h => o_cA (zIY _ _ h4) (g0 rfl) rfl (.cons .r .nil) rfl (o_1 (.i x1.2) rfl (o_2 (.y x3) (.t (.own 5 1 (zN x3))) (g0 rfl) rfl rfl rfl (o_1 (.i x1.2) rfl (zA (zF ?_)))))
 cases h
 exact end0 rfl .r
theorem zCn (p0 : Int) (p1 : Int) (r : (List UInt8)) (h : zBf p0 p1 = some r) : FC Tryz.prog 59 [.t (.d (.lit (.int .i64 p0))), .t (.d (.lit (.int .i64 p1)))] [] (.t (.d (.seq 1 (zN r)))) := by
 refine zD5 (rs := [.tmp 4]) (n := 14) Tryz.func59 rfl rfl (Nat.le_of_ble_eq_true rfl) rfl (pins := []) rfl (L := [(0, .i p0), (1, .i p1)]) rfl (c_sr (o_1 (.n) rfl (zA (c_sr (o_m2 (.i p0) (.i p1) rfl ?_)))))
 refine bi h fun x1 h2 h => o_cA (zKt _ _ _ h2) (g0 rfl) rfl (.cons .r (.cons .r .nil)) rfl (o_m5 (.tup [.y x1.1, .i x1.2]) (.y x1.1) (.i x1.2) (.y x1.1) (.i x1.2) rfl (zA (c_sr (o_m2 (.y x1.1) (.y x1.1) rfl (zA (zF ?_))))))
 cases h
 exact end0 rfl .r
theorem zFL (p0 : Int) (p1 : Int) (w0 : Hp) (r : (List UInt8)) (h : zDV p0 p1 = some r) : FCH Tryz.prog 31 [.t (.d (.lit (.int .i64 p0))), .t (.d (.lit (.int .i64 p1)))] [] [] (hpA w0) (hpA w0) (.t (.own 5 1 (zN r))) := by
 refine qR (rs := [.tmp 4]) (n := 17) [0] Tryz.func31 rfl rfl (Nat.le_of_ble_eq_true rfl) rfl (pins := []) rfl (L := [(HK, .hp (hpA w0)), (OB + 0, .free), (0, .i p0), (1, .i p1)]) rfl (c_sr (o_1 (.n) rfl (zA (c_sr (o_1 (.i p0) rfl (bi h fun x1 h2 h => o_cA (zCn _ _ _ h2) (g0 rfl) rfl (.cons .r (.cons .r .nil)) rfl (o_1 (.i p1) rfl (bi h fun x3 h4 h => o_cA (zCn _ _ _ h4) (g0 rfl) rfl (.cons .r (.cons .r .nil)) rfl ?_))))))))
 refine bi h fun x5 h6 h => o_cA (zAp _ _ _ h6) (g0 rfl) rfl (.cons .r (.cons .r .nil)) rfl (o_2 (.y x5) (.t (.own 5 1 (zN x5))) (g0 rfl) rfl rfl rfl (zA (c_sr (o_2 (.y x5) (.t (.own 5 1 (zN x5))) (g0 rfl) rfl rfl rfl (bi h fun x7 h8 h => o_of (e := [(12, .t (.own 5 1 (zN (List.replicate x7 (0 : UInt8)))))]) (g0 rfl) (zJt (c := cU8) mR rfl rfl rfl rfl rfl rfl rfl rfl rfl h8 (by first | (unfold zN; rw [List.map_replicate]; rfl) | (rw [List.map_replicate]; rfl)) rfl rfl) rfl (bi h fun x9 h10 h => o_cA (zAp _ _ _ h10) (g0 rfl) rfl (.cons .r (.cons .r .nil)) rfl (o_1 (.i p0) rfl ?_)))))))
 refine bi h fun x11 h12 h => o_cA (zCn _ _ _ h12) (g0 rfl) rfl (.cons .r (.cons .r .nil)) rfl (bi h fun x13 h14 h => o_cA (zAp _ _ _ h14) (g0 rfl) rfl (.cons .r (.cons .r .nil)) rfl (o_2 (.y x13) (.t (.own 5 1 (zN x13))) (g0 rfl) rfl rfl rfl (zA (zF ?_))))
 cases h; exact eR rfl rfl
theorem zHr (p0 : (Option Nat)) (p1 : Int) (w0 : Hp) (r : (Int × Hp)) (h : zDi p0 p1 w0 = some r) : FCH Tryz.prog 8 [.t ((ptT 8 p0)), .t (.d (.lit (.int .i64 p1)))] [] [] (hpA w0) (hpA r.2) (.t (.d (.lit (.int .i64 r.1)))) := by
 refine qR (rs := [.tmp 4]) (n := 47) [0] Tryz.func8 rfl rfl (Nat.le_of_ble_eq_true rfl) rfl (pins := []) rfl (L := [(HK, .hp (hpA w0)), (OB + 0, .free), (0, .t ((ptT 8 p0))), (1, .i p1)]) rfl (c_sr (o_1 (.i 0) rfl (zA (zJ (c_sr (o_m3 (.i p1) (.b (decide (p1 < 3))) (.b (decide (p1 < 3))) rfl ?_))))))
 rcases zP h with ⟨h1, h⟩ | ⟨h1, h⟩
 ·
  refine o_k4 rfl h1 (o_k4 rfl h1 (o_pT (.b true) h1 rfl (zA (c_t rfl rfl (c_sr (o_1 (.i 2) rfl (zA (zF ?_))))))))
  cases h; exact eR rfl rfl
 refine o_s (.i p1) (gy rfl rfl rfl h1) rfl rfl rfl (o_of (e := [(12, .t ((ptT 8 p0)))]) (gy rfl rfl rfl h1) (h_mv mR (.inl rfl) (zI rfl) rfl rfl) rfl ?_)
 rcases zQ h with ⟨h2, h⟩ | ⟨i3, h2, h⟩
 ·
  exact qF h
 refine o_of (e := [(13, .t (.hpt (cd 8 i3) 0))]) (gy rfl rfl rfl h1) (h_nc mR rfl (zI rfl) (zCx h2) rfl rfl) rfl (o_of (e := [(14, .t (.hpt (cd 8 i3) 0))]) (gy rfl rfl rfl h1) (h_fd mR rfl rfl rfl rfl rfl rfl) rfl (bi h fun x4 h5 h => o_of (e := [(15, .t (.hvw (cd 11 x4.Kept.1) 0 40 1 x4.Kept.2))]) (gy rfl rfl rfl h1) (h_ld mR rfl rfl rfl rfl (zBn h5) rfl rfl rfl rfl) rfl (o_of (e := [(16, .i (x4.Kept.2 : Int))]) (gy rfl rfl rfl h1) (h_ln mR rfl rfl rfl rfl rfl rfl) rfl (o_s (.i (wi ((x4.Kept.2 : Int) - 3))) (gy rfl rfl rfl h1) rfl rfl rfl (o_s (.b (decide (p1 > (wi ((x4.Kept.2 : Int) - 3))))) (gy rfl rfl rfl h1) rfl rfl rfl (o_pF (.b (decide (p1 > (wi ((x4.Kept.2 : Int) - 3))))) h1 rfl (zA ?_)))))))
 refine c_if h rfl (fun h6 h => c_sr (o_1 (.i 2) rfl (zA (zF ?_)))) fun h6 h => zG ?_
 ·
  cases h; exact eR rfl rfl
 refine yY r (fun (y7 : Hp) => [(0, .t ((ptT 8 p0))), (1, .i p1), (HK, .hp (hpA y7)), (OB + 0, .free)]) (fun y7 => zDG i3 p1 y7) ?_ ?_
 ·
  refine c_sr (o_1 (.i 1) rfl (zA (zS (c_lp (fun (q : Int × Hp) => [(0, .t ((ptT 8 p0))), (1, .i p1), (5, .i q.1), (HK, .hp (hpA q.2)), (OB + 0, .free)]) (fun nl2 q => zCd p1 i3 nl2 q.1 q.2) (Int.toNat (wi (p1 + 2)) + 1) (1, w0) h (fun _ => rfl) rfl rfl ?_))))
  rintro nl2 ⟨z18, z19⟩ h
  refine zJ (c_sr (o_m4 (.i z18) (.i p1) (.i (wi (p1 + 2))) (.b (decide (z18 < (wi (p1 + 2))))) rfl (zA ?_)))
  refine c_if h rfl (fun h20 h => zG (zJ (zS (c_sr (o_mv rfl (pq rfl h2) (o_1 (.i z18) rfl ?_)))))) fun h20 h => zAQ ?_
  ·
   refine bi h fun x21 h22 h => o_of (e := [(28, .t (.own 5 1 (zN (List.replicate x21 (0 : UInt8)))))]) (g0 rfl) (zJt (c := cU8) mR rfl rfl rfl rfl rfl rfl rfl rfl rfl h22 (by first | (unfold zN; rw [List.map_replicate]; rfl) | (rw [List.map_replicate]; rfl)) rfl rfl) rfl (bi h fun x23 h24 h => o_cH (zBc _ _ _ z19 _ h24) (g0 rfl) rfl (a3 aH (aR rfl) (aR rfl)) (r1 rfl) (o_1 (.i x23.1) rfl (zA (c_sr (o_m2 (.i x23.1) (.b (x23.1 != 0)) rfl (zA ?_))))))
   refine c_if h rfl (fun h25 h => c_sr (o_m2 (.i x23.1) (.i x23.1) rfl (zA (zF ?_)))) fun h25 h => zG (zL (o_m3 (.i z18) (.i (wi (z18 + 1))) (.i (wi (z18 + 1))) rfl (zA ?_)))
   ·
    cases h; exact eR rfl rfl
   exact lE ((wi (z18 + 1)), x23.2) h rfl rfl
  exact lE z19 h rfl rfl
 rintro y7 h
 refine c_sr (o_mv rfl (pq rfl h2) (bi h fun x8 h9 h => o_cH (zBa _ y7 _ h9) (g0 rfl) rfl (a1 aH) (r1 rfl) (o_1 (.i x8.1) rfl (zA (zJ (c_sr (o_m2 (.i x8.1) (.b (x8.1 != 0)) rfl (zA ?_))))))))
 refine c_if h rfl (fun h10 h => c_sr (o_m2 (.i x8.1) (.i x8.1) rfl (zA (zF ?_)))) fun h10 h => zG (c_sr (o_mv rfl (pq rfl h2) (o_1 (.i p1) rfl ?_)))
 ·
  cases h; exact eR rfl rfl
 refine bi h fun x11 h12 h => o_cR (zFL _ _ x8.2 _ h12) (g0 rfl) rfl (a2 (aR rfl) (aR rfl)) (r1 rfl) (bi h fun x13 h14 h => o_cH (zBc _ _ _ x8.2 _ h14) (g0 rfl) rfl (a3 aH (aR rfl) (aR rfl)) (r1 rfl) (o_1 (.i x13.1) rfl (zA (zJ (c_sr (o_m2 (.i x13.1) (.b (x13.1 != 0)) rfl (zA ?_)))))))
 refine c_if h rfl (fun h15 h => c_sr (o_m2 (.i x13.1) (.i x13.1) rfl (zA (zF ?_)))) fun h15 h => zG (c_sr (o_mv rfl (pq rfl h2) ?_))
 ·
  cases h; exact eR rfl rfl
 refine bi h fun x16 h17 h => o_cH (zBa _ x13.2 _ h17) (g0 rfl) rfl (a1 aH) (r1 rfl) (o_1 (.i x16.1) rfl (zA (zF ?_)))
 cases h; exact eR rfl rfl
theorem zCg (p0 : (Option Nat)) (w0 : Hp) (r : Int) (h : zAd p0 w0 = some r) : FCH Tryz.prog 60 [.t ((ptT 9 p0))] [] [] (hpA w0) (hpA w0) (.t (.d (.lit (.int .i64 r)))) := by
 refine qR (rs := [.tmp 2]) (n := 24) [] Tryz.func60 rfl rfl (Nat.le_of_ble_eq_true rfl) rfl (pins := []) rfl (L := [(HK, .hp (hpA w0)), (0, .t ((ptT 9 p0)))]) rfl (c_sr (o_1 (.i 0) rfl (zA (zJ (zJ (qQ mixed (by kernel_rfl) ?_))))))
 rcases zQ h with ⟨h1, h⟩ | ⟨i2, h1, h⟩
 ·
  refine d_mv rfl rfl ((zI rfl).trans (qL h1)) ?_
  exact qF h
 refine d_mv rfl rfl (pq rfl h1) (d_nc rfl rfl rfl (d_fd 0 rfl rfl rfl (bi h fun x3 h4 h => d_h (e := [(6, .t ((ptT 8 x3.D)))]) (ks := [6]) rfl (dg0 rfl) rfl rfl (fun S' hM hk hok => h_ld hM hk rfl rfl rfl (zAi h4) rfl (qI _ _) rfl (hok _ rfl rfl)) rfl ?_)))
 rcases zQ h with ⟨h5, h⟩ | ⟨i6, h5, h⟩
 ·
  exact qF h
 refine d_nc rfl rfl (pq rfl h5) (d_fd 3 rfl rfl rfl (bi h fun x7 h8 h => d_ld (.b x7.Off) rfl rfl (zBn h8) rfl (d_1 (.b x7.Off) rfl rfl ?_)))
 rcases zP h with ⟨h9, h⟩ | ⟨h9, h⟩
 ·
  refine d_k1 rfl rfl h9 (d_k1 rfl rfl h9 (d_k1 rfl rfl h9 (d_k1 rfl rfl h9 (d_k1 rfl rfl h9 (d_k1 rfl rfl h9 (d_k1 rfl rfl h9 (d_k1 rfl rfl h9 (d_k1 rfl rfl h9 (d_k1 rfl rfl h9 (d_k1 rfl rfl h9 (d_k1 rfl rfl h9 ?_)))))))))))
  refine d_pT (.b true) h9 rfl rfl (yD (by kernel_rfl) (c_t rfl rfl (c_sr (o_1 (.i 30) rfl (zA (zF ?_))))))
  cases h; exact eR rfl rfl
 refine d_h0 [] (e := [(11, .t (.hpt (cd 9 i2) 0))]) (ks := [11]) rfl (dgy rfl rfl rfl rfl h9) rfl rfl (fun S' hM hok => h_mv hM (.inl rfl) ((zI rfl).trans (qM h1)) rfl (hok _ rfl rfl)) rfl (d_h0 [] (e := [(12, .t (.hpt (cd 9 i2) 0))]) (ks := [12]) rfl (dgy rfl rfl rfl rfl h9) rfl rfl (fun S' hM hok => h_nc hM rfl rfl rfl rfl (hok _ rfl rfl)) rfl (d_h0 [] (e := [(13, .t (.hpt (cd 9 i2) 0))]) (ks := [13]) rfl (dgy rfl rfl rfl rfl h9) rfl rfl (fun S' hM hok => h_fd hM rfl rfl rfl rfl rfl (hok _ rfl rfl)) rfl (d_h (e := [(14, .t ((ptT 8 x3.D)))]) (ks := [14]) rfl (dgy rfl rfl rfl rfl h9) rfl rfl (fun S' hM hk hok => h_ld hM hk rfl rfl rfl (zAi h4) rfl (qI _ _) rfl (hok _ rfl rfl)) rfl (d_h0 [] (e := [(15, .t (.hpt (cd 8 i6) 0))]) (ks := [15]) rfl (dgy rfl rfl rfl rfl h9) rfl rfl (fun S' hM hok => h_nc hM rfl (zI rfl) (zCx h5) rfl (hok _ rfl rfl)) rfl (d_h0 [] (e := [(16, .t (.hpt (cd 8 i6) 4))]) (ks := [16]) rfl (dgy rfl rfl rfl rfl h9) rfl rfl (fun S' hM hok => h_fd hM rfl rfl rfl rfl rfl (hok _ rfl rfl)) rfl (d_h (e := [(17, .i x7.Lives)]) (ks := [17]) rfl (dgy rfl rfl rfl rfl h9) rfl rfl (fun S' hM hk hok => h_ld hM hk rfl rfl rfl (zBn h8) rfl rfl rfl (hok _ rfl rfl)) rfl (d_h0 [] (e := [(18, .t (.hpt (cd 9 i2) 0))]) (ks := [18]) rfl (dgy rfl rfl rfl rfl h9) rfl rfl (fun S' hM hok => h_mv hM (.inl rfl) ((zI rfl).trans (qM h1)) rfl (hok _ rfl rfl)) rfl ?_)))))))
 refine d_h0 [] (e := [(19, .t (.hpt (cd 9 i2) 0))]) (ks := [19]) rfl (dgy rfl rfl rfl rfl h9) rfl rfl (fun S' hM hok => h_nc hM rfl rfl rfl rfl (hok _ rfl rfl)) rfl (d_h0 [] (e := [(20, .t (.hpt (cd 9 i2) 5))]) (ks := [20]) rfl (dgy rfl rfl rfl rfl h9) rfl rfl (fun S' hM hok => h_fd hM rfl rfl rfl rfl rfl (hok _ rfl rfl)) rfl (d_h (e := [(21, .i x3.Life)]) (ks := [21]) rfl (dgy rfl rfl rfl rfl h9) rfl rfl (fun S' hM hk hok => h_ld hM hk rfl rfl rfl (zAi h4) rfl rfl rfl (hok _ rfl rfl)) rfl (d_s (.b (x7.Lives != x3.Life)) rfl (dgy rfl rfl rfl rfl h9) rfl rfl rfl rfl (d_pF (.b (x7.Lives != x3.Life)) h9 rfl rfl (yD (by kernel_rfl) ?_)))))
 refine c_if h rfl (fun h10 h => c_sr (o_1 (.i 30) rfl (zA (zF ?_)))) fun h10 h => zG (c_sr (o_1 (.i 0) rfl (zA (zF ?_))))
 ·
  cases h; exact eR rfl rfl
 cases h; exact eR rfl rfl
theorem zCJ (p0 : (Option Nat)) (w0 : Hp) (r : (Int × Hp)) (h : qG p0 w0 = some r) : FCH Tryz.prog 35 [.t ((ptT 9 p0))] [] [] (hpA w0) (hpA r.2) (.t (.d (.lit (.int .i64 r.1)))) := by
 refine qR (rs := [.tmp 2]) (n := 85) [] Tryz.func35 rfl rfl (Nat.le_of_ble_eq_true rfl) rfl (pins := []) rfl (L := [(HK, .hp (hpA w0)), (0, .t ((ptT 9 p0)))]) rfl (c_sr (o_1 (.i 0) rfl (zA (c_sr (o_mv rfl (zI rfl) ?_)))))
 refine bi h fun x1 h2 h => o_cR (zCg _ w0 _ h2) (g0 rfl) rfl (a1 (qO rfl)) (r1 rfl) (o_1 (.i x1) rfl (zA (zJ (c_sr (o_m2 (.i x1) (.b (x1 != 0)) rfl (zA ?_))))))
 refine c_if h rfl (fun h3 h => c_sr (o_m2 (.i x1) (.i x1) rfl (zA (zF ?_)))) fun h3 h => zG (zJ (zJ (qQ mixed (by kernel_rfl) ?_)))
 ·
  cases h; exact eR rfl rfl
 rcases zQ h with ⟨h4, h⟩ | ⟨i5, h4, h⟩
 ·
  refine d_mv rfl rfl ((zI rfl).trans (qL h4)) ?_
  exact qF h
 refine d_mv rfl rfl (pq rfl h4) (d_nc rfl rfl rfl (d_fd 2 rfl rfl rfl ?_))
 refine bi h fun x6 h7 h => d_ld (.i x6.Base) rfl rfl (zAi h7) rfl (d_mv rfl rfl (pq rfl h4) (d_nc rfl rfl rfl (d_fd 1 rfl rfl rfl (d_ld (.i x6.Size) rfl rfl (zAi h7) rfl (d_1 (.i (wi (2305843009213693952 - x6.Size))) rfl rfl (d_1 (.b (decide (x6.Base > (wi (2305843009213693952 - x6.Size))))) rfl rfl (yD (by kernel_rfl) ?_)))))))
 refine c_if h rfl (fun h8 h => c_sr (o_1 (.i 3) rfl (zA (zF ?_)))) fun h8 h => zG (c_sr (o_f3 0 rfl (pq rfl h4) rfl (o_of (e := [(22, .t ((ptT 8 x6.D)))]) (g0 rfl) (h_ld mR rfl rfl rfl rfl (zAi h7) rfl (qI _ _) rfl rfl) rfl ?_)))
 ·
  cases h; exact eR rfl rfl
 refine bi h fun x9 h10 h => o_cH (zBa _ w0 _ h10) (g0 rfl) rfl (a1 (qO rfl)) (r1 rfl) (o_1 (.i x9.1) rfl (zA (zJ (c_sr (o_m2 (.i x9.1) (.b (x9.1 != 0)) rfl (zA ?_))))))
 refine c_if h rfl (fun h11 h => c_sr (o_m2 (.i x9.1) (.i x9.1) rfl (zA (zF ?_)))) fun h11 h => zG (zJ (qQ mixed (by kernel_rfl) (d_mv rfl rfl (pq rfl h4) (d_nc rfl rfl rfl (d_fd 0 rfl rfl rfl ?_)))))
 ·
  cases h; exact eR rfl rfl
 refine bi h fun x12 h13 h => d_h (e := [(30, .t ((ptT 8 x12.D)))]) (ks := [30]) rfl (dg0 rfl) rfl rfl (fun S' hM hk hok => h_ld hM hk rfl rfl rfl (zAi h13) rfl (qI _ _) rfl (hok _ rfl rfl)) rfl (d_mv rfl rfl (pq rfl h4) (d_nc rfl rfl rfl (d_fd 3 rfl rfl rfl (d_ld (.i x12.Slot) rfl rfl (zAi h13) rfl (d_1 (.i (wi (1 - x12.Slot))) rfl rfl (d_mv rfl rfl (pq rfl h4) (d_nc rfl rfl rfl (d_fd 2 rfl rfl rfl (d_ld (.i x12.Base) rfl rfl (zAi h13) rfl (d_mv rfl rfl (pq rfl h4) (d_nc rfl rfl rfl (d_fd 1 rfl rfl rfl ?_))))))))))))
 refine d_ld (.i x12.Size) rfl rfl (zAi h13) rfl (d_1 (.i (wi (x12.Base + x12.Size))) rfl rfl (d_mv rfl rfl (pq rfl h4) (d_nc rfl rfl rfl (d_fd 1 rfl rfl rfl (d_ld (.i x12.Size) rfl rfl (zAi h13) rfl (bi h fun x14 h15 h => d_cR (zFL _ _ x9.2 _ h15) rfl (dg0 rfl) rfl (a2 (aR rfl) (aR rfl)) (r1 rfl) ?_))))))
 refine bi h fun x16 h17 h => d_cH (zBc _ _ _ x9.2 _ h17) rfl (dg0 rfl) rfl (a3 (qO rfl) (aR rfl) (aR rfl)) (r1 rfl) (d_1 (.i x16.1) rfl rfl (yD (by kernel_rfl) (zJ (c_sr (o_m2 (.i x16.1) (.b (x16.1 != 0)) rfl (zA ?_))))))
 refine c_if h rfl (fun h18 h => c_sr (o_m2 (.i x16.1) (.i x16.1) rfl (zA (zF ?_)))) fun h18 h => zG (c_sr (o_f3 0 rfl (pq rfl h4) rfl ?_))
 ·
  cases h; exact eR rfl rfl
 refine bi h fun x19 h20 h => o_of (e := [(57, .t ((ptT 8 x19.D)))]) (g0 rfl) (h_ld mR rfl rfl rfl rfl (zAi h20) rfl (qI _ _) rfl rfl) rfl (bi h fun x21 h22 h => o_cH (zBa _ x16.2 _ h22) (g0 rfl) rfl (a1 (qO rfl)) (r1 rfl) (o_1 (.i x21.1) rfl (zA (zJ (c_sr (o_m2 (.i x21.1) (.b (x21.1 != 0)) rfl (zA ?_)))))))
 refine c_if h rfl (fun h23 h => c_sr (o_m2 (.i x21.1) (.i x21.1) rfl (zA (zF ?_)))) fun h23 h => zG (c_sr (o_mv rfl (pq rfl h4) (o_f3 3 rfl (pq rfl h4) rfl ?_)))
 ·
  cases h; exact eR rfl rfl
 refine bi h fun x24 h25 h => o_ld (.i x24.Slot) rfl (zAi h25) rfl (o_1 (.i (wi (1 - x24.Slot))) rfl (o_nf 3 rfl rfl rfl (o_sH rfl (zAi h25) (zJT (x' := (zT.mk x24.D x24.Size x24.Base (wi (1 - x24.Slot)) x24.Used x24.Life x24.Commits)) h25) rfl rfl (zA (zJ (qQ mixed (by kernel_rfl) (d_mv rfl rfl (pq rfl h4) (d_mv rfl rfl (pq rfl h4) (d_nc rfl rfl rfl (d_fd 2 rfl rfl rfl (d_ld (.i ((zT.mk x24.D x24.Size x24.Base (wi (1 - x24.Slot)) x24.Used x24.Life x24.Commits).Base)) rfl rfl (zAi (zR h25)) rfl (d_mv rfl rfl (pq rfl h4) ?_))))))))))))
 refine d_nc rfl rfl rfl (d_fd 1 rfl rfl rfl (d_ld (.i ((zT.mk x24.D x24.Size x24.Base (wi (1 - x24.Slot)) x24.Used x24.Life x24.Commits).Size)) rfl rfl (zAi (zR h25)) rfl (d_1 (.i (wi (((zT.mk x24.D x24.Size x24.Base (wi (1 - x24.Slot)) x24.Used x24.Life x24.Commits).Base) + ((zT.mk x24.D x24.Size x24.Base (wi (1 - x24.Slot)) x24.Used x24.Life x24.Commits).Size)))) rfl rfl (d_nc rfl rfl rfl (d_fd 2 rfl rfl rfl (d_h (e := [(HK, .hp (hpA ((x21.2.st_rl i5 (zT.mk x24.D x24.Size x24.Base (wi (1 - x24.Slot)) x24.Used x24.Life x24.Commits)).st_rl i5 (zT.mk x24.D x24.Size (wi (((zT.mk x24.D x24.Size x24.Base (wi (1 - x24.Slot)) x24.Used x24.Life x24.Commits).Base) + ((zT.mk x24.D x24.Size x24.Base (wi (1 - x24.Slot)) x24.Used x24.Life x24.Commits).Size))) (wi (1 - x24.Slot)) x24.Used x24.Life x24.Commits))))]) (ks := [HK]) rfl (dg0 rfl) rfl rfl (fun S' hM hk hok => h_st hM hk rfl rfl rfl rfl (zAi (zR h25)) rfl rfl (Nat.le_of_ble_eq_true rfl) rfl (zJT (x' := (zT.mk x24.D x24.Size (wi (((zT.mk x24.D x24.Size x24.Base (wi (1 - x24.Slot)) x24.Used x24.Life x24.Commits).Base) + ((zT.mk x24.D x24.Size x24.Base (wi (1 - x24.Slot)) x24.Used x24.Life x24.Commits).Size))) (wi (1 - x24.Slot)) x24.Used x24.Life x24.Commits)) (zR h25))) rfl (yD (by kernel_rfl) ?_)))))))
 refine c_sr (o_f3 4 rfl (pq rfl h4) rfl (o_sH rfl (zAi (zR (zR h25))) (zJT (x' := (zT.mk x24.D x24.Size (wi (((zT.mk x24.D x24.Size x24.Base (wi (1 - x24.Slot)) x24.Used x24.Life x24.Commits).Base) + ((zT.mk x24.D x24.Size x24.Base (wi (1 - x24.Slot)) x24.Used x24.Life x24.Commits).Size))) (wi (1 - x24.Slot)) 0 x24.Life x24.Commits)) (zR (zR h25))) rfl rfl (zA (c_sr (o_1 (.i 0) rfl (zA (zF ?_)))))))
 cases h; exact eR rfl rfl
theorem zEt (p0 : (Option Nat)) (p1 : (List zC)) (w0 : Hp) (r : (Int × Hp)) (h : zBm p0 p1 w0 = some r) : FCH Tryz.prog 62 [.t ((ptT 9 p0)), .t (.d (.seq 2 (List.map zB p1)))] [] [] (hpA w0) (hpA r.2) (.t (.d (.lit (.int .i64 r.1)))) := by
 refine qR (rs := [.tmp 4]) (n := 37) [] Tryz.func62 rfl rfl (Nat.le_of_ble_eq_true rfl) rfl (pins := []) rfl (L := [(HK, .hp (hpA w0)), (0, .t ((ptT 9 p0))), (1, .t (.d (.seq 2 (List.map zB p1))))]) rfl (c_sr (o_1 (.i 0) rfl (zA (zJ (c_sr (o_1 (.i 0) rfl (zA (zS (c_lp (fun (q : Int × Hp) => [(0, .t ((ptT 9 p0))), (1, .t (.d (.seq 2 (List.map zB p1)))), (5, .i q.1), (HK, .hp (hpA q.2))]) (fun nl1 q => zBC p1 p0 nl1 q.1 q.2) (p1.length + 1) (0, w0) h (fun _ => rfl) rfl rfl ?_)))))))))
 rintro nl1 ⟨z1, z2⟩ h
 refine zJ (c_sr (o_m2 (.i z1) (.t (.d (.seq 2 (List.map zB p1)))) rfl (o_c (g0 rfl) rfl rfl rfl (lenE _ _) trivial (o_1 (.b (decide (z1 < (p1.length : Int)))) rfl (zA ?_)))))
 refine c_if h rfl (fun h3 h => zG (zJ (zS (zJ (qQ mixed (by kernel_rfl) ?_))))) fun h3 h => zAQ (c_sr (o_1 (.i 0) rfl (zA (zF ?_))))
 ·
  rcases zQ h with ⟨h4, h⟩ | ⟨i5, h4, h⟩
  ·
   refine d_mv rfl rfl ((zI rfl).trans (qL h4)) ?_
   exact qF h
  refine d_mv rfl rfl (pq rfl h4) (d_nc rfl rfl rfl (d_fd 0 rfl rfl rfl ?_))
  refine bi h fun x6 h7 h => d_h (e := [(16, .t ((ptT 8 x6.D)))]) (ks := [16]) rfl (dg0 rfl) rfl rfl (fun S' hM hk hok => h_ld hM hk rfl rfl rfl (zAi h7) rfl (qI _ _) rfl (hok _ rfl rfl)) rfl (d_mv rfl rfl (pq rfl h4) (d_nc rfl rfl rfl (d_fd 1 rfl rfl rfl (d_ld (.i x6.Size) rfl rfl (zAi h7) rfl (d_1 (.i (wi (2 + x6.Size))) rfl rfl (d_1 (.t (.d (.seq 2 (List.map zB p1)))) rfl rfl (d_1 (.i z1) rfl rfl ?_)))))))
  refine bi h fun x8 h9 h => d_c rfl (dg0 rfl) rfl rfl rfl rfl (idxE h9) (idxC h9) (d_1 (.imm [.i x8.Home, .y x8.Data]) rfl rfl (d_1 (.i x8.Home) rfl rfl (d_1 (.i (wi ((wi (2 + x6.Size)) + x8.Home))) rfl rfl (d_1 (.t (.d (.seq 2 (List.map zB p1)))) rfl rfl (d_1 (.i z1) rfl rfl (bi h fun x10 h11 h => d_c rfl (dg0 rfl) rfl rfl rfl rfl (idxE h11) (idxC h11) (d_1 (.imm [.y x10.Data]) rfl rfl (d_1 (.y x10.Data) rfl rfl ?_))))))))
  refine bi h fun x12 h13 h => d_cH (zBc _ _ _ z2 _ h13) rfl (dg0 rfl) rfl (a3 (qO rfl) (aR rfl) (aR rfl)) (r1 rfl) (d_1 (.i x12.1) rfl rfl (yD (by kernel_rfl) (c_sr (o_m2 (.i x12.1) (.b (x12.1 != 0)) rfl (zA ?_)))))
  refine c_if h rfl (fun h14 h => c_sr (o_m2 (.i x12.1) (.i x12.1) rfl (zA (zF ?_)))) fun h14 h => zG (zL (o_m3 (.i z1) (.i (wi (z1 + 1))) (.i (wi (z1 + 1))) rfl (zA ?_)))
  ·
   cases h; exact eR rfl rfl
  exact lE ((wi (z1 + 1)), x12.2) h rfl rfl
 cases h; exact eR rfl rfl
theorem zGS (p0 : (List UInt8)) (r : (Int × Int)) (h : zEc p0 = some r) : FC Tryz.prog 80 [.t (.d (.seq 1 (zN p0)))] [] (.tup [.d (.lit (.int .i64 r.1)), .d (.lit (.int .i64 r.2))]) := by
 refine zD5 (rs := [.tmp 2, .tmp 3]) (n := 39) Tryz.func80 rfl rfl (Nat.le_of_ble_eq_true rfl) rfl (pins := []) rfl (L := [(0, .y p0)]) rfl (c_sr (o_m2 (.i 0) (.i 0) rfl (zA (zJ (c_sr (o_1 (.y p0) rfl (o_c (g0 rfl) rfl rfl rfl (lenE _ _) trivial (o_1 (.b ((p0.length : Int) == 0)) rfl (zA ?_)))))))))
 refine c_if h rfl (fun h1 h => c_sr (o_m2 (.i 0) (.i 10) rfl (zA (zF ?_)))) fun h1 h => zG (zJ (c_sr (o_1 (.y p0) rfl (o_c (g0 rfl) rfl rfl rfl (lenE _ _) trivial (o_1 (.b (decide ((p0.length : Int) > 8))) rfl (zA ?_))))))
 ·
  cases h
  exact end0 rfl .r
 refine c_if h rfl (fun h2 h => c_sr (o_m2 (.i 0) (.i 2) rfl (zA (zF ?_)))) fun h2 h => zG (c_sr (o_1 (.i 0) rfl (zA ?_)))
 ·
  cases h
  exact end0 rfl .r
 refine yY r (fun (y3 : Int) => [(4, .i y3)]) (fun y3 => zGd y3) ?_ ?_
 ·
  refine c_sr (o_1 (.i 0) rfl (zA (zS (c_lp (fun (q : Int × Int) => [(0, .y p0), (4, .i q.1), (5, .i q.2)]) (fun nl2 q => zA9 p0 nl2 q.1 q.2) (p0.length + 1) (0, 0) h (fun _ => rfl) rfl rfl ?_))))
  rintro nl2 ⟨z4, z5⟩ h
  refine zJ (c_sr (o_m2 (.i z5) (.y p0) rfl (o_c (g0 rfl) rfl rfl rfl (lenE _ _) trivial (o_1 (.b (decide (z5 < (p0.length : Int)))) rfl (zA ?_)))))
  refine c_if h rfl (fun h6 h => zG (zJ (zS (c_sr (o_m2 (.y p0) (.i z5) rfl ?_))))) fun h6 h => zAQ ?_
  ·
   refine bi h fun x7 h8 h => o_c (g0 rfl) rfl rfl rfl (idxE h8) (idxC h8) (o_1 (.t (.d (.lit (.int .u8 (x7.toNat : Int))))) rfl (o_c (g0 rfl) rfl rfl rfl (congrArg (fun z => A.i z) (zKA _)) trivial (o_1 (.i (x7.toNat : Int)) rfl (zA (yY r (fun (y9 : Bool) => [(0, .y p0), (4, .i z4), (5, .i z5), (6, .i (x7.toNat : Int)), (27, .i z4), (28, .b (z4 == 18014398509481984)), (29, .b (z4 == 18014398509481984)), (32, .b y9)]) (fun y9 => zDm (zA9 p0 nl2) z4 x7 z5 y9) ?_ ?_)))))
   ·
    refine c_sr (o_m3 (.i z4) (.b (decide (z4 > 18014398509481984))) (.b (decide (z4 > 18014398509481984))) rfl ?_)
    rcases zP h with ⟨h10, h⟩ | ⟨h10, h⟩
    ·
     refine o_k3 rfl h10 (o_un rfl rfl rfl rfl rfl (o_un rfl rfl rfl rfl rfl (o_k1 rfl h10 (o_pT (.b true) h10 rfl (zA (c_t rfl rfl (c_sr (o_m2 (.i 0) (.i 11) rfl (zA (zF ?_))))))))))
     cases h
     exact end0 rfl .r
    refine o_s (.i z4) (gy rfl rfl rfl h10) rfl rfl rfl (o_s (.b (z4 == 18014398509481984)) (gy rfl rfl rfl h10) rfl rfl rfl (o_s (.b (z4 == 18014398509481984)) (gy rfl rfl rfl h10) rfl rfl rfl ?_))
    rcases zP h with ⟨h11, h⟩ | ⟨h11, h⟩
    ·
     refine o_s (.i (x7.toNat : Int)) (gy rfl rfl rfl h11) rfl rfl rfl (o_s (.b (decide ((x7.toNat : Int) > 0))) (gy rfl rfl rfl h11) rfl rfl rfl (o_pk (.b (decide ((x7.toNat : Int) > 0))) (b := true) h11 (gy rfl rfl rfl h10) rfl rfl rfl rfl rfl (o_pF (.b (decide ((x7.toNat : Int) > 0))) h10 rfl (zA (c_if h rfl (fun h12 h => c_sr (o_m2 (.i 0) (.i 11) rfl (zA (zF ?_)))) fun h12 h => zG ?_)))))
     ·
      cases h
      exact end0 rfl .r
     exact lE (decide ((x7.toNat : Int) > 0)) h rfl rfl
    refine o_k2 rfl h11 (o_pk (.b false) (b := false) h11 (gy rfl rfl rfl h10) rfl rfl rfl rfl rfl (o_pF (.b false) h10 rfl (zA (c_f rfl rfl (zG ?_)))))
    exact lE false h rfl rfl
   rintro y9 h
   refine zL (o_m5 (.i z4) (.i (wi (256 * z4))) (.i (x7.toNat : Int)) (.i (wi ((wi (256 * z4)) + (x7.toNat : Int)))) (.i (wi ((wi (256 * z4)) + (x7.toNat : Int)))) rfl (zA (zL (o_m3 (.i z5) (.i (wi (z5 + 1))) (.i (wi (z5 + 1))) rfl (zA ?_)))))
   exact lE ((wi ((wi (256 * z4)) + (x7.toNat : Int))), (wi (z5 + 1))) h rfl rfl
  exact lE z4 h rfl rfl
 rintro y3 h
 refine c_sr (o_m3 (.i y3) (.i y3) (.i 0) rfl (zA (zF ?_)))
 cases h
 exact end0 rfl .r
theorem zIh (p0 : (Option Nat)) (p1 : Int) (w0 : Hp) (r : (Int × Int)) (h : zC5 p0 p1 w0 = some r) : FCH Tryz.prog 65 [.t ((ptT 8 p0)), .t (.d (.lit (.int .i64 p1)))] [] [] (hpA w0) (hpA w0) (.tup [.d (.lit (.int .i64 r.1)), .d (.lit (.int .i64 r.2))]) := by
 refine qR (rs := [.tmp 4, .tmp 5]) (n := 65) [] Tryz.func65 rfl rfl (Nat.le_of_ble_eq_true rfl) rfl (pins := []) rfl (L := [(HK, .hp (hpA w0)), (0, .t ((ptT 8 p0))), (1, .i p1)]) rfl (c_sr (o_m2 (.i 0) (.i 0) rfl (zA (c_sr (o_mv rfl (zI rfl) (o_1 (.i p1) rfl ?_))))))
 refine bi h fun x1 h2 h => o_cR (zDc _ _ w0 _ h2) (g0 rfl) rfl (a2 (qO rfl) (aR rfl)) (r2 rfl) (o_m5 (.tup [.y x1.1, .i x1.2]) (.y x1.1) (.i x1.2) (.y x1.1) (.i x1.2) rfl (zA (zJ (c_sr (o_m2 (.i x1.2) (.b (x1.2 != 0)) rfl (zA ?_))))))
 refine c_if h rfl (fun h3 h => c_sr (o_m2 (.i 0) (.i 0) rfl (zA (zF ?_)))) fun h3 h => zG (c_sr (o_1 (.y x1.1) rfl ?_))
 ·
  cases h; exact eR rfl rfl
 refine bi h fun x4 h5 h => o_c (g0 rfl) rfl rfl rfl (cutEh (c := cU8) h5) (cutCh (c := cU8) h5) (bi h fun x6 h7 h => o_cA (zGS _ _ h7) (g0 rfl) rfl (.cons .r .nil) rfl (o_m5 (.tup [.i x6.1, .i x6.2]) (.i x6.1) (.i x6.2) (.i x6.1) (.i x6.2) rfl (zA (c_sr (o_1 (.y x1.1) rfl (bi h fun x8 h9 h => o_c (g0 rfl) rfl rfl rfl (cutE (c := cU8) h9) (cutC (c := cU8) h9) ?_))))))
 refine bi h fun x10 h11 h => o_cA (zGS _ _ h11) (g0 rfl) rfl (.cons .r .nil) rfl (o_m5 (.tup [.i x10.1, .i x10.2]) (.i x10.1) (.i x10.2) (.i x10.1) (.i x10.2) rfl (zA (zJ (c_sr (o_m3 (.i x6.2) (.b (x6.2 != 0)) (.b (x6.2 != 0)) rfl ?_)))))
 rcases zP h with ⟨h12, h⟩ | ⟨h12, h⟩
 ·
  refine o_k2 rfl h12 (o_pT (.b true) h12 rfl (o_1 (.b true) rfl (o_k2 rfl rfl (o_pT (.b true) rfl rfl (o_1 (.b true) rfl (o_k2 rfl rfl (o_pT (.b true) rfl rfl (o_1 (.b true) rfl (o_k4 rfl rfl (o_k4 rfl rfl ?_))))))))))
  refine o_pT (.b true) rfl rfl (o_1 (.b true) rfl (o_k4 rfl rfl (o_k2 rfl rfl (o_pT (.b true) rfl rfl (zA (c_t rfl rfl (c_sr (o_m2 (.i 0) (.i 0) rfl (zA (zF ?_))))))))))
  cases h; exact eR rfl rfl
 refine o_s (.i x6.1) (gy rfl rfl rfl h12) rfl rfl rfl (o_s (.b (decide (x6.1 < 1))) (gy rfl rfl rfl h12) rfl rfl rfl (o_pF (.b (decide (x6.1 < 1))) h12 rfl (o_1 (.b (decide (x6.1 < 1))) rfl ?_)))
 rcases zP h with ⟨h13, h⟩ | ⟨h13, h⟩
 ·
  refine o_k2 rfl h13 (o_pT (.b true) h13 rfl (o_1 (.b true) rfl (o_k2 rfl rfl (o_pT (.b true) rfl rfl (o_1 (.b true) rfl (o_k4 rfl rfl (o_k1 rfl rfl ?_)))))))
  refine o_k3 rfl rfl (o_pT (.b true) rfl rfl (o_1 (.b true) rfl (o_k4 rfl rfl (o_k1 rfl rfl ?_))))
  refine o_k1 rfl rfl (o_pT (.b true) rfl rfl (zA (c_t rfl rfl (c_sr (o_m2 (.i 0) (.i 0) rfl (zA (zF ?_)))))))
  cases h; exact eR rfl rfl
 refine o_s (.i x6.1) (gy rfl rfl rfl h13) rfl rfl rfl (o_s (.b (decide (x6.1 > 2305843009213693952))) (gy rfl rfl rfl h13) rfl rfl rfl (o_pF (.b (decide (x6.1 > 2305843009213693952))) h13 rfl (o_1 (.b (decide (x6.1 > 2305843009213693952))) rfl ?_)))
 rcases zP h with ⟨h14, h⟩ | ⟨h14, h⟩
 ·
  refine o_k2 rfl h14 (o_pT (.b true) h14 rfl (o_1 (.b true) rfl (o_k4 rfl rfl (o_k1 rfl rfl (o_k3 rfl rfl (o_pT (.b true) rfl rfl (o_1 (.b true) rfl (o_k4 rfl rfl (o_k1 rfl rfl ?_)))))))))
  refine o_k1 rfl rfl (o_pT (.b true) rfl rfl (zA (c_t rfl rfl (c_sr (o_m2 (.i 0) (.i 0) rfl (zA (zF ?_)))))))
  cases h; exact eR rfl rfl
 refine o_s (.i x10.1) (gy rfl rfl rfl h14) rfl rfl rfl (o_s (.b (decide (x10.1 < 3))) (gy rfl rfl rfl h14) rfl rfl rfl (o_pF (.b (decide (x10.1 < 3))) h14 rfl (o_1 (.b (decide (x10.1 < 3))) rfl ?_)))
 rcases zP h with ⟨h15, h⟩ | ⟨h15, h⟩
 ·
  refine o_k4 rfl h15 (o_k4 rfl h15 (o_pT (.b true) h15 rfl (o_1 (.b true) rfl (o_k4 rfl rfl (o_k2 rfl rfl ?_)))))
  refine o_pT (.b true) rfl rfl (zA (c_t rfl rfl (c_sr (o_m2 (.i 0) (.i 0) rfl (zA (zF ?_))))))
  cases h; exact eR rfl rfl
 refine o_s (.i x10.1) (gy rfl rfl rfl h15) rfl rfl rfl (o_of (e := [(47, .t ((ptT 8 p0)))]) (gy rfl rfl rfl h15) (h_mv mR (.inl rfl) (zI rfl) rfl rfl) rfl ?_)
 rcases zQ h with ⟨h16, h⟩ | ⟨i17, h16, h⟩
 ·
  exact qF h
 refine o_of (e := [(48, .t (.hpt (cd 8 i17) 0))]) (gy rfl rfl rfl h15) (h_nc mR rfl (zI rfl) (zCx h16) rfl rfl) rfl (o_of (e := [(49, .t (.hpt (cd 8 i17) 0))]) (gy rfl rfl rfl h15) (h_fd mR rfl rfl rfl rfl rfl rfl) rfl (bi h fun x18 h19 h => o_of (e := [(50, .t (.hvw (cd 11 x18.Kept.1) 0 40 1 x18.Kept.2))]) (gy rfl rfl rfl h15) (h_ld mR rfl rfl rfl rfl (zBn h19) rfl rfl rfl rfl) rfl (o_of (e := [(51, .i (x18.Kept.2 : Int))]) (gy rfl rfl rfl h15) (h_ln mR rfl rfl rfl rfl rfl rfl) rfl (o_s (.i (wi ((x18.Kept.2 : Int) - 3))) (gy rfl rfl rfl h15) rfl rfl rfl (o_s (.b (decide (x10.1 > (wi ((x18.Kept.2 : Int) - 3))))) (gy rfl rfl rfl h15) rfl rfl rfl (o_pF (.b (decide (x10.1 > (wi ((x18.Kept.2 : Int) - 3))))) h15 rfl (o_1 (.b (decide (x10.1 > (wi ((x18.Kept.2 : Int) - 3))))) rfl ?_)))))))
 rcases zP h with ⟨h20, h⟩ | ⟨h20, h⟩
 ·
  refine o_k4 rfl h20 (o_k2 rfl h20 (o_pT (.b true) h20 rfl (zA (c_t rfl rfl (c_sr (o_m2 (.i 0) (.i 0) rfl (zA (zF ?_))))))))
  cases h; exact eR rfl rfl
 refine o_s (.y x1.1) (gy rfl rfl rfl h20) rfl rfl rfl (o_s (.i x6.1) (gy rfl rfl rfl h20) rfl rfl rfl (o_s (.i x10.1) (gy rfl rfl rfl h20) rfl rfl rfl (bi h fun x21 h22 h => o_cR (zFL _ _ w0 _ h22) (gy rfl rfl rfl h20) rfl (a2 (aR rfl) (aR rfl)) (r1 rfl) (bi h fun x23 h24 h => o_cA (zCV _ _ _ h24) (gy rfl rfl rfl h20) rfl (.cons .r (.cons .r .nil)) rfl (o_s (.b (!x23)) (gy rfl rfl rfl h20) rfl rfl rfl (o_pF (.b (!x23)) h20 rfl (zA ?_)))))))
 refine c_if h rfl (fun h25 h => c_sr (o_m2 (.i 0) (.i 0) rfl (zA (zF ?_)))) fun h25 h => zG (c_sr (o_m4 (.i x6.1) (.i x10.1) (.i x6.1) (.i x10.1) rfl (zA (zF ?_))))
 ·
  cases h; exact eR rfl rfl
 cases h; exact eR rfl rfl
end Go.Proofs.YtjomnccladjpgaaGreat
