/-
 Walks of functions: each function does what its model tells. Printed by a program of this claim's own (gen.py) off the given translation.
-/
import Derived.Test.YtmgafkpkpmjieaaDoorM08
import Derived.Test.YtmgafkpkpmjieaaDoorM11
import Derived.Test.YtmgafkpkpmjieaaDoorM10
import Derived.Test.YtmgafkpkpmjieaaDoorM12
set_option linter.unusedVariables false
set_option linter.unusedSimpArgs false
namespace Go.Proofs.YtmgafkpkpmjieaaDoor
open Go Go.RowKit
set_option linter.unusedVariables false
set_option maxHeartbeats 4000000
set_option maxRecDepth 20000
theorem zFJ (p0 : (List UInt8)) (r : Bool) (h : zAL p0 = some r) : FC Tryd.prog 31 [.t (.d (.seq 1 (zD p0)))] [] (.t (.d (.lit (.bool r)))) := by
 refine zAO (rs := [.tmp 2]) (n := 6) Tryd.func31 rfl rfl (Nat.le_of_ble_eq_true rfl) rfl (pins := []) rfl (L := [(0, .y p0)]) rfl (c_sr (o_1 (.b false) rfl (zA (c_sr (o_1 (.y p0) rfl (o_c (g0 rfl) rfl rfl rfl (lenE _ _) trivial (o_m2 (.b (decide ((p0.length : Int) > 1048576))) (.b (decide ((p0.length : Int) > 1048576))) rfl (zA (zH ?_)))))))))
 cases h
 exact end0 rfl .r
theorem zDL (p0 : (List (List UInt8))) (F1 : Nat) (C1 : List (List D)) (p1 : ((List UInt8) → Option Bool)) (hp1 : ∀ (a0 : (List UInt8)) r, p1 a0 = some r → FC Tryd.prog F1 ([.t (.d (.seq 1 (zD a0)))] ++ C1.map A.imm) [] (.t (.d (.lit (.bool r))))) (hf1 : ∃ fn, Tryd.prog.funcs[F1]? = some fn ∧ fn.body.isNone = false ∧ (fn.name == "runtime.NumGoroutine") = false) (r : Int) (h : zAp p0 p1 = some r) : FC Tryd.prog 48 [.t (.d (.seq 1 (List.map (cSl 1 cU8) p0))), .t (.d (.clo F1 C1))] [] (.t (.d (.lit (.int .i64 r)))) := by
 refine zAO (rs := [.tmp 4]) (n := 19) Tryd.func48 rfl rfl (Nat.le_of_ble_eq_true rfl) rfl (pins := []) rfl (L := [(0, .t (.d (.seq 1 (List.map (cSl 1 cU8) p0)))), (1, .t (.d (.clo F1 C1)))]) rfl (c_sr (o_1 (.i 0) rfl (zA (zM (c_sr (o_1 (.t (.d (.seq 1 (List.map (cSl 1 cU8) p0)))) rfl (o_c (g0 rfl) rfl rfl rfl (lenE _ _) trivial (o_1 (.i 0) rfl (zA (zL (c_lp (fun (z1 : Int) => [(0, .t (.d (.seq 1 (List.map (cSl 1 cU8) p0)))), (1, .t (.d (.clo F1 C1))), (7, .i (p0.length : Int)), (8, .i z1)]) (fun nl1 z1 => qZ p0 p1 nl1 z1) (p0.length + 1) 0 h (fun _ => rfl) rfl rfl ?_)))))))))))
 rintro nl1 z1 h
 refine c_sr (o_1 (.b (decide (z1 < (p0.length : Int)))) rfl (zA (zM ?_)))
 refine c_if h rfl (fun h2 h => zK (zM (zL (c_sr (o_m2 (.i z1) (.i z1) rfl (zA (c_sr ?_))))))) fun h2 h => qU (c_sr (o_1 (.i (-1)) rfl (zA (zH ?_))))
 ·
  refine o_m3 (.t (.d (.clo F1 C1))) (.t (.d (.seq 1 (List.map (cSl 1 cU8) p0)))) (.i z1) rfl (bi h fun x3 h4 h => o_c (g0 rfl) rfl rfl rfl (idxE h4) (idxC h4) (o_1 (.y x3) rfl (bi h fun x5 h6 h => o_cc (hp1 _ _ h6) (g0 rfl) rfl rfl rfl rfl hf1.choose_spec.1 hf1.choose_spec.2.1 hf1.choose_spec.2.2 (.cons .r .nil) rfl rfl (zA ?_))))
  refine c_if h rfl (fun h7 h => c_sr (o_m2 (.i z1) (.i z1) rfl (zA (zH ?_)))) fun h7 h => zK (zG (o_m2 (.i (wi (z1 + 1))) (.i (wi (z1 + 1))) rfl (zA ?_)))
  ·
   cases h
   exact end0 rfl .r
  exact lE (wi (z1 + 1)) h rfl rfl
 cases h
 exact end0 rfl .r
theorem zCc (p0 : (List (List UInt8))) (F1 : Nat) (C1 : List (List D)) (p1 : ((List UInt8) → Option Bool)) (hp1 : ∀ (a0 : (List UInt8)) r, p1 a0 = some r → FC Tryd.prog F1 ([.t (.d (.seq 1 (zD a0)))] ++ C1.map A.imm) [] (.t (.d (.lit (.bool r))))) (hf1 : ∃ fn, Tryd.prog.funcs[F1]? = some fn ∧ fn.body.isNone = false ∧ (fn.name == "runtime.NumGoroutine") = false) (r : Bool) (h : yY p0 p1 = some r) : FC Tryd.prog 32 [.t (.d (.seq 1 (List.map (cSl 1 cU8) p0))), .t (.d (.clo F1 C1))] [] (.t (.d (.lit (.bool r)))) := by
 refine zAO (rs := [.tmp 4]) (n := 9) Tryd.func32 rfl rfl (Nat.le_of_ble_eq_true rfl) rfl (pins := []) rfl (L := [(0, .t (.d (.seq 1 (List.map (cSl 1 cU8) p0)))), (1, .t (.d (.clo F1 C1)))]) rfl (c_sr (o_1 (.b false) rfl (zA (c_sr (o_m2 (.t (.d (.seq 1 (List.map (cSl 1 cU8) p0)))) (.t (.d (.clo F1 C1))) rfl (bi h fun x1 h2 h => o_cA (zDL _ F1 C1 _ hp1 hf1 _ h2) (g0 rfl) rfl (.cons .r (.cons .r .nil)) rfl (o_m2 (.b (decide (x1 ≥ 0))) (.b (decide (x1 ≥ 0))) rfl (zA (zH ?_)))))))))
 cases h
 exact end0 rfl .r
theorem zEU (p0 : (List UInt8)) (p1 : UInt8) (w0 : Hp) (r : (List UInt8)) (h : zCJ p0 p1 = some r) : FCH Tryd.prog 50 [.t (.d (.seq 1 (zD p0))), .t (.d (.lit (.int .u8 (p1.toNat : Int))))] [] [] (hpA w0) (hpA w0) (.t (.d (.seq 1 (zD r)))) := by
 refine zBM (rs := [.tmp 4]) (n := 33) [0] Tryd.func50 rfl rfl (Nat.le_of_ble_eq_true rfl) rfl (pins := []) rfl (L := [(HK, .hp (hpA w0)), (OB + 0, .free), (0, .y p0), (1, .t (.d (.lit (.int .u8 (p1.toNat : Int)))))]) rfl (c_sr (o_1 (.n) rfl (zA (zX r (fun (y1 : (List UInt8)) => [(0, .y y1), (1, .t (.d (.lit (.int .u8 (p1.toNat : Int))))), (HK, .hp (hpA w0)), (OB + 0, .free)]) (fun y1 => zBm p1 y1) ?_ ?_))))
 ·
  refine c_sr (o_1 (.y p0) rfl (o_c (g0 rfl) rfl rfl rfl (lenE _ _) trivial (o_1 (.b (decide ((p0.length : Int) > 128))) rfl (zA (c_if h rfl (fun h15 h => c_sr (o_m2 (.y p0) (.t (.own 27 1 (List.map (cSl 1 cU8) [p0]))) rfl ?_)) fun h15 h => zK ?_)))))
  ·
   refine bi h fun x16 h17 h => o_cA (zEw _ _ h17) (g0 rfl) rfl (.cons .r .nil) rfl (o_s (.box (List.map T.d (ar cU8 (0 : UInt8) ([] : (List UInt8)) 0 64))) (g0 rfl) rfl rfl (by kernel_rfl) (o_st (b := 5) (.box (List.map T.d (ar cU8 (0 : UInt8) x16 0 64))) (g0 rfl) rfl rfl (by kernel_rfl) (zA (c_fz (pins := _) 5 (.imm (ar cU8 (0 : UInt8) x16 0 64)) rfl rfl rfl (by kernel_rfl) (zG (bi h fun x18 h19 h => o_of (e := [(14, .y x18)]) (g0 rfl) (zFF (c := cU8) (z := (0 : UInt8)) mR rfl rfl (fun _ => rfl) rfl rfl rfl rfl rfl rfl rfl rfl h19 rfl rfl) rfl (o_1 (.y x18) rfl (zA ?_))))))))
   exact lE x18 h rfl rfl
  exact lE p0 h rfl rfl
 rintro y1 h
 refine c_sr (bi h fun x2 h3 h => o_of (e := [((OB + 0), .box (fl (dT cU8) (List.replicate x2 (0 : UInt8)))), (15, .t (.view 0 0 5 1 x2))]) (g0 rfl) (h_mkl mR rfl rfl rfl rfl rfl rfl rfl (by kernel_rfl) rfl h3 (fl_rep (c := cU8) (z := (0 : UInt8)) (by kernel_rfl) x2) rfl rfl rfl rfl) rfl (o_1 (.t (.view 0 0 5 1 x2)) rfl (zA (c_sr (o_m2 (.t (.view 0 0 5 1 x2)) (.y y1) rfl (bi h fun x4 h5 h => o_of (e := [((OB + 0), .box (fl (dT cU8) x4)), (18, .i ((min y1.length x2 : Nat) : Int))]) (g0 rfl) (h_cpy (cc := cU8) (yl := y1) mR rfl rfl rfl rfl rfl rfl (fun _ => rfl) rfl h5 rfl rfl rfl) rfl ?_))))))
 obtain ⟨x6, h7, h⟩ := bind_some h
 have h7 : x4.length = (List.replicate x2 (0 : UInt8)).length := zBt h7; simp only [List.length_set, List.length_replicate] at h7
 refine zA (zM (c_sr (o_1 (.t (.view 0 0 5 1 x2)) rfl (o_of (e := [(20, .i ((x2 : Nat) : Int))]) (g0 rfl) (h_lln mR rfl rfl rfl rfl rfl rfl) rfl (o_1 (.i 0) rfl (zA (zL (zA7 (fun (q : Int × (List UInt8)) => [(1, .t (.d (.lit (.int .u8 (p1.toNat : Int))))), (6, .t (.view 0 0 5 1 q.2.length)), (20, .i ((x2 : Nat) : Int)), (21, .i q.1), ((OB + 0), .box (fl (dT cU8) q.2)), (HK, .hp (hpA w0))]) (fun nl2 q => zAM x2 p1 nl2 q.1 q.2) (Int.toNat ((x2 : Nat) : Int) + 1) (0, x4) [] h (fun _ => rfl) rfl trivial ⟨.r, (.vwn (by first | rfl | omega | (simp; done) | (dsimp only; omega) | (simp; omega))), .r, .r, .r, .r, trivial⟩ rfl ?_))))))))
 rintro nl2 ⟨z8, z9⟩ h
 refine c_sr (o_1 (.b (decide (z8 < ((x2 : Nat) : Int)))) rfl (zA (zM ?_)))
 refine c_if h rfl (fun h10 h => zK (zM (zL (c_sr (o_m2 (.i z8) (.i z8) rfl (zA (zG ?_))))))) fun h10 h => qU (c_sr (o_m2 (.t (.view 0 0 5 1 z9.length)) (.t (.view 0 0 5 1 z9.length)) rfl (zA (c_frz 4 0 rfl rfl (by first | (simp; done) | (rw [List.length_map]; omega)) (zHU _ _) (map_row (c := cU8) (fun _ => rfl) _) rfl ⟨.inr ⟨_, rfl, zEJ _⟩, by (repeat (first | exact ObP.nil | refine ObP.cons (.inl rfl) ?_ | refine ObP.cons (.inr (fun _ => rfl)) ?_ | refine ObP.cons (.inr (zD4 (zDD _ _))) ?_ | refine ObP.cons (.inr (zGc _ _)) ?_))⟩ rfl (zH ?_)))))
 ·
  refine o_m2 (.t (.view 0 0 5 1 z9.length)) (.i z8) rfl (bi h fun x11 h12 h => o_of (e := [(26, .ref (OB + 0) (0 + Int.toNat z8 * 1))]) (g0 rfl) (zHe mR rfl rfl rfl rfl rfl (idxV rfl h12) rfl rfl rfl) rfl (o_of (e := [(27, .t (.d (.lit (.int .u8 (x11.toNat : Int)))))]) (g0 rfl) (zBj mR rfl rfl rfl rfl (zBk h12 rfl (fun _ => rfl)) rfl rfl rfl) rfl (o_1 (.t (.d (.lit (.int .u8 (p1.toNat : Int))))) rfl (o_c (g0 rfl) rfl rfl rfl (congrArg (fun z => A.t (.d (.lit (.int .u8 z)))) (u8c _)) trivial ?_))))
  refine bi h fun x13 h14 h => o_of (e := [(30, .ref (OB + 0) (0 + Int.toNat z8 * 1))]) (g0 rfl) (zHe mR rfl rfl rfl rfl rfl (idxV rfl h14) rfl rfl rfl) rfl (o_of (e := [((OB + 0), .box (fl (dT cU8) (z9.set (Int.toNat z8) (U8 ((((BitVec.ofInt IntKind.u8.bits (x11.toNat : Int)) ^^^ (BitVec.ofInt IntKind.u8.bits (p1.toNat : Int))).toNat : Nat) : Int)))))]) (g0 rfl) (zIk mR rfl rfl rfl rfl rfl rfl rfl (zFm h14 (fun _ => rfl)) (zHM h14 (U8 ((((BitVec.ofInt IntKind.u8.bits (x11.toNat : Int)) ^^^ (BitVec.ofInt IntKind.u8.bits (p1.toNat : Int))).toNat : Nat) : Int)) (fun _ => rfl) rfl)) rfl (zA (zG (o_m2 (.i (wi (z8 + 1))) (.i (wi (z8 + 1))) rfl (zA ?_)))))
  exact ⟨((wi (z8 + 1)), (z9.set (Int.toNat z8) (U8 ((((BitVec.ofInt IntKind.u8.bits (x11.toNat : Int)) ^^^ (BitVec.ofInt IntKind.u8.bits (p1.toNat : Int))).toNat : Nat) : Int)))), [], h, rfl, trivial, ⟨.r, (.vwn (by first | rfl | omega | (simp; done) | (dsimp only; omega) | (simp; omega))), .r, .r, .r, .r, trivial⟩, rfl⟩
 cases h; exact eR rfl rfl
theorem zFt (p0 : (List UInt8)) (p1 : (List (List UInt8))) (w0 : Hp) (r : (List UInt8)) (h : zCr p0 p1 = some r) : FCH Tryd.prog 33 [.t (.d (.seq 1 (zD p0))), .t (.d (.seq 1 (List.map (cSl 1 cU8) p1)))] [] [] (hpA w0) (hpA w0) (.t (.agg (ar cU8 (0 : UInt8) r 0 64))) := by
 refine zBM (rs := [.cell 4 71]) (n := 17) [] Tryd.func33 rfl rfl (Nat.le_of_ble_eq_true rfl) rfl (pins := []) rfl (L := [(HK, .hp (hpA w0)), (0, .y p0), (1, .t (.d (.seq 1 (List.map (cSl 1 cU8) p1))))]) rfl (c_sr (o_s (.box (List.map T.d (ar cU8 (0 : UInt8) ([] : (List UInt8)) 0 64))) (g0 rfl) rfl rfl (by kernel_rfl) (zA (c_sr (o_1 (.y p0) rfl (bi h fun x1 h2 h => o_cH (zEU _ _ w0 _ h2) (g0 rfl) rfl (a2 (aR rfl) (aR rfl)) (r1 rfl) (o_m2 (.t (.own 27 1 (List.map (cSl 1 cU8) [x1]))) (.t (.d (.seq 1 (List.map (cSl 1 cU8) p1)))) rfl (bi h fun x3 h4 h => o_2c (g0 rfl) rfl rfl rfl (appE (c := (cSl 1 cU8)) h4) (appC (c := (cSl 1 cU8)) h4) ?_))))))))
 refine bi h fun x5 h6 h => o_cA (zEw _ _ h6) (g0 rfl) rfl (.cons .r .nil) rfl (o_s (.box (List.map T.d (ar cU8 (0 : UInt8) ([] : (List UInt8)) 0 64))) (g0 rfl) rfl rfl (by kernel_rfl) (o_st (b := 5) (.box (List.map T.d (ar cU8 (0 : UInt8) x5 0 64))) (g0 rfl) rfl rfl (by kernel_rfl) (zA (zM (c_fz (pins := _) 5 (.imm (ar cU8 (0 : UInt8) x5 0 64)) rfl rfl rfl (by kernel_rfl) (zBN zC8 (by kernel_rfl) (d_1 (.y p0) rfl rfl ?_)))))))
 refine bi h fun x7 h8 h => d_cH (zEU _ _ w0 _ h8) rfl (dg0 rfl) rfl (a2 (aR rfl) (aR rfl)) (r1 rfl) (bi h fun x9 h10 h => d_h0 [] (e := [(14, .y x9)]) (ks := [14]) rfl (dg0 rfl) rfl rfl (fun S' hM hok => zFF (c := cU8) (z := (0 : UInt8)) hM rfl rfl (fun _ => rfl) rfl rfl rfl rfl rfl rfl rfl rfl h10 rfl (hok _ rfl rfl)) rfl (d_1 (.t (.own 27 1 (List.map (cSl 1 cU8) [x7, x9]))) rfl rfl (bi h fun x11 h12 h => d_ca (zEw _ _ h12) rfl (dg0 rfl) rfl rfl rfl rfl rfl rfl rfl rfl (.cons .r .nil) rfl rfl (d_st (b := 4) (.box (List.map T.d (ar cU8 (0 : UInt8) x11 0 64))) rfl (dg0 rfl) rfl rfl rfl (by kernel_rfl) (zCi (by kernel_rfl) (zH ?_))))))
 cases h; exact eR rfl rfl
theorem zF0 (p0 : (List UInt8)) (p1 : (List UInt8)) (p2 : (List (List UInt8))) (w0 : Hp) (r : ((List UInt8) × Int)) (h : zC3 p0 p1 p2 = some r) : FCH Tryd.prog 18 [.t (.d (.seq 1 (zD p0))), .t (.d (.lit (.string ⟨⟨p1⟩⟩))), .t (.d (.seq 1 (List.map (cSl 1 cU8) p2)))] [] [] (hpA w0) (hpA w0) (.tup [.agg (ar cU8 (0 : UInt8) r.1 0 32), .d (.lit (.int .i64 r.2))]) := by
 refine zBM (rs := [.cell 6 22, .tmp 7]) (n := 64) [] Tryd.func18 rfl rfl (Nat.le_of_ble_eq_true rfl) rfl (pins := []) rfl (L := [(HK, .hp (hpA w0)), (0, .y p0), (1, .s p1), (2, .t (.d (.seq 1 (List.map (cSl 1 cU8) p2))))]) rfl (c_sr (o_s (.box (List.map T.d (ar cU8 (0 : UInt8) ([] : (List UInt8)) 0 32))) (g0 rfl) rfl rfl (by kernel_rfl) (o_1 (.i 0) rfl (zA (zM (c_sr (o_1 (.y p0) rfl (o_c (g0 rfl) rfl rfl rfl (lenE _ _) trivial (o_1 (.b ((p0.length : Int) == 0)) rfl (zA ?_))))))))))
 refine c_if h rfl (fun h1 h => c_sr (o_s (.t (.agg (ar cU8 (0 : UInt8) ([] : (List UInt8)) 0 32))) (g0 rfl) rfl rfl (by kernel_rfl) (o_st (b := 6) (.box (List.map T.d (ar cU8 (0 : UInt8) ([] : (List UInt8)) 0 32))) (g0 rfl) rfl rfl (by kernel_rfl) (o_1 (.i 20) rfl (zA (zH ?_)))))) fun h1 h => zK (c_sr (o_1 (.t (.d (.lit (.func (.func 31) #[] #[])))) rfl (zA (zM (c_sr (o_m4 (.s p1) (.i (p1.length : Int)) (.b (decide ((p1.length : Int) > 64))) (.b (decide ((p1.length : Int) > 64))) rfl ?_))))))
 ·
  cases h; exact eR rfl rfl
 rcases zE h with ⟨h2, h⟩ | ⟨h2, h⟩
 ·
  refine o_k3 rfl h2 (o_pT (.b true) h2 rfl (o_1 (.b true) rfl (o_k3 rfl rfl ?_)))
  refine o_pT (.b true) rfl rfl (zA (c_t rfl rfl (c_sr (o_s (.t (.agg (ar cU8 (0 : UInt8) ([] : (List UInt8)) 0 32))) (g0 rfl) rfl rfl (by kernel_rfl) (o_st (b := 6) (.box (List.map T.d (ar cU8 (0 : UInt8) ([] : (List UInt8)) 0 32))) (g0 rfl) rfl rfl (by kernel_rfl) (o_1 (.i 3) rfl (zA (zH ?_))))))))
  cases h; exact eR rfl rfl
 refine o_s (.t (.d (.seq 1 (List.map (cSl 1 cU8) p2)))) (gy rfl rfl rfl h2) rfl rfl rfl (o_c (gy rfl rfl rfl h2) rfl rfl rfl (lenE _ _) trivial (o_s (.b (decide ((p2.length : Int) > 16))) (gy rfl rfl rfl h2) rfl rfl rfl (o_pF (.b (decide ((p2.length : Int) > 16))) h2 rfl (o_1 (.b (decide ((p2.length : Int) > 16))) rfl ?_))))
 rcases zE h with ⟨h3, h⟩ | ⟨h3, h⟩
 ·
  refine o_k3 rfl h3 (o_pT (.b true) h3 rfl (zA (c_t rfl rfl (c_sr (o_s (.t (.agg (ar cU8 (0 : UInt8) ([] : (List UInt8)) 0 32))) (g0 rfl) rfl rfl (by kernel_rfl) (o_st (b := 6) (.box (List.map T.d (ar cU8 (0 : UInt8) ([] : (List UInt8)) 0 32))) (g0 rfl) rfl rfl (by kernel_rfl) (o_1 (.i 3) rfl (zA (zH ?_)))))))))
  cases h; exact eR rfl rfl
 refine o_s (.t (.d (.seq 1 (List.map (cSl 1 cU8) p2)))) (gy rfl rfl rfl h3) rfl rfl rfl (o_s (.t (.d (.lit (.func (.func 31) #[] #[])))) (gy rfl rfl rfl h3) rfl rfl rfl (bi h fun x4 h5 h => o_cA (zCc _ 31 [] _ zFJ ⟨_, Tryd.func31, rfl, rfl⟩ _ h5) (gy rfl rfl rfl h3) rfl (.cons .r (.cons (.t (.d (.fn _))) .nil)) rfl (o_pF (.b x4) h3 rfl (zA ?_))))
 refine c_if h rfl (fun h6 h => c_sr (o_s (.t (.agg (ar cU8 (0 : UInt8) ([] : (List UInt8)) 0 32))) (g0 rfl) rfl rfl (by kernel_rfl) (o_st (b := 6) (.box (List.map T.d (ar cU8 (0 : UInt8) ([] : (List UInt8)) 0 32))) (g0 rfl) rfl rfl (by kernel_rfl) (o_1 (.i 3) rfl (zA (zH ?_)))))) fun h6 h => zK (c_sr (o_m2 (.s p1) (.i (p1.length : Int)) rfl (o_c (g0 rfl) rfl rfl rfl (congrArg (fun z => A.t (.d (.lit (.int .u8 z)))) (u8c _)) trivial (o_m2 (.t (.own 5 1 (zD [(U8 (p1.length : Int))]))) (.s p1) rfl ?_))))
 ·
  cases h; exact eR rfl rfl
 refine bi h fun x7 h8 h => o_c (g0 rfl) rfl rfl rfl (strBE h8) (strBC h8) (o_1 (.t (.own 27 1 (List.map (cSl 1 cU8) [[(U8 (p1.length : Int))], x7]))) rfl (o_2 (.t (.d (.seq 1 (List.map (cSl 1 cU8) [[(U8 (p1.length : Int))], x7])))) (.t (.own 27 1 (List.map (cSl 1 cU8) [[(U8 (p1.length : Int))], x7]))) (g0 rfl) rfl rfl rfl (zA (zX r (fun (y9 : (List (List UInt8))) => [(0, .y p0), (6, .box (List.map T.d (ar cU8 (0 : UInt8) ([] : (List UInt8)) 0 32))), (9, .t (.own 27 1 (List.map (cSl 1 cU8) y9))), (HK, .hp (hpA w0))]) (fun y9 => zCo p0 y9) ?_ ?_))))
 ·
  refine c_sr (o_1 (.t (.d (.seq 1 (List.map (cSl 1 cU8) p2)))) rfl (o_c (g0 rfl) rfl rfl rfl (lenE _ _) trivial (o_1 (.i 0) rfl (zA (zL (c_lp (fun (q : (List (List UInt8)) × Int) => [(0, .y p0), (6, .box (List.map T.d (ar cU8 (0 : UInt8) ([] : (List UInt8)) 0 32))), (9, .t (.own 27 1 (List.map (cSl 1 cU8) q.1))), (40, .t (.d (.seq 1 (List.map (cSl 1 cU8) p2)))), (41, .i (p2.length : Int)), (42, .i q.2), (HK, .hp (hpA w0))]) (fun nl2 q => zAZ p2 p0 nl2 q.1 q.2) (p2.length + 1) ([[(U8 (p1.length : Int))], x7], 0) h (fun _ => rfl) rfl rfl ?_))))))
  rintro nl2 ⟨z16, z17⟩ h
  refine c_sr (o_1 (.b (decide (z17 < (p2.length : Int)))) rfl (zA (zM (c_if h rfl (fun h18 h => zK (zM (zL (c_sr ?_)))) fun h18 h => qU ?_))))
  ·
   refine bi h fun x19 h20 h => o_c (g0 rfl) rfl rfl rfl (idxE h20) (idxC h20) (o_m2 (.y x19) (.y x19) rfl (zA (c_sr (o_1 (.y x19) rfl (o_c (g0 rfl) rfl rfl rfl (lenE _ _) trivial ?_)))))
   refine bi h fun x21 h22 h => o_cA (zFX _ _ _ h22) (g0 rfl) rfl (.cons .r (.cons .r .nil)) rfl (o_m5 (.tup [.y x21.1, .i x21.2]) (.y x21.1) (.i x21.2) (.y x21.1) (.i x21.2) rfl (zA (zG (o_2 (.t (.d (.seq 1 (List.map (cSl 1 cU8) z16)))) (.t (.own 27 1 (List.map (cSl 1 cU8) z16))) (g0 rfl) rfl rfl rfl (o_m3 (.y x21.1) (.y x19) (.t (.own 27 1 (List.map (cSl 1 cU8) [x21.1, x19]))) rfl ?_)))))
   refine bi h fun x23 h24 h => o_2c (g0 rfl) rfl rfl rfl (appE (c := (cSl 1 cU8)) h24) (appC (c := (cSl 1 cU8)) h24) (o_2 (.t (.d (.seq 1 (List.map (cSl 1 cU8) x23)))) (.t (.own 27 1 (List.map (cSl 1 cU8) x23))) (g0 rfl) rfl rfl rfl (zA (zG (o_m2 (.i (wi (z17 + 1))) (.i (wi (z17 + 1))) rfl (zA ?_)))))
   exact lE (x23, (wi (z17 + 1))) h rfl rfl
  exact lE z16 h rfl rfl
 rintro y9 h
 refine c_sr (o_1 (.y p0) rfl (o_2 (.t (.d (.seq 1 (List.map (cSl 1 cU8) y9)))) (.t (.own 27 1 (List.map (cSl 1 cU8) y9))) (g0 rfl) rfl rfl rfl (bi h fun x10 h11 h => o_cH (zFt _ _ w0 _ h11) (g0 rfl) rfl (a2 (aR rfl) (aR rfl)) (r1 rfl) (o_s (.box (List.map T.d (ar cU8 (0 : UInt8) ([] : (List UInt8)) 0 64))) (g0 rfl) rfl rfl (by kernel_rfl) (o_st (b := 14) (.box (List.map T.d (ar cU8 (0 : UInt8) x10 0 64))) (g0 rfl) rfl rfl (by kernel_rfl) (zA (zM (c_fz (pins := _) 14 (.imm (ar cU8 (0 : UInt8) x10 0 64)) rfl rfl rfl (by kernel_rfl) (zG ?_)))))))))
 refine bi h fun x12 h13 h => o_of (e := [(61, .y x12)]) (g0 rfl) (zFF (c := cU8) (z := (0 : UInt8)) mR rfl rfl (fun _ => rfl) rfl rfl rfl rfl rfl rfl rfl rfl h13 rfl rfl) rfl (bi h fun x14 h15 h => o_of (e := [(62, .imm (ar cU8 (0 : UInt8) x14 0 32))]) (g0 rfl) (h_s2a (cc := cU8) (z := (0 : UInt8)) mR rfl rfl rfl rfl h15 rfl rfl) rfl (o_s (.t (.agg (ar cU8 (0 : UInt8) x14 0 32))) (g0 rfl) rfl rfl (by kernel_rfl) (o_st (b := 6) (.box (List.map T.d (ar cU8 (0 : UInt8) x14 0 32))) (g0 rfl) rfl rfl (by kernel_rfl) (o_1 (.i 0) rfl (zA (zH ?_))))))
 cases h; exact eR rfl rfl
theorem zFe (p0 : (List UInt8)) (p1 : Int) (w0 : Hp) (r : ((List UInt8) × Int)) (h : zD1 p0 p1 = some r) : FCH Tryd.prog 6 [.t (.agg (ar cU8 (0 : UInt8) p0 0 32)), .t (.d (.lit (.int .i64 p1)))] [] [] (hpA w0) (hpA w0) (.tup [.agg (ar cU8 (0 : UInt8) r.1 0 32), .d (.lit (.int .i64 r.2))]) := by
 refine zBM (rs := [.cell 4 22, .tmp 5]) (n := 26) [] Tryd.func6 rfl rfl (Nat.le_of_ble_eq_true rfl) rfl (pins := []) rfl (L := [(HK, .hp (hpA w0)), (0, .t (.agg (ar cU8 (0 : UInt8) p0 0 32))), (1, .i p1)]) rfl (c_sr (o_s (.box (List.map T.d (ar cU8 (0 : UInt8) p0 0 32))) (g0 rfl) rfl rfl (by kernel_rfl) (o_s (.box (List.map T.d (ar cU8 (0 : UInt8) ([] : (List UInt8)) 0 32))) (g0 rfl) rfl rfl (by kernel_rfl) (o_1 (.i 0) rfl (zA (zM (c_sr (o_m3 (.i p1) (.b (decide (p1 < 0))) (.b (decide (p1 < 0))) rfl ?_))))))))
 rcases zE h with ⟨h1, h⟩ | ⟨h1, h⟩
 ·
  refine o_k2 rfl h1 (o_pT (.b true) h1 rfl (zA (c_t rfl rfl (c_sr (o_s (.t (.agg (ar cU8 (0 : UInt8) ([] : (List UInt8)) 0 32))) (g0 rfl) rfl rfl (by kernel_rfl) (o_st (b := 4) (.box (List.map T.d (ar cU8 (0 : UInt8) ([] : (List UInt8)) 0 32))) (g0 rfl) rfl rfl (by kernel_rfl) (o_1 (.i 2) rfl (zA (zH ?_)))))))))
  cases h; exact eR rfl rfl
 refine o_s (.i p1) (gy rfl rfl rfl h1) rfl rfl rfl (o_s (.b (decide (p1 > 1024))) (gy rfl rfl rfl h1) rfl rfl rfl (o_pF (.b (decide (p1 > 1024))) h1 rfl (zA ?_)))
 refine c_if h rfl (fun h2 h => c_sr (o_s (.t (.agg (ar cU8 (0 : UInt8) ([] : (List UInt8)) 0 32))) (g0 rfl) rfl rfl (by kernel_rfl) (o_st (b := 4) (.box (List.map T.d (ar cU8 (0 : UInt8) ([] : (List UInt8)) 0 32))) (g0 rfl) rfl rfl (by kernel_rfl) (o_1 (.i 2) rfl (zA (zH ?_)))))) fun h2 h => zK (c_sr (o_1 (.i p1) rfl ?_))
 ·
  cases h; exact eR rfl rfl
 refine bi h fun x3 h4 h => o_cA (zFX _ _ _ h4) (g0 rfl) rfl (.cons .r (.cons .r .nil)) rfl (o_m5 (.tup [.y x3.1, .i x3.2]) (.y x3.1) (.i x3.2) (.y x3.1) (.i x3.2) rfl (zA (zM (c_fz (pins := _) 2 (.imm (ar cU8 (0 : UInt8) p0 0 32)) rfl rfl rfl (by kernel_rfl) (zG (bi h fun x5 h6 h => o_of (e := [(20, .y x5)]) (g0 rfl) (zFF (c := cU8) (z := (0 : UInt8)) mR rfl rfl (fun _ => rfl) rfl rfl rfl rfl rfl rfl rfl rfl h6 rfl rfl) rfl (o_m2 (.y x3.1) (.t (.own 27 1 (List.map (cSl 1 cU8) [x3.1]))) rfl ?_)))))))
 refine bi h fun x7 h8 h => o_cH (zF0 _ _ _ w0 _ h8) (g0 rfl) rfl (a3 (aR rfl) (aR rfl) (aR rfl)) (r2 rfl) (o_s (.t (.agg (ar cU8 (0 : UInt8) x7.1 0 32))) (g0 rfl) rfl rfl (by kernel_rfl) (o_1 (.i x7.2) rfl (o_st (b := 4) (.box (List.map T.d (ar cU8 (0 : UInt8) x7.1 0 32))) (g0 rfl) rfl rfl (by kernel_rfl) (o_1 (.i x7.2) rfl (zA (zH ?_))))))
 cases h; exact eR rfl rfl
theorem zAW (p0 : UInt8) (p1 : Int) (r : (List UInt8)) (h : qV p0 p1 = some r) : FC Tryd.prog 19 [.t (.d (.lit (.int .u8 (p0.toNat : Int)))), .t (.d (.lit (.int .i64 p1)))] [] (.t (.d (.lit (.string ⟨⟨r⟩⟩)))) := by
 refine zAO (rs := [.tmp 4]) (n := 11) Tryd.func19 rfl rfl (Nat.le_of_ble_eq_true rfl) rfl (pins := []) rfl (L := [(0, .t (.d (.lit (.int .u8 (p0.toNat : Int))))), (1, .i p1)]) rfl (c_sr (o_1 (.s []) rfl (zA (c_sr (o_m2 (.t (.d (.lit (.int .u8 (p0.toNat : Int))))) (.i p1) rfl (o_c (g0 rfl) rfl rfl rfl (congrArg (fun z => A.t (.d (.lit (.int .u8 z)))) (u8c _)) trivial (o_c (g0 rfl) rfl rfl rfl (congrArg (fun z => A.t (.d (.lit (.int .u8 z)))) (u8c _)) trivial (o_1 (.t (.own 5 1 (zD [p0, (U8 (48 + ((U8 p1).toNat : Int)))]))) rfl ?_))))))))
 refine o_c (g0 rfl) rfl rfl rfl (strE _) (zFq _) (o_1 (.s [p0, (U8 (48 + ((U8 p1).toNat : Int)))]) rfl (zA (zH ?_)))
 cases h
 exact end0 rfl .r
theorem qG (p0 : Int) (p1 : Int) (c2 : (List UInt8)) (r : Int) (h : zJ p0 p1 c2 = some r) : FC Tryd.prog 34 [.t (.d (.lit (.int .i64 p0))), .t (.d (.lit (.int .i64 p1))), .imm (ar cU8 (0 : UInt8) c2 0 32)] [] (.t (.d (.lit (.int .i64 r)))) := by
 refine zAO (rs := [.tmp 5]) (n := 12) Tryd.func34 rfl rfl (Nat.le_of_ble_eq_true rfl) rfl (pins := []) rfl (L := [(0, .i p0), (1, .i p1), (2, .imm (ar cU8 (0 : UInt8) c2 0 32))]) rfl (c_sr (o_1 (.i 0) rfl (zA (c_sr (o_1 (.i p0) rfl (bi h fun x1 h2 h => o_of (e := [(7, .imm [.lit (.int .u8 (x1.toNat : Int))])]) (g0 rfl) (zBK mR rfl rfl rfl rfl rfl rfl (qJ h2) (yJ h2 (fun _ => rfl) rfl) rfl rfl) rfl (o_1 (.t (.d (.lit (.int .u8 (x1.toNat : Int))))) rfl (o_c (g0 rfl) rfl rfl rfl (congrArg (fun z => A.i z) (zBL _)) trivial (o_1 (.i p1) rfl ?_)))))))))
 refine bi h fun x3 h4 h => o_b (.i x3) (remIE h4) (g0 rfl) rfl rfl rfl rfl rfl rfl rfl (o_1 (.i x3) rfl (zA (zH ?_)))
 cases h
 exact end0 rfl .r
theorem zHH (p0 : Int) (p1 : (List UInt8)) (r : (List UInt8)) (h : zDn p0 p1 = some r) : FC Tryd.prog 35 [.t (.d (.lit (.int .i64 p0))), .t (.d (.lit (.string ⟨⟨p1⟩⟩)))] [] (.t (.d (.lit (.string ⟨⟨r⟩⟩)))) := by
 refine zAO (rs := [.tmp 4]) (n := 16) Tryd.func35 rfl rfl (Nat.le_of_ble_eq_true rfl) rfl (pins := []) rfl (L := [(0, .i p0), (1, .s p1)]) rfl (c_sr (o_1 (.s []) rfl (zA (zM (c_sr (o_1 (.i p0) rfl ?_))))))
 refine bi h fun x1 h2 h => o_cA (zAW _ _ _ h2) (g0 rfl) rfl (.cons .r (.cons .r .nil)) rfl (o_1 (.s x1) rfl (zA (c_sr (o_m3 (.i p0) (.b (decide (p0 < 5))) (.b (decide (p0 < 5))) rfl ?_))))
 rcases zE h with ⟨h3, h⟩ | ⟨h3, h⟩
 ·
  refine o_s (.s x1) (gy rfl rfl rfl h3) rfl rfl rfl (o_s (.s p1) (gy rfl rfl rfl h3) rfl rfl rfl (o_c (gy rfl rfl rfl h3) rfl rfl rfl (congrArg (fun z => A.b (!z)) (qP _ _)) trivial (o_pT (.b (!(x1 == p1))) h3 rfl (zA ?_))))
  refine c_if h rfl (fun h4 h => c_sr (o_m2 (.s x1) (.s x1) rfl (zA (zH ?_)))) fun h4 h => zK (c_sr (o_1 (.s []) rfl (zA (zH ?_))))
  ·
   cases h
   exact end0 rfl .r
  cases h
  exact end0 rfl .r
 refine o_k3 rfl h3 (o_pF (.b false) h3 rfl (zA (c_f rfl rfl (zK (c_sr (o_1 (.s []) rfl (zA (zH ?_))))))))
 cases h
 exact end0 rfl .r
theorem zGR (p0 : (List UInt8)) (r : zC) (h : zAk p0 = some r) : FC Tryd.prog 20 [.t (.agg (ar cU8 (0 : UInt8) p0 0 32))] [] (.t (.agg [.lit (.int .i64 r.Kind), .lit (.string ⟨⟨r.User⟩⟩), .lit (.string ⟨⟨r.Folder⟩⟩), .lit (.string ⟨⟨r.Name⟩⟩), .lit (.string ⟨⟨r.Other⟩⟩), .lit (.int .i64 r.Role), .lit (.int .i64 r.Version), .seq 1 (zD r.Data)])) := by
 refine zAO (rs := [.cell 2 29]) (n := 89) Tryd.func20 rfl rfl (Nat.le_of_ble_eq_true rfl) rfl (pins := []) rfl (L := [(0, .t (.agg (ar cU8 (0 : UInt8) p0 0 32)))]) rfl (c_sr (o_s (.box (List.map T.d (ar cU8 (0 : UInt8) p0 0 32))) (g0 rfl) rfl rfl (by kernel_rfl) (o_1 (.box [.i 0, .s [], .s [], .s [], .s [], .i 0, .i 0, .n]) rfl (zA (zM (c_fz 1 (.imm (ar cU8 (0 : UInt8) p0 0 32)) rfl rfl rfl rfl (zG (o_mfc (.t (.d (.clo 34 [ar cU8 (0 : UInt8) p0 0 32]))) (g0 rfl) rfl rfl rfl rfl rfl ?_))))))))
 refine o_1 (.t (.d (.clo 34 [ar cU8 (0 : UInt8) p0 0 32]))) rfl (zA (zM (zBN zC8 (by kernel_rfl) (d_1 (.t (.d (.clo 34 [ar cU8 (0 : UInt8) p0 0 32]))) rfl rfl (bi h fun x1 h2 h => d_cc (args := [.i 0, .i 17]) (caps := [ar cU8 (0 : UInt8) p0 0 32]) (qG _ _ p0 _ h2) rfl (dg0 rfl) rfl rfl rfl rfl rfl rfl rfl rfl (.cons .r (.cons .r .nil)) rfl rfl (bi h fun x3 h4 h => d_gix (k := .i64) (l := zBA) h4 rfl (dg0 rfl) rfl rfl rfl rfl rfl rfl (by kernel_rfl) (d_1 (.i x3) rfl rfl (d_1 (.t (.d (.clo 34 [ar cU8 (0 : UInt8) p0 0 32]))) rfl rfl ?_))))))))
 refine bi h fun x5 h6 h => d_cc (args := [.i 1, .i 4]) (caps := [ar cU8 (0 : UInt8) p0 0 32]) (qG _ _ p0 _ h6) rfl (dg0 rfl) rfl rfl rfl rfl rfl rfl rfl rfl (.cons .r (.cons .r .nil)) rfl rfl (bi h fun x7 h8 h => d_ca (zAW _ _ _ h8) rfl (dg0 rfl) rfl rfl rfl rfl rfl rfl rfl rfl (.cons .r (.cons .r .nil)) rfl rfl (d_1 (.t (.agg [.i x3, .s x7, .s [], .s [], .s [], .i 0, .i 0, .n])) rfl rfl (d_1 (.box [.i 0, .s [], .s [], .s [], .s [], .i 0, .i 0, .n]) rfl rfl (d_st (.box [.i x3, .s x7, .s [], .s [], .s [], .i 0, .i 0, .n]) rfl (dg0 rfl) rfl rfl rfl rfl (zCi (by kernel_rfl) (zM (c_sr (o_m3 (.ref 4 0) (.i x3) (.b (x3 == 14)) rfl ?_))))))))
 refine zA (c_if h rfl (fun h9 h => c_sr (o_1 (.t (.d (.clo 34 [ar cU8 (0 : UInt8) p0 0 32]))) rfl ?_)) fun h9 h => zK (c_sr (o_1 (.t (.d (.clo 34 [ar cU8 (0 : UInt8) p0 0 32]))) rfl ?_)))
 ·
  refine bi h fun x10 h11 h => o_cc (args := [.i 1, .i 4]) (caps := [ar cU8 (0 : UInt8) p0 0 32]) (qG _ _ p0 _ h11) (g0 rfl) rfl rfl rfl rfl rfl rfl rfl (.cons .r (.cons .r .nil)) rfl rfl (o_m2 (.i (wi (x10 + 1))) (.t (.d (.clo 34 [ar cU8 (0 : UInt8) p0 0 32]))) rfl (bi h fun x12 h13 h => o_cc (args := [.i 7, .i 3]) (caps := [ar cU8 (0 : UInt8) p0 0 32]) (qG _ _ p0 _ h13) (g0 rfl) rfl rfl rfl rfl rfl rfl rfl (.cons .r (.cons .r .nil)) rfl rfl (o_m2 (.i (wi ((wi (x10 + 1)) + x12))) (.i (Int.tmod (wi ((wi (x10 + 1)) + x12)) 4)) rfl ?_)))
  refine bi h fun x14 h15 h => o_cA (zAW _ _ _ h15) (g0 rfl) rfl (.cons .r (.cons .r .nil)) rfl (o_1 (.ref 4 4) rfl (o_st (.box [.i x3, .s x7, .s [], .s [], .s x14, .i 0, .i 0, .n]) (g0 rfl) rfl rfl rfl (zA (c_sr (o_1 (.t (.agg [.i x3, .s x7, .s [], .s [], .s x14, .i 0, .i 0, .n])) rfl (o_st (.box [.i x3, .s x7, .s [], .s [], .s x14, .i 0, .i 0, .n]) (g0 rfl) rfl rfl rfl (zA (zH ?_))))))))
  cases h
  exact end0 rfl (.t (.agg (.cons .r (.cons .r (.cons .r (.cons .r (.cons .r (.cons .r (.cons .r (.cons (.nil _) .nil))))))))))
 refine bi h fun x16 h17 h => o_cc (args := [.i 2, .i 5]) (caps := [ar cU8 (0 : UInt8) p0 0 32]) (qG _ _ p0 _ h17) (g0 rfl) rfl rfl rfl rfl rfl rfl rfl (.cons .r (.cons .r .nil)) rfl rfl ?_
 refine bi h fun x18 h19 h => o_cA (zAW _ _ _ h19) (g0 rfl) rfl (.cons .r (.cons .r .nil)) rfl (o_1 (.ref 4 2) rfl (o_st (.box [.i x3, .s x7, .s x18, .s [], .s [], .i 0, .i 0, .n]) (g0 rfl) rfl rfl rfl (zA (zM (c_sr (o_m2 (.ref 4 0) (.i x3) rfl (zA (zL ?_))))))))
 refine zX r (fun (y20 : Bool) => [(1, .imm (ar cU8 (0 : UInt8) p0 0 32)), (2, .box [.i 0, .s [], .s [], .s [], .s [], .i 0, .i 0, .n]), (3, .t (.d (.clo 34 [ar cU8 (0 : UInt8) p0 0 32]))), (4, .box [.i x3, .s x7, .s x18, .s [], .s [], .i 0, .i 0, .n]), (32, .i x3), (33, .b y20)]) (fun y20 => zAz p0 x18 x3 x7 y20) ?_ ?_
 ·
  refine c_sr (o_m2 (.b (x3 == 2)) (.b (x3 == 2)) rfl (zA (c_if h rfl (fun h65 h => zK ?_) fun h65 h => zG (o_m2 (.b (x3 == 3)) (.b (x3 == 3)) rfl (zA ?_)))))
  ·
   exact lE (x3 == 2) h rfl rfl
  exact lE (x3 == 3) h rfl rfl
 rintro y20 h
 refine c_if h rfl (fun h21 h => zBN zC8 (by kernel_rfl) (d_1 (.t (.d (.clo 34 [ar cU8 (0 : UInt8) p0 0 32]))) rfl rfl ?_)) fun h21 h => ?_
 ·
  refine bi h fun x22 h23 h => d_cc (args := [.i 7, .i 6]) (caps := [ar cU8 (0 : UInt8) p0 0 32]) (qG _ _ p0 _ h23) rfl (dg0 rfl) rfl rfl rfl rfl rfl rfl rfl rfl (.cons .r (.cons .r .nil)) rfl rfl (d_1 (.ref 4 2) rfl rfl (d_1 (.s x18) rfl rfl ?_))
  refine bi h fun x24 h25 h => d_ca (zHH _ _ _ h25) rfl (dg0 rfl) rfl rfl rfl rfl rfl rfl rfl rfl (.cons .r (.cons .r .nil)) rfl rfl (d_1 (.ref 4 4) rfl rfl (d_st (.box [.i x3, .s x7, .s x18, .s [], .s x24, .i 0, .i 0, .n]) rfl (dg0 rfl) rfl rfl rfl rfl (zCi (by kernel_rfl) (c_sr (o_1 (.t (.agg [.i x3, .s x7, .s x18, .s [], .s x24, .i 0, .i 0, .n])) rfl (o_st (.box [.i x3, .s x7, .s x18, .s [], .s x24, .i 0, .i 0, .n]) (g0 rfl) rfl rfl rfl (zA (zH ?_))))))))
  cases h
  exact end0 rfl (.t (.agg (.cons .r (.cons .r (.cons .r (.cons .r (.cons .r (.cons .r (.cons .r (.cons (.nil _) .nil))))))))))
 refine zX r (fun (y26 : Bool) => [(1, .imm (ar cU8 (0 : UInt8) p0 0 32)), (2, .box [.i 0, .s [], .s [], .s [], .s [], .i 0, .i 0, .n]), (3, .t (.d (.clo 34 [ar cU8 (0 : UInt8) p0 0 32]))), (4, .box [.i x3, .s x7, .s x18, .s [], .s [], .i 0, .i 0, .n]), (32, .i x3), (42, .b y26)]) (fun y26 => zA5 p0 x3 x7 x18 y26) ?_ ?_
 ·
  refine c_sr (o_m2 (.b (x3 == 5)) (.b (x3 == 5)) rfl (zA (c_if h rfl (fun h64 h => zK ?_) fun h64 h => zG (o_m2 (.b (x3 == 6)) (.b (x3 == 6)) rfl (zA ?_)))))
  ·
   exact lE (x3 == 5) h rfl rfl
  exact lE (x3 == 6) h rfl rfl
 rintro y26 h
 refine c_if h rfl (fun h27 h => zG (o_1 (.t (.d (.clo 34 [ar cU8 (0 : UInt8) p0 0 32]))) rfl ?_)) fun h27 h => c_sr (o_m2 (.b (x3 == 7)) (.b (x3 == 7)) rfl (zA ?_))
 ·
  refine bi h fun x28 h29 h => o_cc (args := [.i 7, .i 4]) (caps := [ar cU8 (0 : UInt8) p0 0 32]) (qG _ _ p0 _ h29) (g0 rfl) rfl rfl rfl rfl rfl rfl rfl (.cons .r (.cons .r .nil)) rfl rfl (bi h fun x30 h31 h => o_cA (zAW _ _ _ h31) (g0 rfl) rfl (.cons .r (.cons .r .nil)) rfl (o_1 (.t (.d (.clo 34 [ar cU8 (0 : UInt8) p0 0 32]))) rfl ?_))
  refine bi h fun x32 h33 h => o_cc (args := [.i 4, .i 4]) (caps := [ar cU8 (0 : UInt8) p0 0 32]) (qG _ _ p0 _ h33) (g0 rfl) rfl rfl rfl rfl rfl rfl rfl (.cons .r (.cons .r .nil)) rfl rfl (o_m2 (.i (wi (1 + x32))) (.ref 4 4) rfl (o_st (.box [.i x3, .s x7, .s x18, .s [], .s x30, .i 0, .i 0, .n]) (g0 rfl) rfl rfl rfl (o_1 (.ref 4 5) rfl (o_st (.box [.i x3, .s x7, .s x18, .s [], .s x30, .i (wi (1 + x32)), .i 0, .n]) (g0 rfl) rfl rfl rfl (zA (c_sr (o_1 (.t (.agg [.i x3, .s x7, .s x18, .s [], .s x30, .i (wi (1 + x32)), .i 0, .n])) rfl ?_)))))))
  refine o_st (.box [.i x3, .s x7, .s x18, .s [], .s x30, .i (wi (1 + x32)), .i 0, .n]) (g0 rfl) rfl rfl rfl (zA (zH ?_))
  cases h
  exact end0 rfl (.t (.agg (.cons .r (.cons .r (.cons .r (.cons .r (.cons .r (.cons .r (.cons .r (.cons (.nil _) .nil))))))))))
 refine c_if h rfl (fun h34 h => zG (o_1 (.t (.d (.clo 34 [ar cU8 (0 : UInt8) p0 0 32]))) rfl ?_)) fun h34 h => c_sr (o_m2 (.b (x3 == 8)) (.b (x3 == 8)) rfl (zA ?_))
 ·
  refine bi h fun x35 h36 h => o_cc (args := [.i 7, .i 4]) (caps := [ar cU8 (0 : UInt8) p0 0 32]) (qG _ _ p0 _ h36) (g0 rfl) rfl rfl rfl rfl rfl rfl rfl (.cons .r (.cons .r .nil)) rfl rfl ?_
  refine bi h fun x37 h38 h => o_cA (zAW _ _ _ h38) (g0 rfl) rfl (.cons .r (.cons .r .nil)) rfl (o_1 (.ref 4 4) rfl (o_st (.box [.i x3, .s x7, .s x18, .s [], .s x37, .i 0, .i 0, .n]) (g0 rfl) rfl rfl rfl (zA (c_sr (o_1 (.t (.agg [.i x3, .s x7, .s x18, .s [], .s x37, .i 0, .i 0, .n])) rfl (o_st (.box [.i x3, .s x7, .s x18, .s [], .s x37, .i 0, .i 0, .n]) (g0 rfl) rfl rfl rfl (zA (zH ?_))))))))
  cases h
  exact end0 rfl (.t (.agg (.cons .r (.cons .r (.cons .r (.cons .r (.cons .r (.cons .r (.cons .r (.cons (.nil _) .nil))))))))))
 refine c_if h rfl (fun h39 h => zG (o_1 (.t (.d (.clo 34 [ar cU8 (0 : UInt8) p0 0 32]))) rfl ?_)) fun h39 h => c_sr (o_m2 (.b (x3 == 9)) (.b (x3 == 9)) rfl (zA ?_))
 ·
  refine bi h fun x40 h41 h => o_cc (args := [.i 3, .i 2]) (caps := [ar cU8 (0 : UInt8) p0 0 32]) (qG _ _ p0 _ h41) (g0 rfl) rfl rfl rfl rfl rfl rfl rfl (.cons .r (.cons .r .nil)) rfl rfl (bi h fun x42 h43 h => o_cA (zAW _ _ _ h43) (g0 rfl) rfl (.cons .r (.cons .r .nil)) rfl (o_b0 (.t (.own 5 1 (zD []))) (g0 rfl) rfl rfl rfl rfl rfl (o_1 (.t (.d (.clo 34 [ar cU8 (0 : UInt8) p0 0 32]))) rfl (bi h fun x44 h45 h => o_cc (args := [.i 6, .i 9]) (caps := [ar cU8 (0 : UInt8) p0 0 32]) (qG _ _ p0 _ h45) (g0 rfl) rfl rfl rfl rfl rfl rfl rfl (.cons .r (.cons .r .nil)) rfl rfl (o_1 (.i (wi (16 + x44))) rfl ?_)))))
  refine bi h fun x46 h47 h => o_of (e := [(68, .y x46)]) (g0 rfl) (zFF (c := cU8) (z := (0 : UInt8)) mR rfl rfl (fun _ => rfl) rfl rfl rfl rfl rfl rfl rfl rfl h47 rfl rfl) rfl (bi h fun x48 h49 h => o_2c (g0 rfl) rfl rfl rfl (appE (c := cU8) h49) (appC (c := cU8) h49) (o_1 (.ref 4 3) rfl (o_st (.box [.i x3, .s x7, .s x18, .s x42, .s [], .i 0, .i 0, .n]) (g0 rfl) rfl rfl rfl (o_1 (.ref 4 7) rfl (o_st2 (.y x48) (.box [.i x3, .s x7, .s x18, .s x42, .s [], .i 0, .i 0, .own 5 1 (zD x48)]) (g0 rfl) rfl rfl rfl (zA (c_sr (o_1 (.t (.agg [.i x3, .s x7, .s x18, .s x42, .s [], .i 0, .i 0, .y x48])) rfl ?_))))))))
  refine o_st (.box [.i x3, .s x7, .s x18, .s x42, .s [], .i 0, .i 0, .y x48]) (g0 rfl) rfl rfl rfl (zA (zH ?_))
  cases h
  exact end0 rfl .r
 refine c_if h rfl (fun h50 h => zG (o_1 (.t (.d (.clo 34 [ar cU8 (0 : UInt8) p0 0 32]))) rfl ?_)) fun h50 h => ?_
 ·
  refine bi h fun x51 h52 h => o_cc (args := [.i 3, .i 2]) (caps := [ar cU8 (0 : UInt8) p0 0 32]) (qG _ _ p0 _ h52) (g0 rfl) rfl rfl rfl rfl rfl rfl rfl (.cons .r (.cons .r .nil)) rfl rfl (bi h fun x53 h54 h => o_cA (zAW _ _ _ h54) (g0 rfl) rfl (.cons .r (.cons .r .nil)) rfl (o_1 (.t (.d (.clo 34 [ar cU8 (0 : UInt8) p0 0 32]))) rfl ?_))
  refine bi h fun x55 h56 h => o_cc (args := [.i 5, .i 3]) (caps := [ar cU8 (0 : UInt8) p0 0 32]) (qG _ _ p0 _ h56) (g0 rfl) rfl rfl rfl rfl rfl rfl rfl (.cons .r (.cons .r .nil)) rfl rfl (o_1 (.ref 4 3) rfl (o_st (.box [.i x3, .s x7, .s x18, .s x53, .s [], .i 0, .i 0, .n]) (g0 rfl) rfl rfl rfl (o_1 (.ref 4 6) rfl (o_st (.box [.i x3, .s x7, .s x18, .s x53, .s [], .i 0, .i x55, .n]) (g0 rfl) rfl rfl rfl (zA (c_sr (o_1 (.t (.agg [.i x3, .s x7, .s x18, .s x53, .s [], .i 0, .i x55, .n])) rfl ?_)))))))
  refine o_st (.box [.i x3, .s x7, .s x18, .s x53, .s [], .i 0, .i x55, .n]) (g0 rfl) rfl rfl rfl (zA (zH ?_))
  cases h
  exact end0 rfl (.t (.agg (.cons .r (.cons .r (.cons .r (.cons .r (.cons .r (.cons .r (.cons .r (.cons (.nil _) .nil))))))))))
 refine zX r (fun (y57 : Bool) => [(2, .box [.i 0, .s [], .s [], .s [], .s [], .i 0, .i 0, .n]), (3, .t (.d (.clo 34 [ar cU8 (0 : UInt8) p0 0 32]))), (4, .box [.i x3, .s x7, .s x18, .s [], .s [], .i 0, .i 0, .n]), (81, .b y57)]) (fun y57 => zA3 p0 x3 x7 x18 y57) ?_ ?_
 ·
  refine c_sr (o_m2 (.b (x3 == 11)) (.b (x3 == 11)) rfl (zA (c_if h rfl (fun h63 h => zK ?_) fun h63 h => zG (o_m2 (.b (x3 == 12)) (.b (x3 == 12)) rfl (zA ?_)))))
  ·
   exact lE (x3 == 11) h rfl rfl
  exact lE (x3 == 12) h rfl rfl
 rintro y57 h
 refine c_if h rfl (fun h58 h => zG (o_1 (.t (.d (.clo 34 [ar cU8 (0 : UInt8) p0 0 32]))) rfl ?_)) fun h58 h => zK (c_sr (o_1 (.t (.agg [.i x3, .s x7, .s x18, .s [], .s [], .i 0, .i 0, .n])) rfl (o_st (.box [.i x3, .s x7, .s x18, .s [], .s [], .i 0, .i 0, .n]) (g0 rfl) rfl rfl rfl (zA (zH ?_)))))
 ·
  refine bi h fun x59 h60 h => o_cc (args := [.i 3, .i 2]) (caps := [ar cU8 (0 : UInt8) p0 0 32]) (qG _ _ p0 _ h60) (g0 rfl) rfl rfl rfl rfl rfl rfl rfl (.cons .r (.cons .r .nil)) rfl rfl ?_
  refine bi h fun x61 h62 h => o_cA (zAW _ _ _ h62) (g0 rfl) rfl (.cons .r (.cons .r .nil)) rfl (o_1 (.ref 4 3) rfl (o_st (.box [.i x3, .s x7, .s x18, .s x61, .s [], .i 0, .i 0, .n]) (g0 rfl) rfl rfl rfl (zA (c_sr (o_1 (.t (.agg [.i x3, .s x7, .s x18, .s x61, .s [], .i 0, .i 0, .n])) rfl (o_st (.box [.i x3, .s x7, .s x18, .s x61, .s [], .i 0, .i 0, .n]) (g0 rfl) rfl rfl rfl (zA (zH ?_))))))))
  cases h
  exact end0 rfl (.t (.agg (.cons .r (.cons .r (.cons .r (.cons .r (.cons .r (.cons .r (.cons .r (.cons (.nil _) .nil))))))))))
 cases h
 exact end0 rfl (.t (.agg (.cons .r (.cons .r (.cons .r (.cons .r (.cons .r (.cons .r (.cons .r (.cons (.nil _) .nil))))))))))
theorem zE5 (p0 : (List UInt8)) (p1 : Int) (w0 : Hp) (r : (zC × Int)) (h : zAv p0 p1 = some r) : FCH Tryd.prog 7 [.t (.agg (ar cU8 (0 : UInt8) p0 0 32)), .t (.d (.lit (.int .i64 p1)))] [] [] (hpA w0) (hpA w0) (.tup [.agg [.lit (.int .i64 r.1.Kind), .lit (.string ⟨⟨r.1.User⟩⟩), .lit (.string ⟨⟨r.1.Folder⟩⟩), .lit (.string ⟨⟨r.1.Name⟩⟩), .lit (.string ⟨⟨r.1.Other⟩⟩), .lit (.int .i64 r.1.Role), .lit (.int .i64 r.1.Version), .seq 1 (zD r.1.Data)], .d (.lit (.int .i64 r.2))]) := by
 refine zBM (rs := [.cell 4 29, .tmp 5]) (n := 27) [] Tryd.func7 rfl rfl (Nat.le_of_ble_eq_true rfl) rfl (pins := []) rfl (L := [(HK, .hp (hpA w0)), (0, .t (.agg (ar cU8 (0 : UInt8) p0 0 32))), (1, .i p1)]) rfl (c_sr (o_s (.box (List.map T.d (ar cU8 (0 : UInt8) p0 0 32))) (g0 rfl) rfl rfl (by kernel_rfl) (o_m2 (.box [.i 0, .s [], .s [], .s [], .s [], .i 0, .i 0, .n]) (.i 0) rfl (zA (c_sr (o_s (.t (.agg (ar cU8 (0 : UInt8) p0 0 32))) (g0 rfl) rfl rfl (by kernel_rfl) (o_1 (.i p1) rfl ?_)))))))
 refine bi h fun x1 h2 h => o_cH (zFe _ _ w0 _ h2) (g0 rfl) rfl (a2 (aR rfl) (aR rfl)) (r2 rfl) (o_s (.tup [.agg (ar cU8 (0 : UInt8) x1.1 0 32), .i x1.2]) (g0 rfl) rfl rfl (by kernel_rfl) (o_s (.t (.agg (ar cU8 (0 : UInt8) x1.1 0 32))) (g0 rfl) rfl rfl (by kernel_rfl) (o_1 (.i x1.2) rfl (o_s (.box (List.map T.d (ar cU8 (0 : UInt8) ([] : (List UInt8)) 0 32))) (g0 rfl) rfl rfl (by kernel_rfl) (o_st (b := 6) (.box (List.map T.d (ar cU8 (0 : UInt8) x1.1 0 32))) (g0 rfl) rfl rfl (by kernel_rfl) (o_1 (.i x1.2) rfl (zA (zM (zL (c_sr ?_))))))))))
 refine o_m3 (.i x1.2) (.b (x1.2 != 0)) (.b (x1.2 != 0)) rfl (zA ?_)
 refine c_if h rfl (fun h3 h => c_sr (o_m2 (.t (.agg [.i 0, .s [], .s [], .s [], .s [], .i 0, .i 0, .n])) (.i x1.2) rfl (o_st (.box [.i 0, .s [], .s [], .s [], .s [], .i 0, .i 0, .n]) (g0 rfl) rfl rfl rfl (o_1 (.i x1.2) rfl (zA (zH ?_)))))) fun h3 h => c_sr (o_m3 (.i p1) (.b (decide (p1 < 4))) (.b (decide (p1 < 4))) rfl (zA ?_))
 ·
  cases h
  exact ⟨⟨_, rfl, (.tup (.cons (.agg (.cons .r (.cons .r (.cons .r (.cons .r (.cons .r (.cons .r (.cons .r (.cons (.nil _) .nil))))))))) (.cons .r .nil)))⟩, trivial, rfl⟩
 refine c_if h rfl (fun h4 h => c_sr (o_1 (.i p1) rfl ?_)) fun h4 h => zK (c_sr (o_s (.t (.agg (ar cU8 (0 : UInt8) x1.1 0 32))) (g0 rfl) rfl rfl (by kernel_rfl) ?_))
 ·
  refine bi h fun x5 h6 h => o_cA (zAW _ _ _ h6) (g0 rfl) rfl (.cons .r (.cons .r .nil)) rfl (o_1 (.t (.agg [.i 1, .s x5, .s [], .s [], .s [], .i 0, .i 0, .n])) rfl (o_st (.box [.i 1, .s x5, .s [], .s [], .s [], .i 0, .i 0, .n]) (g0 rfl) rfl rfl rfl (o_1 (.i 0) rfl (zA (zH ?_)))))
  cases h
  exact ⟨⟨_, rfl, (.tup (.cons (.agg (.cons .r (.cons .r (.cons .r (.cons .r (.cons .r (.cons .r (.cons .r (.cons (.nil _) .nil))))))))) (.cons .r .nil)))⟩, trivial, rfl⟩
 refine bi h fun x7 h8 h => o_cA (zGR _ _ h8) (g0 rfl) rfl (.cons .r .nil) rfl (o_st (.box [.i x7.Kind, .s x7.User, .s x7.Folder, .s x7.Name, .s x7.Other, .i x7.Role, .i x7.Version, .y x7.Data]) (g0 rfl) rfl rfl rfl (o_1 (.i 0) rfl (zA (zH ?_))))
 cases h; exact eR rfl rfl
theorem zDk (p0 : (List UInt8)) (p1 : (List UInt8)) (r : Bool) (h : zAY p0 p1 = some r) : FC Tryd.prog 21 [.t (.d (.seq 1 (zD p0))), .t (.d (.seq 1 (zD p1)))] [] (.t (.d (.lit (.bool r)))) := by
 refine zAO (rs := [.tmp 4]) (n := 26) Tryd.func21 rfl rfl (Nat.le_of_ble_eq_true rfl) rfl (pins := []) rfl (L := [(0, .y p0), (1, .y p1)]) rfl (c_sr (o_1 (.b false) rfl (zA (zM (c_sr (o_1 (.y p0) rfl (o_c (g0 rfl) rfl rfl rfl (lenE _ _) trivial (o_1 (.y p1) rfl (o_c (g0 rfl) rfl rfl rfl (lenE _ _) trivial (o_1 (.b ((p0.length : Int) != (p1.length : Int))) rfl (zA ?_)))))))))))
 refine c_if h rfl (fun h1 h => c_sr (o_1 (.b false) rfl (zA (zH ?_)))) fun h1 h => zK (zM (c_sr (o_1 (.i 0) rfl (zA (zL (c_lp (fun (z2 : Int) => [(0, .y p0), (1, .y p1), (5, .i z2)]) (fun nl1 z2 => zBv p0 p1 nl1 z2) (p0.length + 1) 0 h (fun _ => rfl) rfl rfl ?_))))))
 ·
  cases h
  exact end0 rfl .r
 rintro nl1 z2 h
 refine zM (c_sr (o_m2 (.i z2) (.y p0) rfl (o_c (g0 rfl) rfl rfl rfl (lenE _ _) trivial (o_1 (.b (decide (z2 < (p0.length : Int)))) rfl (zA ?_)))))
 refine c_if h rfl (fun h3 h => zK (zM (zL (zM (zBN zC8 (by kernel_rfl) (d_1 (.y p0) rfl rfl (d_1 (.i z2) rfl rfl ?_))))))) fun h3 h => qU (c_sr (o_1 (.b true) rfl (zA (zH ?_))))
 ·
  refine bi h fun x4 h5 h => d_c rfl (dg0 rfl) rfl rfl rfl rfl (idxE h5) (idxC h5) (d_1 (.t (.d (.lit (.int .u8 (x4.toNat : Int))))) rfl rfl (d_1 (.y p1) rfl rfl (d_1 (.i z2) rfl rfl (bi h fun x6 h7 h => d_c rfl (dg0 rfl) rfl rfl rfl rfl (idxE h7) (idxC h7) (d_1 (.t (.d (.lit (.int .u8 (x6.toNat : Int))))) rfl rfl (d_1 (.b ((x4.toNat : Int) != (x6.toNat : Int))) rfl rfl (zCi (by kernel_rfl) ?_)))))))
  refine c_if h rfl (fun h8 h => c_sr (o_1 (.b false) rfl (zA (zH ?_)))) fun h8 h => zK (zG (o_m3 (.i z2) (.i (wi (z2 + 1))) (.i (wi (z2 + 1))) rfl (zA ?_)))
  ·
   cases h
   exact end0 rfl .r
  exact lE (wi (z2 + 1)) h rfl rfl
 cases h
 exact end0 rfl .r
theorem zEW (p0 : zC) (p1 : zC) (r : Bool) (h : zBh p0 p1 = some r) : FC Tryd.prog 8 [.t (.agg [.lit (.int .i64 p0.Kind), .lit (.string ⟨⟨p0.User⟩⟩), .lit (.string ⟨⟨p0.Folder⟩⟩), .lit (.string ⟨⟨p0.Name⟩⟩), .lit (.string ⟨⟨p0.Other⟩⟩), .lit (.int .i64 p0.Role), .lit (.int .i64 p0.Version), .seq 1 (zD p0.Data)]), .t (.agg [.lit (.int .i64 p1.Kind), .lit (.string ⟨⟨p1.User⟩⟩), .lit (.string ⟨⟨p1.Folder⟩⟩), .lit (.string ⟨⟨p1.Name⟩⟩), .lit (.string ⟨⟨p1.Other⟩⟩), .lit (.int .i64 p1.Role), .lit (.int .i64 p1.Version), .seq 1 (zD p1.Data)])] [] (.t (.d (.lit (.bool r)))) := by
 refine zAO (rs := [.tmp 4]) (n := 59) Tryd.func8 rfl rfl (Nat.le_of_ble_eq_true rfl) rfl (pins := []) rfl (L := [(0, .t (.agg [.i p0.Kind, .s p0.User, .s p0.Folder, .s p0.Name, .s p0.Other, .i p0.Role, .i p0.Version, .y p0.Data])), (1, .t (.agg [.i p1.Kind, .s p1.User, .s p1.Folder, .s p1.Name, .s p1.Other, .i p1.Role, .i p1.Version, .y p1.Data]))]) rfl (c_sr (o_m3 (.box [.i p0.Kind, .s p0.User, .s p0.Folder, .s p0.Name, .s p0.Other, .i p0.Role, .i p0.Version, .y p0.Data]) (.box [.i p1.Kind, .s p1.User, .s p1.Folder, .s p1.Name, .s p1.Other, .i p1.Role, .i p1.Version, .y p1.Data]) (.b false) rfl (zA (c_sr (o_m6 (.ref 2 0) (.i p0.Kind) (.ref 3 0) (.i p1.Kind) (.b (p0.Kind == p1.Kind)) (.b (p0.Kind == p1.Kind)) rfl ?_)))))
 rcases zE h with ⟨h1, h⟩ | ⟨h1, h⟩
 ·
  refine o_s (.ref 2 1) (gy rfl rfl rfl h1) rfl rfl rfl (o_s (.s p0.User) (gy rfl rfl rfl h1) rfl rfl rfl (o_s (.ref 3 1) (gy rfl rfl rfl h1) rfl rfl rfl (o_s (.s p1.User) (gy rfl rfl rfl h1) rfl rfl rfl (o_c (gy rfl rfl rfl h1) rfl rfl rfl (congrArg (fun z => A.b z) (qP _ _)) trivial (o_pT (.b (p0.User == p1.User)) h1 rfl (o_1 (.b (p0.User == p1.User)) rfl ?_))))))
  rcases zE h with ⟨h2, h⟩ | ⟨h2, h⟩
  ·
   refine o_s (.ref 2 2) (gy rfl rfl rfl h2) rfl rfl rfl (o_s (.s p0.Folder) (gy rfl rfl rfl h2) rfl rfl rfl (o_s (.ref 3 2) (gy rfl rfl rfl h2) rfl rfl rfl (o_s (.s p1.Folder) (gy rfl rfl rfl h2) rfl rfl rfl (o_c (gy rfl rfl rfl h2) rfl rfl rfl (congrArg (fun z => A.b z) (qP _ _)) trivial (o_pT (.b (p0.Folder == p1.Folder)) h2 rfl (o_1 (.b (p0.Folder == p1.Folder)) rfl ?_))))))
   rcases zE h with ⟨h3, h⟩ | ⟨h3, h⟩
   ·
    refine o_s (.ref 2 3) (gy rfl rfl rfl h3) rfl rfl rfl (o_s (.s p0.Name) (gy rfl rfl rfl h3) rfl rfl rfl (o_s (.ref 3 3) (gy rfl rfl rfl h3) rfl rfl rfl (o_s (.s p1.Name) (gy rfl rfl rfl h3) rfl rfl rfl (o_c (gy rfl rfl rfl h3) rfl rfl rfl (congrArg (fun z => A.b z) (qP _ _)) trivial (o_pT (.b (p0.Name == p1.Name)) h3 rfl (o_1 (.b (p0.Name == p1.Name)) rfl ?_))))))
    rcases zE h with ⟨h4, h⟩ | ⟨h4, h⟩
    ·
     refine o_s (.ref 2 4) (gy rfl rfl rfl h4) rfl rfl rfl (o_s (.s p0.Other) (gy rfl rfl rfl h4) rfl rfl rfl (o_s (.ref 3 4) (gy rfl rfl rfl h4) rfl rfl rfl (o_s (.s p1.Other) (gy rfl rfl rfl h4) rfl rfl rfl (o_c (gy rfl rfl rfl h4) rfl rfl rfl (congrArg (fun z => A.b z) (qP _ _)) trivial (o_pT (.b (p0.Other == p1.Other)) h4 rfl (o_1 (.b (p0.Other == p1.Other)) rfl ?_))))))
     rcases zE h with ⟨h5, h⟩ | ⟨h5, h⟩
     ·
      refine o_s (.ref 2 5) (gy rfl rfl rfl h5) rfl rfl rfl (o_s (.i p0.Role) (gy rfl rfl rfl h5) rfl rfl rfl (o_s (.ref 3 5) (gy rfl rfl rfl h5) rfl rfl rfl (o_s (.i p1.Role) (gy rfl rfl rfl h5) rfl rfl rfl (o_s (.b (p0.Role == p1.Role)) (gy rfl rfl rfl h5) rfl rfl rfl (o_pT (.b (p0.Role == p1.Role)) h5 rfl (o_1 (.b (p0.Role == p1.Role)) rfl ?_))))))
      rcases zE h with ⟨h6, h⟩ | ⟨h6, h⟩
      ·
       refine o_s (.ref 2 6) (gy rfl rfl rfl h6) rfl rfl rfl (o_s (.i p0.Version) (gy rfl rfl rfl h6) rfl rfl rfl (o_s (.ref 3 6) (gy rfl rfl rfl h6) rfl rfl rfl (o_s (.i p1.Version) (gy rfl rfl rfl h6) rfl rfl rfl (o_s (.b (p0.Version == p1.Version)) (gy rfl rfl rfl h6) rfl rfl rfl (o_pT (.b (p0.Version == p1.Version)) h6 rfl (o_1 (.b (p0.Version == p1.Version)) rfl ?_))))))
       rcases zE h with ⟨h7, h⟩ | ⟨h7, h⟩
       ·
        refine o_s (.ref 2 7) (gy rfl rfl rfl h7) rfl rfl rfl (o_s (.y p0.Data) (gy rfl rfl rfl h7) rfl rfl rfl (o_s (.ref 3 7) (gy rfl rfl rfl h7) rfl rfl rfl (o_s (.y p1.Data) (gy rfl rfl rfl h7) rfl rfl rfl (bi h fun x8 h9 h => o_cA (zDk _ _ _ h9) (gy rfl rfl rfl h7) rfl (.cons .r (.cons .r .nil)) rfl (o_pT (.b x8) h7 rfl (o_1 (.b x8) rfl (zA (zH ?_))))))))
        cases h
        exact end0 rfl .r
       refine o_k4 rfl h7 (o_k1 rfl h7 (o_pF (.b false) h7 rfl (o_1 (.b false) rfl (zA (zH ?_)))))
       cases h
       exact end0 rfl .r
      refine o_k4 rfl h6 (o_k1 rfl h6 (o_pF (.b false) h6 rfl (o_1 (.b false) rfl (o_k4 rfl rfl (o_k1 rfl rfl (o_pF (.b false) rfl rfl (o_1 (.b false) rfl (zA (zH ?_)))))))))
      cases h
      exact end0 rfl .r
     refine o_k4 rfl h5 (o_k1 rfl h5 (o_pF (.b false) h5 rfl (o_1 (.b false) rfl (o_k4 rfl rfl (o_k1 rfl rfl (o_pF (.b false) rfl rfl (o_1 (.b false) rfl (o_k4 rfl rfl (o_k1 rfl rfl (o_pF (.b false) rfl rfl ?_))))))))))
     refine o_1 (.b false) rfl (zA (zH ?_))
     cases h
     exact end0 rfl .r
    refine o_k4 rfl h4 (o_k1 rfl h4 (o_pF (.b false) h4 rfl (o_1 (.b false) rfl (o_k4 rfl rfl (o_k1 rfl rfl (o_pF (.b false) rfl rfl (o_1 (.b false) rfl (o_k4 rfl rfl (o_k1 rfl rfl (o_pF (.b false) rfl rfl ?_))))))))))
    refine o_1 (.b false) rfl (o_k4 rfl rfl (o_k1 rfl rfl (o_pF (.b false) rfl rfl (o_1 (.b false) rfl (zA (zH ?_))))))
    cases h
    exact end0 rfl .r
   refine o_k4 rfl h3 (o_k1 rfl h3 (o_pF (.b false) h3 rfl (o_1 (.b false) rfl (o_k4 rfl rfl (o_k1 rfl rfl (o_pF (.b false) rfl rfl (o_1 (.b false) rfl (o_k4 rfl rfl (o_k1 rfl rfl (o_pF (.b false) rfl rfl ?_))))))))))
   refine o_1 (.b false) rfl (o_k4 rfl rfl (o_k1 rfl rfl (o_pF (.b false) rfl rfl (o_1 (.b false) rfl (o_k4 rfl rfl (o_k1 rfl rfl (o_pF (.b false) rfl rfl (o_1 (.b false) rfl (zA (zH ?_))))))))))
   cases h
   exact end0 rfl .r
  refine o_k4 rfl h2 (o_k1 rfl h2 (o_pF (.b false) h2 rfl (o_1 (.b false) rfl (o_k4 rfl rfl (o_k1 rfl rfl (o_pF (.b false) rfl rfl (o_1 (.b false) rfl (o_k4 rfl rfl (o_k1 rfl rfl (o_pF (.b false) rfl rfl ?_))))))))))
  refine o_1 (.b false) rfl (o_k4 rfl rfl (o_k1 rfl rfl (o_pF (.b false) rfl rfl (o_1 (.b false) rfl (o_k4 rfl rfl (o_k1 rfl rfl ?_))))))
  refine o_pF (.b false) rfl rfl (o_1 (.b false) rfl (o_k4 rfl rfl (o_k1 rfl rfl (o_pF (.b false) rfl rfl (o_1 (.b false) rfl (zA (zH ?_)))))))
  cases h
  exact end0 rfl .r
 refine o_k4 rfl h1 (o_k1 rfl h1 (o_pF (.b false) h1 rfl (o_1 (.b false) rfl (o_k4 rfl rfl (o_k1 rfl rfl (o_pF (.b false) rfl rfl (o_1 (.b false) rfl (o_k4 rfl rfl (o_k1 rfl rfl (o_pF (.b false) rfl rfl ?_))))))))))
 refine o_1 (.b false) rfl (o_k4 rfl rfl (o_k1 rfl rfl (o_pF (.b false) rfl rfl (o_1 (.b false) rfl (o_k4 rfl rfl (o_k1 rfl rfl ?_))))))
 refine o_pF (.b false) rfl rfl (o_1 (.b false) rfl (o_k4 rfl rfl (o_k1 rfl rfl (o_pF (.b false) rfl rfl (o_1 (.b false) rfl (o_k4 rfl rfl (o_k1 rfl rfl (o_pF (.b false) rfl rfl (o_1 (.b false) rfl ?_)))))))))
 refine zA (zH ?_)
 cases h
 exact end0 rfl .r
theorem zGf (w0 : Hp) (r : Bool) (h : zDe = some r) : FCH Tryd.prog 5 [] [] [] (hpA w0) (hpA w0) (.t (.d (.lit (.bool r)))) := by
 refine zBM (rs := [.tmp 0]) (n := 15) [] Tryd.func5 rfl rfl (Nat.le_of_ble_eq_true rfl) rfl (pins := []) rfl (L := [(HK, .hp (hpA w0))]) rfl (c_sr (o_1 (.b false) rfl (zA (c_sr (o_s (.t (.agg (ar cU8 (0 : UInt8) [7, (0 : UInt8), (0 : UInt8), (0 : UInt8), (0 : UInt8), (0 : UInt8), (0 : UInt8), (0 : UInt8), (0 : UInt8), (0 : UInt8), (0 : UInt8), (0 : UInt8), (0 : UInt8), (0 : UInt8), (0 : UInt8), (0 : UInt8), (0 : UInt8), (0 : UInt8), (0 : UInt8), (0 : UInt8), (0 : UInt8), (0 : UInt8), (0 : UInt8), (0 : UInt8), (0 : UInt8), (0 : UInt8), (0 : UInt8), (0 : UInt8), (0 : UInt8), (0 : UInt8), (0 : UInt8), (0 : UInt8)] 0 32))) (g0 rfl) rfl rfl (by kernel_rfl) ?_)))))
 refine bi h fun x1 h2 h => o_cH (zE5 _ _ w0 _ h2) (g0 rfl) rfl (a2 (aR rfl) (aR rfl)) (r2 rfl) (o_m4 (.tup [.agg [.i x1.1.Kind, .s x1.1.User, .s x1.1.Folder, .s x1.1.Name, .s x1.1.Other, .i x1.1.Role, .i x1.1.Version, .y x1.1.Data], .i x1.2]) (.t (.agg [.i x1.1.Kind, .s x1.1.User, .s x1.1.Folder, .s x1.1.Name, .s x1.1.Other, .i x1.1.Role, .i x1.1.Version, .y x1.1.Data])) (.i x1.2) (.box [.i 0, .s [], .s [], .s [], .s [], .i 0, .i 0, .n]) rfl (o_st (.box [.i x1.1.Kind, .s x1.1.User, .s x1.1.Folder, .s x1.1.Name, .s x1.1.Other, .i x1.1.Role, .i x1.1.Version, .y x1.1.Data]) (g0 rfl) rfl rfl rfl (o_1 (.i x1.2) rfl (zA (c_sr (o_m3 (.i x1.2) (.b (x1.2 == 0)) (.b (x1.2 == 0)) rfl ?_))))))
 rcases zE h with ⟨h3, h⟩ | ⟨h3, h⟩
 ·
  refine o_s (.t (.agg [.i x1.1.Kind, .s x1.1.User, .s x1.1.Folder, .s x1.1.Name, .s x1.1.Other, .i x1.1.Role, .i x1.1.Version, .y x1.1.Data])) (gy rfl rfl rfl h3) rfl rfl rfl (o_s (.t (.agg [.i 1, .s [117, 48], .s [], .s [], .s [], .i 0, .i 0, .n])) (gy rfl rfl rfl h3) rfl rfl rfl (bi h fun x4 h5 h => o_cA (zEW _ _ _ h5) (gy rfl rfl rfl h3) rfl (.cons .r (.cons (.t (.agg (.cons .r (.cons .r (.cons .r (.cons .r (.cons .r (.cons .r (.cons .r (.cons (.nil _) .nil)))))))))) .nil)) rfl (o_pT (.b x4) h3 rfl (o_1 (.b x4) rfl (zA (zH ?_))))))
  cases h; exact eR rfl rfl
 refine o_k3 rfl h3 (o_pF (.b false) h3 rfl (o_1 (.b false) rfl (zA (zH ?_))))
 cases h; exact eR rfl rfl
theorem zIe (p0 : Int) (p1 : Int) (r : ((List UInt8) × Int)) (h : zFs p0 p1 = some r) : FC Tryd.prog 36 [.t (.d (.lit (.int .i64 p0))), .t (.d (.lit (.int .i64 p1)))] [] (.tup [.d (.seq 1 (zD r.1)), .d (.lit (.int .i64 r.2))]) := by
 refine zAO (rs := [.tmp 4, .tmp 5]) (n := 38) Tryd.func36 rfl rfl (Nat.le_of_ble_eq_true rfl) rfl (pins := []) rfl (L := [(0, .i p0), (1, .i p1)]) rfl (c_sr (o_m2 (.n) (.i 0) rfl (zA (zM (c_sr (o_m3 (.i p1) (.b (decide (p1 < 1))) (.b (decide (p1 < 1))) rfl ?_))))))
 rcases zE h with ⟨h1, h⟩ | ⟨h1, h⟩
 ·
  refine o_k2 rfl h1 (o_pT (.b true) h1 rfl (o_1 (.b true) rfl (o_k2 rfl rfl (o_pT (.b true) rfl rfl (o_1 (.b true) rfl (o_k2 rfl rfl ?_))))))
  refine o_pT (.b true) rfl rfl (zA (c_t rfl rfl (c_sr (o_m2 (.n) (.i 2) rfl (zA (zH ?_))))))
  cases h
  exact end0 rfl (.tup (.cons (.d (.nil _)) (.cons .r .nil)))
 refine o_s (.i p1) (gy rfl rfl rfl h1) rfl rfl rfl (o_s (.b (decide (p1 > 8))) (gy rfl rfl rfl h1) rfl rfl rfl (o_pF (.b (decide (p1 > 8))) h1 rfl (o_1 (.b (decide (p1 > 8))) rfl ?_)))
 rcases zE h with ⟨h2, h⟩ | ⟨h2, h⟩
 ·
  refine o_k2 rfl h2 (o_pT (.b true) h2 rfl (o_1 (.b true) rfl (o_k2 rfl rfl (o_pT (.b true) rfl rfl (zA (c_t rfl rfl (c_sr (o_m2 (.n) (.i 2) rfl (zA (zH ?_))))))))))
  cases h
  exact end0 rfl (.tup (.cons (.d (.nil _)) (.cons .r .nil)))
 refine o_s (.i p0) (gy rfl rfl rfl h2) rfl rfl rfl (o_s (.b (decide (p0 < 0))) (gy rfl rfl rfl h2) rfl rfl rfl (o_pF (.b (decide (p0 < 0))) h2 rfl (o_1 (.b (decide (p0 < 0))) rfl ?_)))
 rcases zE h with ⟨h3, h⟩ | ⟨h3, h⟩
 ·
  refine o_k2 rfl h3 (o_pT (.b true) h3 rfl (zA (c_t rfl rfl (c_sr (o_m2 (.n) (.i 2) rfl (zA (zH ?_)))))))
  cases h
  exact end0 rfl (.tup (.cons (.d (.nil _)) (.cons .r .nil)))
 refine o_s (.i p0) (gy rfl rfl rfl h3) rfl rfl rfl (o_s (.b (decide (p0 > 4611686018427387904))) (gy rfl rfl rfl h3) rfl rfl rfl (o_pF (.b (decide (p0 > 4611686018427387904))) h3 rfl (zA ?_)))
 refine c_if h rfl (fun h4 h => c_sr (o_m2 (.n) (.i 2) rfl (zA (zH ?_)))) fun h4 h => zK (c_sr (o_1 (.n) rfl (zA ?_)))
 ·
  cases h
  exact end0 rfl (.tup (.cons (.d (.nil _)) (.cons .r .nil)))
 refine zX r (fun (q : Int × (List UInt8)) => [(0, .i q.1), (6, .t (.own 5 1 (zD q.2)))]) (fun q => zD6 q.1 q.2) ?_ ?_
 ·
  refine c_sr (o_1 (.i 0) rfl (zA (zL (zA7 (fun (q : Int × (List UInt8) × Int) => [(0, .i q.1), (1, .i p1), (6, .t (.own 5 1 (zD q.2.1))), (7, .i q.2.2)]) (fun nl2 q => zBc p1 nl2 q.1 q.2.1 q.2.2) (Int.toNat p1 + 1) (p0, [], 0) [] h (fun _ => rfl) rfl trivial ⟨.r, .r, (.t (.nilOwn _ _)), .r, trivial⟩ rfl ?_))))
  rintro nl2 ⟨z8, z9, z10⟩ h
  refine zM (c_sr (o_m3 (.i z10) (.i p1) (.b (decide (z10 < p1))) rfl (zA ?_)))
  refine c_if h rfl (fun h11 h => zK (zM (zL (c_sr (o_2 (.y z9) (.t (.own 5 1 (zD z9))) (g0 rfl) rfl rfl rfl (o_m2 (.i z8) (.i (Int.tmod z8 256)) rfl (o_c (g0 rfl) rfl rfl rfl (congrArg (fun z => A.t (.d (.lit (.int .u8 z)))) (u8c _)) trivial ?_))))))) fun h11 h => qU ?_
  ·
   refine o_1 (.t (.own 5 1 (zD [(U8 (Int.tmod z8 256))]))) rfl (bi h fun x12 h13 h => o_2c (g0 rfl) rfl rfl rfl (appE (c := cU8) h13) (appC (c := cU8) h13) (o_2 (.y x12) (.t (.own 5 1 (zD x12))) (g0 rfl) rfl rfl rfl (zA (zG (o_m3 (.i z8) (.i (wi (Int.tdiv z8 256))) (.i (wi (Int.tdiv z8 256))) rfl (zA (zG (o_m3 (.i z10) (.i (wi (z10 + 1))) (.i (wi (z10 + 1))) rfl ?_))))))))
   refine zA ?_
   exact lE ((wi (Int.tdiv z8 256)), x12, (wi (z10 + 1))) h rfl rfl
  exact lE (z8, z9) h rfl rfl
 rintro ⟨y5, y6⟩ h
 refine zM (c_sr (o_m2 (.i y5) (.b (decide (y5 > 0))) rfl (zA ?_)))
 refine c_if h rfl (fun h7 h => c_sr (o_m2 (.n) (.i 2) rfl (zA (zH ?_)))) fun h7 h => zK (c_sr (o_2 (.y y6) (.t (.own 5 1 (zD y6))) (g0 rfl) rfl rfl rfl (o_2 (.y y6) (.t (.own 5 1 (zD y6))) (g0 rfl) rfl rfl rfl (o_1 (.i 0) rfl (zA (zH ?_))))))
 ·
  cases h
  exact end0 rfl (.tup (.cons (.d (.nil _)) (.cons .r .nil)))
 cases h
 exact end0 rfl .r
theorem zGX (p0 : (List UInt8)) (r : (List UInt8)) (h : zCy p0 = some r) : FC Tryd.prog 37 [.t (.d (.seq 1 (zD p0)))] [] (.t (.own 5 1 (zD r))) := by
 refine zAO (rs := [.tmp 2]) (n := 20) Tryd.func37 rfl rfl (Nat.le_of_ble_eq_true rfl) rfl (pins := []) rfl (L := [(0, .y p0)]) rfl (c_sr (o_1 (.n) rfl (zA (c_sr (o_1 (.n) rfl (zA (zM (c_sr ?_))))))))
 refine o_1 (.y p0) rfl (o_c (g0 rfl) rfl rfl rfl (lenE _ _) trivial (o_m2 (.i (wi ((p0.length : Int) - 1))) (.i (wi ((p0.length : Int) - 1))) rfl (zA (zL (zA7 (fun (q : (List UInt8) × Int) => [(0, .y p0), (3, .t (.own 5 1 (zD q.1))), (4, .i q.2)]) (fun nl1 q => zA9 p0 nl1 q.1 q.2) (Int.toNat (wi ((p0.length : Int) - 1)) + 2) ([], (wi ((p0.length : Int) - 1))) [] h (fun _ => rfl) rfl trivial ⟨.r, (.t (.nilOwn _ _)), .r, trivial⟩ rfl ?_)))))
 rintro nl1 ⟨z1, z2⟩ h
 refine zM (c_sr (o_m2 (.i z2) (.b (decide (z2 ≥ 0))) rfl (zA ?_)))
 refine c_if h rfl (fun h3 h => zK (zM (zL (zG (o_2 (.y z1) (.t (.own 5 1 (zD z1))) (g0 rfl) rfl rfl rfl (o_m2 (.y p0) (.i z2) rfl ?_)))))) fun h3 h => qU (c_sr (o_2 (.y z1) (.t (.own 5 1 (zD z1))) (g0 rfl) rfl rfl rfl (o_2 (.y z1) (.t (.own 5 1 (zD z1))) (g0 rfl) rfl rfl rfl (zA (zH ?_)))))
 ·
  refine bi h fun x4 h5 h => o_c (g0 rfl) rfl rfl rfl (idxE h5) (idxC h5) (o_m2 (.t (.d (.lit (.int .u8 (x4.toNat : Int))))) (.t (.own 5 1 (zD [x4]))) rfl (bi h fun x6 h7 h => o_2c (g0 rfl) rfl rfl rfl (appE (c := cU8) h7) (appC (c := cU8) h7) (o_2 (.y x6) (.t (.own 5 1 (zD x6))) (g0 rfl) rfl rfl rfl (zA (zG (o_m3 (.i z2) (.i (wi (z2 - 1))) (.i (wi (z2 - 1))) rfl (zA ?_)))))))
  exact lE (x6, (wi (z2 - 1))) h rfl rfl
 cases h
 exact end0 rfl .r
theorem zGB (p0 : Int) (p1 : Int) (r : ((List UInt8) × Int)) (h : zCe p0 p1 = some r) : FC Tryd.prog 22 [.t (.d (.lit (.int .i64 p0))), .t (.d (.lit (.int .i64 p1)))] [] (.tup [.d (.seq 1 (zD r.1)), .d (.lit (.int .i64 r.2))]) := by
 refine zAO (rs := [.tmp 4, .tmp 5]) (n := 17) Tryd.func22 rfl rfl (Nat.le_of_ble_eq_true rfl) rfl (pins := []) rfl (L := [(0, .i p0), (1, .i p1)]) rfl (c_sr (o_m2 (.n) (.i 0) rfl (zA (c_sr (o_m2 (.i p0) (.i p1) rfl (bi h fun x1 h2 h => o_cA (zIe _ _ _ h2) (g0 rfl) rfl (.cons .r (.cons .r .nil)) rfl (o_m5 (.tup [.y x1.1, .i x1.2]) (.y x1.1) (.i x1.2) (.y x1.1) (.i x1.2) rfl (zA (c_sr (o_1 (.y x1.1) rfl ?_))))))))))
 refine bi h fun x3 h4 h => o_cA (zGX _ _ h4) (g0 rfl) rfl (.cons .r .nil) rfl (o_1 (.i x1.2) rfl (o_2 (.y x3) (.t (.own 5 1 (zD x3))) (g0 rfl) rfl rfl rfl (o_1 (.i x1.2) rfl (zA (zH ?_)))))
 cases h
 exact end0 rfl .r
theorem zE3 (p0 : (List UInt8)) (w0 : Hp) (r : (List UInt8)) (h : zEI p0 = some r) : FCH Tryd.prog 52 [.t (.agg (ar cU8 (0 : UInt8) p0 0 64))] [] [] (hpA w0) (hpA w0) (.t (.own 5 1 (zD r))) := by
 refine zBM (rs := [.tmp 2]) (n := 16) [0] Tryd.func52 rfl rfl (Nat.le_of_ble_eq_true rfl) rfl (pins := []) rfl (L := [(HK, .hp (hpA w0)), (OB + 0, .free), (0, .t (.agg (ar cU8 (0 : UInt8) p0 0 64)))]) rfl (c_sr (o_of (e := [((OB + 0), .box (fl (dT cU8) (padA (0 : UInt8) p0 0 64))), (1, .t (.ptr 0 0))]) (g0 rfl) (h_lbox mR rfl rfl (ar_dT _ _ _) rfl rfl rfl rfl) rfl (o_1 (.n) rfl (zA (c_sr (o_1 (.n) rfl (zA (zM (c_sr ?_)))))))))
 refine o_1 (.i 0) rfl (zA (zL (zA7 (fun (q : (List UInt8) × Int) => [(1, .t (.ptr 0 0)), (3, .t (.own 5 1 (zD q.1))), (4, .i q.2), ((OB + 0), .box (fl (dT cU8) (padA (0 : UInt8) p0 0 64))), (HK, .hp (hpA w0))]) (fun nl1 q => zBH p0 nl1 q.1 q.2) (Int.toNat 64 + 1) ([], 0) [] h (fun _ => rfl) rfl trivial ⟨.r, (.t (.nilOwn _ _)), .r, .r, .r, trivial⟩ rfl ?_)))
 rintro nl1 ⟨z1, z2⟩ h
 refine zM (c_sr (o_m2 (.i z2) (.b (decide (z2 < 64))) rfl (zA ?_)))
 refine c_if h rfl (fun h3 h => zK (zM (zL (zG (o_2 (.y z1) (.t (.own 5 1 (zD z1))) (g0 rfl) rfl rfl rfl (o_1 (.i z2) rfl ?_)))))) fun h3 h => qU (c_sr (o_2 (.y z1) (.t (.own 5 1 (zD z1))) (g0 rfl) rfl rfl rfl (o_2 (.y z1) (.t (.own 5 1 (zD z1))) (g0 rfl) rfl rfl rfl (zA (zH ?_)))))
 ·
  refine bi h fun x4 h5 h => o_of (e := [(11, .ref (OB + 0) (0 + Int.toNat z2 * 1))]) (g0 rfl) (zBz mR rfl rfl rfl rfl rfl (qJ h5) rfl rfl rfl) rfl (o_of (e := [(12, .t (.d (.lit (.int .u8 (x4.toNat : Int)))))]) (g0 rfl) (zBj mR rfl rfl rfl rfl (zBk (zAH h5) rfl (fun _ => rfl)) rfl rfl rfl) rfl (o_1 (.t (.own 5 1 (zD [x4]))) rfl (bi h fun x6 h7 h => o_2c (g0 rfl) rfl rfl rfl (appE (c := cU8) h7) (appC (c := cU8) h7) (o_2 (.y x6) (.t (.own 5 1 (zD x6))) (g0 rfl) rfl rfl rfl (zA (zG (o_m3 (.i z2) (.i (wi (z2 + 1))) (.i (wi (z2 + 1))) rfl (zA ?_))))))))
  exact lE (x6, (wi (z2 + 1))) h rfl rfl
 cases h; exact eR rfl rfl
theorem zHj (r : (List Int)) (h : zEE = some r) : FC Tryd.prog 66 [] [] (.t (.own 91 1 (List.map (cInt .u64) r))) := by
 refine zAO (rs := [.tmp 0]) (n := 2) Tryd.func66 rfl rfl (Nat.le_of_ble_eq_true rfl) rfl (pins := []) rfl (L := []) rfl (c_sr (o_1 (.n) rfl (zA (c_sr (o_1 (.t (.own 91 1 (List.map (cInt .u64) [4794697086780616226, 8158064640168781261, 13096744586834688815, 16840607885511220156, 4131703408338449720, 6480981068601479193, 10538285296894168987, 12329834152419229976, 15566598209576043074, 1334009975649890238, 2608012711638119052, 6128411473006802146, 8268148722764581231, 9286055187155687089, 11230858885718282805, 13951009754708518548, 16472876342353939154, 17275323862435702243, 1135362057144423861, 2597628984639134821, 3308224258029322869, 5365058923640841347, 6679025012923562964, 8573033837759648693, 10970295158949994411, 12119686244451234320, 12683024718118986047, 13788192230050041572, 14330467153632333762, 15395433587784984357, 489312712824947311, 1452737877330783856, 2861767655752347644, 3322285676063803686, 5560940570517711597, 5996557281743188959, 7280758554555802590, 8532644243296465576, 9350256976987008742, 10552545826968843579, 11727347734174303076, 12113106623233404929, 14000437183269869457, 14369950271660146224, 15101387698204529176, 15463397548674623760, 17586052441742319658, 1182934255886127544, 1847814050463011016, 2177327727835720531, 2830643537854262169, 3796741975233480872, 4115178125766777443, 5681478168544905931, 6601373596472566643, 7507060721942968483, 8399075790359081724, 8693463985226723168, 9568029438360202098, 10144078919501101548, 10430055236837252648, 11840083180663258601, 13761210420658862357, 14299343276471374635, 14566680578165727644, 15097957966210449927, 16922976911328602910, 17689382322260857208, 500013540394364858, 748580250866718886, 1242879168328830382, 1977374033974150939, 2944078676154940804, 3659926193048069267, 4368137639120453308, 4836135668995329356, 5532061633213252278, 6448918945643986474, 6902733635092675308, 7801388544844847127]))) rfl (o_2 (.t (.d (.seq 1 (List.map (cInt .u64) [4794697086780616226, 8158064640168781261, 13096744586834688815, 16840607885511220156, 4131703408338449720, 6480981068601479193, 10538285296894168987, 12329834152419229976, 15566598209576043074, 1334009975649890238, 2608012711638119052, 6128411473006802146, 8268148722764581231, 9286055187155687089, 11230858885718282805, 13951009754708518548, 16472876342353939154, 17275323862435702243, 1135362057144423861, 2597628984639134821, 3308224258029322869, 5365058923640841347, 6679025012923562964, 8573033837759648693, 10970295158949994411, 12119686244451234320, 12683024718118986047, 13788192230050041572, 14330467153632333762, 15395433587784984357, 489312712824947311, 1452737877330783856, 2861767655752347644, 3322285676063803686, 5560940570517711597, 5996557281743188959, 7280758554555802590, 8532644243296465576, 9350256976987008742, 10552545826968843579, 11727347734174303076, 12113106623233404929, 14000437183269869457, 14369950271660146224, 15101387698204529176, 15463397548674623760, 17586052441742319658, 1182934255886127544, 1847814050463011016, 2177327727835720531, 2830643537854262169, 3796741975233480872, 4115178125766777443, 5681478168544905931, 6601373596472566643, 7507060721942968483, 8399075790359081724, 8693463985226723168, 9568029438360202098, 10144078919501101548, 10430055236837252648, 11840083180663258601, 13761210420658862357, 14299343276471374635, 14566680578165727644, 15097957966210449927, 16922976911328602910, 17689382322260857208, 500013540394364858, 748580250866718886, 1242879168328830382, 1977374033974150939, 2944078676154940804, 3659926193048069267, 4368137639120453308, 4836135668995329356, 5532061633213252278, 6448918945643986474, 6902733635092675308, 7801388544844847127])))) (.t (.own 91 1 (List.map (cInt .u64) [4794697086780616226, 8158064640168781261, 13096744586834688815, 16840607885511220156, 4131703408338449720, 6480981068601479193, 10538285296894168987, 12329834152419229976, 15566598209576043074, 1334009975649890238, 2608012711638119052, 6128411473006802146, 8268148722764581231, 9286055187155687089, 11230858885718282805, 13951009754708518548, 16472876342353939154, 17275323862435702243, 1135362057144423861, 2597628984639134821, 3308224258029322869, 5365058923640841347, 6679025012923562964, 8573033837759648693, 10970295158949994411, 12119686244451234320, 12683024718118986047, 13788192230050041572, 14330467153632333762, 15395433587784984357, 489312712824947311, 1452737877330783856, 2861767655752347644, 3322285676063803686, 5560940570517711597, 5996557281743188959, 7280758554555802590, 8532644243296465576, 9350256976987008742, 10552545826968843579, 11727347734174303076, 12113106623233404929, 14000437183269869457, 14369950271660146224, 15101387698204529176, 15463397548674623760, 17586052441742319658, 1182934255886127544, 1847814050463011016, 2177327727835720531, 2830643537854262169, 3796741975233480872, 4115178125766777443, 5681478168544905931, 6601373596472566643, 7507060721942968483, 8399075790359081724, 8693463985226723168, 9568029438360202098, 10144078919501101548, 10430055236837252648, 11840083180663258601, 13761210420658862357, 14299343276471374635, 14566680578165727644, 15097957966210449927, 16922976911328602910, 17689382322260857208, 500013540394364858, 748580250866718886, 1242879168328830382, 1977374033974150939, 2944078676154940804, 3659926193048069267, 4368137639120453308, 4836135668995329356, 5532061633213252278, 6448918945643986474, 6902733635092675308, 7801388544844847127]))) (g0 rfl) rfl rfl rfl (zA (zH ?_))))))))
 cases h
 exact end0 rfl .r
theorem zIX (p0 : Int) (r : (List UInt8)) (h : zEj p0 = some r) : FC Tryd.prog 67 [.t (.d (.lit (.int .i64 p0)))] [] (.t (.own 5 1 (zD r))) := by
 refine zAO (rs := [.tmp 2]) (n := 43) Tryd.func67 rfl rfl (Nat.le_of_ble_eq_true rfl) rfl (pins := []) rfl (L := [(0, .i p0)]) rfl (c_sr (o_1 (.n) rfl (zA (c_sr (o_1 (.t (.own 5 1 (zD [128]))) rfl (o_2 (.y [128]) (.t (.own 5 1 (zD [128]))) (g0 rfl) rfl rfl rfl (zA (zX r (fun (y1 : (List UInt8)) => [(0, .i p0), (3, .t (.own 5 1 (zD y1)))]) (fun y1 => zD8 p0 y1) ?_ ?_))))))))
 ·
  refine zL (c_lp (fun (z16 : (List UInt8)) => [(0, .i p0), (3, .t (.own 5 1 (zD z16)))]) (fun nl5 z16 => zBa p0 nl5 z16) (140) [128] h (fun _ => rfl) rfl rfl ?_)
  rintro nl5 z16 h
  refine zM (c_sr (o_m2 (.i p0) (.y z16) rfl (o_c (g0 rfl) rfl rfl rfl (lenE _ _) trivial (o_m3 (.i (wi (p0 + (z16.length : Int)))) (.i (Int.tmod (wi (p0 + (z16.length : Int))) 128)) (.b ((Int.tmod (wi (p0 + (z16.length : Int))) 128) != 112)) rfl (zA ?_)))))
  refine c_if h rfl (fun h17 h => zK (zL (zG (o_2 (.y z16) (.t (.own 5 1 (zD z16))) (g0 rfl) rfl rfl rfl (o_1 (.t (.own 5 1 (zD [0]))) rfl ?_))))) fun h17 h => qU ?_
  ·
   refine bi h fun x18 h19 h => o_2c (g0 rfl) rfl rfl rfl (appE (c := cU8) h19) (appC (c := cU8) h19) (o_2 (.y x18) (.t (.own 5 1 (zD x18))) (g0 rfl) rfl rfl rfl (zA ?_))
   exact lE x18 h rfl rfl
  exact lE z16 h rfl rfl
 rintro y1 h
 refine zX r (fun (y2 : (List UInt8)) => [(0, .i p0), (3, .t (.own 5 1 (zD y2)))]) (fun y2 => zD3 p0 y2) ?_ ?_
 ·
  refine c_sr (o_1 (.i 0) rfl (zA (zL (c_lp (fun (q : (List UInt8) × Int) => [(0, .i p0), (3, .t (.own 5 1 (zD q.1))), (4, .i q.2)]) (fun nl4 q => zBe p0 nl4 q.1 q.2) (Int.toNat 8 + 1) (y1, 0) h (fun _ => rfl) rfl rfl ?_))))
  rintro nl4 ⟨z11, z12⟩ h
  refine zM (c_sr (o_m2 (.i z12) (.b (decide (z12 < 8))) rfl (zA ?_)))
  refine c_if h rfl (fun h13 h => zK (zM (zL (zG (o_2 (.y z11) (.t (.own 5 1 (zD z11))) (g0 rfl) rfl rfl rfl (o_1 (.t (.own 5 1 (zD [0]))) rfl ?_)))))) fun h13 h => qU ?_
  ·
   refine bi h fun x14 h15 h => o_2c (g0 rfl) rfl rfl rfl (appE (c := cU8) h15) (appC (c := cU8) h15) (o_2 (.y x14) (.t (.own 5 1 (zD x14))) (g0 rfl) rfl rfl rfl (zA (zG (o_m3 (.i z12) (.i (wi (z12 + 1))) (.i (wi (z12 + 1))) rfl (zA ?_)))))
   exact lE (x14, (wi (z12 + 1))) h rfl rfl
  exact lE z11 h rfl rfl
 rintro y2 h
 refine c_sr (o_1 (.t (.d (.lit (.int .u64 72057594037927936)))) rfl (zA (c_sr (o_m4 (.i p0) (.t (.d (.lit (.int .u64 (IntKind.u64.wrap p0))))) (.t (.d (.lit (.int .u64 (IntKind.u64.wrap ((IntKind.u64.wrap p0) * 8)))))) (.t (.d (.lit (.int .u64 (IntKind.u64.wrap ((IntKind.u64.wrap p0) * 8)))))) rfl (zA (zM (c_sr ?_)))))))
 refine o_1 (.i 0) rfl (zA (zL (c_lp (fun (q : (List UInt8) × Int × Int) => [(3, .t (.own 5 1 (zD q.1))), (5, .t (.d (.lit (.int .u64 q.2.1)))), (6, .t (.d (.lit (.int .u64 (IntKind.u64.wrap ((IntKind.u64.wrap p0) * 8)))))), (7, .i q.2.2)]) (fun nl3 q => zBY p0 nl3 q.1 q.2.1 q.2.2) (Int.toNat 8 + 1) (y2, 72057594037927936, 0) h (fun _ => rfl) rfl rfl ?_)))
 rintro nl3 ⟨z3, z4, z5⟩ h
 refine zM (c_sr (o_m2 (.i z5) (.b (decide (z5 < 8))) rfl (zA ?_)))
 refine c_if h rfl (fun h6 h => zK (zM (zL (c_sr (o_2 (.y z3) (.t (.own 5 1 (zD z3))) (g0 rfl) rfl rfl rfl (o_m2 (.t (.d (.lit (.int .u64 (IntKind.u64.wrap ((IntKind.u64.wrap p0) * 8)))))) (.t (.d (.lit (.int .u64 z4)))) rfl ?_)))))) fun h6 h => qU (c_sr (o_2 (.y z3) (.t (.own 5 1 (zD z3))) (g0 rfl) rfl rfl rfl (o_2 (.y z3) (.t (.own 5 1 (zD z3))) (g0 rfl) rfl rfl rfl (zA (zH ?_)))))
 ·
  refine bi h fun x7 h8 h => o_b (.t (.d (.lit (.int .u64 x7)))) (quoIE h8) (g0 rfl) rfl rfl rfl rfl rfl rfl rfl (o_1 (.t (.d (.lit (.int .u64 (Int.tmod x7 256))))) rfl (o_c (g0 rfl) rfl rfl rfl (congrArg (fun z => A.t (.d (.lit (.int .u8 z)))) (u8c _)) trivial (o_1 (.t (.own 5 1 (zD [(U8 (Int.tmod x7 256))]))) rfl ?_)))
  refine bi h fun x9 h10 h => o_2c (g0 rfl) rfl rfl rfl (appE (c := cU8) h10) (appC (c := cU8) h10) (o_2 (.y x9) (.t (.own 5 1 (zD x9))) (g0 rfl) rfl rfl rfl (zA (zG (o_m3 (.t (.d (.lit (.int .u64 z4)))) (.t (.d (.lit (.int .u64 (IntKind.u64.wrap (Int.tdiv z4 256)))))) (.t (.d (.lit (.int .u64 (IntKind.u64.wrap (Int.tdiv z4 256)))))) rfl (zA (zG (o_m3 (.i z5) (.i (wi (z5 + 1))) (.i (wi (z5 + 1))) rfl ?_)))))))
  refine zA ?_
  exact lE (x9, (IntKind.u64.wrap (Int.tdiv z4 256)), (wi (z5 + 1))) h rfl rfl
 cases h
 exact end0 rfl .r
theorem zG2 (r : (List Int)) (h : zDi = some r) : FC Tryd.prog 68 [] [] (.t (.own 91 1 (List.map (cInt .u64) r))) := by
 refine zAO (rs := [.tmp 0]) (n := 2) Tryd.func68 rfl rfl (Nat.le_of_ble_eq_true rfl) rfl (pins := []) rfl (L := []) rfl (c_sr (o_1 (.n) rfl (zA (c_sr (o_1 (.t (.own 91 1 (List.map (cInt .u64) [7640891576956012808, 13503953896175478587, 4354685564936845355, 11912009170470909681, 5840696475078001361, 11170449401992604703, 2270897969802886507, 6620516959819538809]))) rfl (o_2 (.t (.d (.seq 1 (List.map (cInt .u64) [7640891576956012808, 13503953896175478587, 4354685564936845355, 11912009170470909681, 5840696475078001361, 11170449401992604703, 2270897969802886507, 6620516959819538809])))) (.t (.own 91 1 (List.map (cInt .u64) [7640891576956012808, 13503953896175478587, 4354685564936845355, 11912009170470909681, 5840696475078001361, 11170449401992604703, 2270897969802886507, 6620516959819538809]))) (g0 rfl) rfl rfl rfl (zA (zH ?_))))))))
 cases h
 exact end0 rfl .r
theorem zHT (p0 : (List UInt8)) (r : Int) (h : zE2 p0 = some r) : FC Tryd.prog 69 [.t (.d (.seq 1 (zD p0)))] [] (.t (.d (.lit (.int .u64 r)))) := by
 refine zAO (rs := [.tmp 2]) (n := 20) Tryd.func69 rfl rfl (Nat.le_of_ble_eq_true rfl) rfl (pins := []) rfl (L := [(0, .y p0)]) rfl (c_sr (o_1 (.t (.d (.lit (.int .u64 0)))) rfl (zA (c_sr (o_1 (.t (.d (.lit (.int .u64 0)))) rfl (zA (zM (c_sr ?_))))))))
 refine o_1 (.i 0) rfl (zA (zL (c_lp (fun (q : Int × Int) => [(0, .y p0), (3, .t (.d (.lit (.int .u64 q.1)))), (4, .i q.2)]) (fun nl1 q => zBC p0 nl1 q.1 q.2) (p0.length + 1) (0, 0) h (fun _ => rfl) rfl rfl ?_)))
 rintro nl1 ⟨z1, z2⟩ h
 refine zM (c_sr (o_m2 (.i z2) (.y p0) rfl (o_c (g0 rfl) rfl rfl rfl (lenE _ _) trivial (o_1 (.b (decide (z2 < (p0.length : Int)))) rfl (zA ?_)))))
 refine c_if h rfl (fun h3 h => zK (zM (zL (zG (o_m4 (.t (.d (.lit (.int .u64 z1)))) (.t (.d (.lit (.int .u64 (IntKind.u64.wrap (256 * z1)))))) (.y p0) (.i z2) rfl ?_))))) fun h3 h => qU (c_sr (o_m2 (.t (.d (.lit (.int .u64 z1)))) (.t (.d (.lit (.int .u64 z1)))) rfl (zA (zH ?_))))
 ·
  refine bi h fun x4 h5 h => o_c (g0 rfl) rfl rfl rfl (idxE h5) (idxC h5) (o_1 (.t (.d (.lit (.int .u8 (x4.toNat : Int))))) rfl (o_c (g0 rfl) rfl rfl rfl (congrArg (fun z => A.t (.d (.lit (.int .u64 z)))) (u64_u8 _)) trivial (o_m2 (.t (.d (.lit (.int .u64 (IntKind.u64.wrap ((IntKind.u64.wrap (256 * z1)) + (x4.toNat : Int))))))) (.t (.d (.lit (.int .u64 (IntKind.u64.wrap ((IntKind.u64.wrap (256 * z1)) + (x4.toNat : Int))))))) rfl (zA (zG (o_m3 (.i z2) (.i (wi (z2 + 1))) (.i (wi (z2 + 1))) rfl (zA ?_)))))))
  exact lE ((IntKind.u64.wrap ((IntKind.u64.wrap (256 * z1)) + (x4.toNat : Int))), (wi (z2 + 1))) h rfl rfl
 cases h
 exact end0 rfl .r
theorem zAV (p0 : Int) (p1 : Int) (r : Int) (h : zAJ p0 p1 = some r) : FC Tryd.prog 70 [.t (.d (.lit (.int .u64 p0))), .t (.d (.lit (.int .i64 p1)))] [] (.t (.d (.lit (.int .u64 r)))) := by
 refine zAO (rs := [.tmp 4]) (n := 25) Tryd.func70 rfl rfl (Nat.le_of_ble_eq_true rfl) rfl (pins := []) rfl (L := [(0, .t (.d (.lit (.int .u64 p0)))), (1, .i p1)]) rfl (c_sr (o_1 (.t (.d (.lit (.int .u64 0)))) rfl (zA (c_sr (o_1 (.t (.d (.lit (.int .u64 1)))) rfl (zA (zX r (fun (y1 : Int) => [(0, .t (.d (.lit (.int .u64 p0)))), (5, .t (.d (.lit (.int .u64 y1))))]) (fun y1 => zCY p0 y1) ?_ ?_)))))))
 ·
  refine c_sr (o_1 (.i 0) rfl (zA (zL (c_lp (fun (q : Int × Int) => [(0, .t (.d (.lit (.int .u64 p0)))), (1, .i p1), (5, .t (.d (.lit (.int .u64 q.1)))), (6, .i q.2)]) (fun nl2 q => zBD p1 p0 nl2 q.1 q.2) (Int.toNat p1 + 1) (1, 0) h (fun _ => rfl) rfl rfl ?_))))
  rintro nl2 ⟨z8, z9⟩ h
  refine zM (c_sr (o_m3 (.i z9) (.i p1) (.b (decide (z9 < p1))) rfl (zA ?_)))
  refine c_if h rfl (fun h10 h => zK (zM (zL (zG (o_m3 (.t (.d (.lit (.int .u64 z8)))) (.t (.d (.lit (.int .u64 (IntKind.u64.wrap (z8 * 2)))))) (.t (.d (.lit (.int .u64 (IntKind.u64.wrap (z8 * 2)))))) rfl (zA (zG ?_))))))) fun h10 h => qU ?_
  ·
   refine o_m3 (.i z9) (.i (wi (z9 + 1))) (.i (wi (z9 + 1))) rfl (zA ?_)
   exact lE ((IntKind.u64.wrap (z8 * 2)), (wi (z9 + 1))) h rfl rfl
  exact lE z8 h rfl rfl
 rintro y1 h
 refine zM (zBN zC8 (by kernel_rfl) (d_1 (.t (.d (.lit (.int .u64 p0)))) rfl rfl (d_1 (.t (.d (.lit (.int .u64 y1)))) rfl rfl (bi h fun x2 h3 h => d_b (.t (.d (.lit (.int .u64 x2)))) (quoIE h3) rfl (dg0 rfl) rfl rfl rfl rfl rfl rfl rfl rfl (d_1 (.t (.d (.lit (.int .u64 p0)))) rfl rfl (d_1 (.t (.d (.lit (.int .u64 y1)))) rfl rfl (bi h fun x4 h5 h => d_b (.t (.d (.lit (.int .u64 x4)))) (remIE h5) rfl (dg0 rfl) rfl rfl rfl rfl rfl rfl rfl rfl (d_1 (.t (.d (.lit (.int .u64 y1)))) rfl rfl ?_))))))))
 refine bi h fun x6 h7 h => d_b (.t (.d (.lit (.int .u64 x6)))) (quoIE h7) rfl (dg0 rfl) rfl rfl rfl rfl rfl rfl rfl rfl (d_1 (.t (.d (.lit (.int .u64 (IntKind.u64.wrap (x6 * 2)))))) rfl rfl (d_1 (.t (.d (.lit (.int .u64 (IntKind.u64.wrap (x4 * (IntKind.u64.wrap (x6 * 2)))))))) rfl rfl (d_1 (.t (.d (.lit (.int .u64 (IntKind.u64.wrap (x2 + (IntKind.u64.wrap (x4 * (IntKind.u64.wrap (x6 * 2)))))))))) rfl rfl (d_1 (.t (.d (.lit (.int .u64 (IntKind.u64.wrap (x2 + (IntKind.u64.wrap (x4 * (IntKind.u64.wrap (x6 * 2)))))))))) rfl rfl (zCi (by kernel_rfl) (zH ?_))))))
 cases h
 exact end0 rfl .r
theorem zE6 (p0 : Int) (p1 : Int) (r : Int) (h : zBS p0 p1 = some r) : FC Tryd.prog 71 [.t (.d (.lit (.int .u64 p0))), .t (.d (.lit (.int .i64 p1)))] [] (.t (.d (.lit (.int .u64 r)))) := by
 refine zAO (rs := [.tmp 4]) (n := 14) Tryd.func71 rfl rfl (Nat.le_of_ble_eq_true rfl) rfl (pins := []) rfl (L := [(0, .t (.d (.lit (.int .u64 p0)))), (1, .i p1)]) rfl (c_sr (o_1 (.t (.d (.lit (.int .u64 0)))) rfl (zA (zM (c_sr (o_1 (.i 0) rfl (zA (zL (c_lp (fun (q : Int × Int) => [(0, .t (.d (.lit (.int .u64 q.1)))), (1, .i p1), (5, .i q.2)]) (fun nl1 q => zAu p1 nl1 q.1 q.2) (Int.toNat p1 + 1) (p0, 0) h (fun _ => rfl) rfl rfl ?_)))))))))
 rintro nl1 ⟨z1, z2⟩ h
 refine zM (c_sr (o_m3 (.i z2) (.i p1) (.b (decide (z2 < p1))) rfl (zA ?_)))
 refine c_if h rfl (fun h3 h => zK (zM (zL (zG (o_m3 (.t (.d (.lit (.int .u64 z1)))) (.t (.d (.lit (.int .u64 (IntKind.u64.wrap (Int.tdiv z1 2)))))) (.t (.d (.lit (.int .u64 (IntKind.u64.wrap (Int.tdiv z1 2)))))) rfl (zA (zG ?_))))))) fun h3 h => qU (c_sr (o_m2 (.t (.d (.lit (.int .u64 z1)))) (.t (.d (.lit (.int .u64 z1)))) rfl (zA (zH ?_))))
 ·
  refine o_m3 (.i z2) (.i (wi (z2 + 1))) (.i (wi (z2 + 1))) rfl (zA ?_)
  exact lE ((IntKind.u64.wrap (Int.tdiv z1 2)), (wi (z2 + 1))) h rfl rfl
 cases h
 exact end0 rfl .r
end Go.Proofs.YtmgafkpkpmjieaaDoor
