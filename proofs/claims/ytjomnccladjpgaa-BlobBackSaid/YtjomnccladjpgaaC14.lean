/-
  Walks of functions: each function does what its model tells. Printed by a program of this claim's own (gen.py) off the given translation.
-/
import Derived.Test.YtjomnccladjpgaaC13
import Derived.Test.YtjomnccladjpgaaC11
import Derived.Test.YtjomnccladjpgaaC10
import Derived.Test.YtjomnccladjpgaaC12
set_option linter.unusedVariables false
set_option linter.unusedSimpArgs false
namespace Go.Proofs.Ytjomnccladjpgaa
open Go Go.RowKit
set_option linter.unusedVariables false
set_option maxHeartbeats 4000000
set_option maxRecDepth 20000
theorem fch_disk_New (p0 : Int) (w0 : Hp) (r : ((Option Nat) × Int × Hp)) (h : m_disk_New p0 w0 = some r) : FCH Try.prog 12 [.t (.d (.lit (.int .i64 p0)))] [] [] (hpA w0) (hpA r.2.2) (.tup [(ptT 1 r.1), .d (.lit (.int .i64 r.2.1))]) := by
 refine fch_mk (rs := [.tmp 2, .tmp 3]) (n := 16) [0, 1, 2] Try.func12 rfl rfl (Nat.le_of_ble_eq_true rfl) rfl (pins := []) rfl (L := [(HK, .hp (hpA w0)), (OB + 0, .free), (OB + 1, .free), (OB + 2, .free), (0, .i p0)]) rfl ?_
 refine c_sr ?_
 refine o_of (e := [(2, .t (.d (.lit (.pointer none))))]) (g0 rfl) (h_mv mR (.inr rfl) rfl rfl rfl) rfl ?_
 refine o_1 (.i 0) rfl ?_
 refine o_nil (c_seq (c_sr ?_))
 refine o_m3 (.i p0) (.b (decide (p0 < 1))) (.b (decide (p0 < 1))) rfl ?_
 rcases bif_some h with ⟨h1, h⟩ | ⟨h1, h⟩
 ·
  refine o_skip rfl rfl rfl h1 rfl rfl ?_
  refine o_skip rfl rfl rfl h1 rfl rfl ?_
  refine o_pk (.b true) (b := true) h1 (g0 rfl) rfl rfl rfl rfl rfl ?_
  refine o_nil ?_
  refine c_t rfl rfl ?_
  refine c_sr ?_
  refine o_of (e := [(2, .t (.d (.lit (.pointer none))))]) (g0 rfl) (h_mv mR (.inr rfl) rfl rfl rfl) rfl ?_
  refine o_1 (.i 2) rfl ?_
  refine o_nil (c_ret ?_)
  obtain rfl := Option.some.inj h
  exact ⟨⟨_, rfl, (.tup (.cons .r (.cons .r .nil)))⟩, trivial, rfl⟩
 refine o_s (.i p0) (gy rfl rfl rfl h1) rfl rfl rfl ?_
 refine o_s (.b (decide (p0 > 16384))) (gy rfl rfl rfl h1) rfl rfl rfl ?_
 refine o_pk (.b (decide (p0 > 16384))) (b := false) h1 (g0 rfl) rfl rfl rfl rfl rfl ?_
 refine o_nil ?_
 rcases bif_some h with ⟨h2, h⟩ | ⟨h2, h⟩
 ·
  refine c_t h2 rfl ?_
  refine c_sr ?_
  refine o_of (e := [(2, .t (.d (.lit (.pointer none))))]) (g0 rfl) (h_mv mR (.inr rfl) rfl rfl rfl) rfl ?_
  refine o_1 (.i 2) rfl ?_
  refine o_nil (c_ret ?_)
  obtain rfl := Option.some.inj h
  exact ⟨⟨_, rfl, (.tup (.cons .r (.cons .r .nil)))⟩, trivial, rfl⟩
 refine c_f h2 rfl ?_
 refine c_skip (c_seq ?_)
 refine c_draw mixed (by kernel_rfl) ?_
 refine d_s (.i p0) rfl (dg0 rfl) rfl rfl rfl rfl ?_
 obtain ⟨x3, h4, h⟩ := bind_some h
 refine d_h0 [OB + 0] (e := [((OB + 0), .box (fl (dT cA64_cU8) (List.replicate x3 ([] : (List UInt8))))), (11, .t (.view 0 0 119 64 x3))]) (ks := [(OB + 0), 11]) rfl (dg0 rfl) rfl rfl (fun S' hM hok => h_mkl hM rfl rfl rfl rfl rfl rfl rfl (by kernel_rfl) rfl h4 (fl_rep (c := cA64_cU8) (z := ([] : (List UInt8))) (by kernel_rfl) x3) rfl (hok _ rfl rfl) rfl rfl) rfl ?_
 refine d_s (.i p0) rfl (dg0 rfl) rfl rfl rfl rfl ?_
 obtain ⟨x5, h6, h⟩ := bind_some h
 refine d_h0 [OB + 1] (e := [((OB + 1), .box (fl (dT cA64_cU8) (List.replicate x5 ([] : (List UInt8))))), (13, .t (.view 1 0 119 64 x5))]) (ks := [(OB + 1), 13]) rfl (dg0 rfl) rfl rfl (fun S' hM hok => h_mkl hM rfl rfl rfl rfl rfl rfl rfl (by kernel_rfl) rfl h6 (fl_rep (c := cA64_cU8) (z := ([] : (List UInt8))) (by kernel_rfl) x5) rfl (hok _ rfl rfl) rfl rfl) rfl ?_
 refine d_h0 [] (e := [(14, .ag [.view 0 0 119 64 x3, .view 1 0 119 64 x5, .n, .i (-1), .b false, .i 0])]) (ks := [14]) rfl (dg0 rfl) rfl rfl (fun S' hM hok => h_bd hM rfl rfl (hok _ rfl rfl) rfl) rfl ?_
 refine d_h0 [OB + 2] (e := [((OB + 2), .box [.view 0 0 119 64 x3, .view 1 0 119 64 x5, .n, .i (-1), .b false, .i 0]), (15, .t (.ptr 2 0))]) (ks := [(OB + 2), 15]) rfl (dg0 rfl) rfl rfl (fun S' hM hok => h_lbox hM rfl rfl rfl rfl (hok _ rfl rfl) rfl rfl) rfl ?_
 refine d_s (.ref (OB + 2) (0)) rfl (dg0 rfl) rfl rfl rfl rfl ?_
 refine d_s (.i 0) rfl (dg0 rfl) rfl rfl rfl rfl ?_
 refine d_nil (by kernel_rfl) ?_
 refine c_pub 0 (c := cd 2 w0.ln_sec) (f2 := hpA (w0.nw_sec (List.replicate x3 ([] : (List UInt8))))) rfl rfl rfl (fl_noPt _ _) (fl_noAg _ _) (fr_sec _) (pbE (fun k => rn_hpA _ _ _ k) (nw_sec _ (List.replicate x3 ([] : (List UInt8))))) rfl ?_
 refine c_pub 1 (c := cd 2 ((w0.nw_sec (List.replicate x3 ([] : (List UInt8)))).ln_sec)) (f2 := hpA ((w0.nw_sec (List.replicate x3 ([] : (List UInt8)))).nw_sec (List.replicate x5 ([] : (List UInt8))))) rfl (congrArg A.box (rnT_flat (fl_noPt _ _))) rfl (fl_noPt _ _) (fl_noAg _ _) (fr_sec _) (pbE (fun k => rn_hpA _ _ _ k) (nw_sec _ (List.replicate x5 ([] : (List UInt8))))) rfl ?_
 refine c_pubw 2 (c := cd 1 (((w0.nw_sec (List.replicate x3 ([] : (List UInt8)))).nw_sec (List.replicate x5 ([] : (List UInt8)))).ln_dk)) (f2 := hpA (((w0.nw_sec (List.replicate x3 ([] : (List UInt8)))).nw_sec (List.replicate x5 ([] : (List UInt8)))).nw_dk (S_disk_Disk.mk (w0.ln_sec, x3) ((w0.nw_sec (List.replicate x3 ([] : (List UInt8)))).ln_sec, x5) [] (-1) false 0))) rfl rfl rfl rfl (fr_dk _) (.cons .r (.cons .r (.cons (.nilOwn _ _) (.cons .r (.cons .r (.cons .r .nil)))))) rfl (pbE (fun k => rn_hpA _ _ _ k) (nw_dk _ (S_disk_Disk.mk (w0.ln_sec, x3) ((w0.nw_sec (List.replicate x3 ([] : (List UInt8)))).ln_sec, x5) [] (-1) false 0))) rfl ?_
 refine c_ret ?_
 obtain rfl := Option.some.inj h
 exact ⟨⟨_, rfl, (.tup (.cons .r (.cons .r .nil)))⟩, trivial, rfl⟩
theorem fch_disk_Disk_is (p0 : (Option Nat)) (w0 : Hp) (r : Bool) (h : m_disk_Disk_is p0 w0 = some r) : FCH Try.prog 72 [.t ((ptT 1 p0))] [] [] (hpA w0) (hpA w0) (.t (.d (.lit (.bool r)))) := by
 refine fch_mk (rs := [.tmp 2]) (n := 13) [] Try.func72 rfl rfl (Nat.le_of_ble_eq_true rfl) rfl (pins := []) rfl (L := [(HK, .hp (hpA w0)), (0, .t ((ptT 1 p0)))]) rfl ?_
 refine c_sr ?_
 refine o_1 (.b false) rfl ?_
 refine o_nil (c_sr ?_)
 refine o_of (e := [(3, .t ((ptT 1 p0)))]) (g0 rfl) (h_mv mR (.inl rfl) (cpO_pt rfl) rfl rfl) rfl ?_
 rcases ptM_some h with ⟨h1, h⟩ | ⟨i2, h1, h⟩
 ·
  refine o_of (e := [(4, .b false)]) (g0 rfl) (h_pn mR (ng := true) rfl rfl rfl (pn_none rfl h1) rfl rfl) rfl ?_
  refine o_1 (.b false) rfl ?_
  refine o_skip rfl rfl rfl rfl rfl rfl ?_
  refine o_skip rfl rfl rfl rfl rfl rfl ?_
  refine o_skip rfl rfl rfl rfl rfl rfl ?_
  refine o_skip rfl rfl rfl rfl rfl rfl ?_
  refine o_skip rfl rfl rfl rfl rfl rfl ?_
  refine o_skip rfl rfl rfl rfl rfl rfl ?_
  refine o_pk (.b false) (b := false) rfl (g0 rfl) rfl rfl rfl rfl rfl ?_
  refine o_1 (.b false) rfl ?_
  refine o_nil (c_ret ?_)
  obtain rfl := Option.some.inj h
  exact ⟨⟨_, rfl, .r⟩, trivial, rfl⟩
 refine o_of (e := [(4, .b true)]) (g0 rfl) (h_pn mR (ng := true) rfl rfl rfl (pn_some rfl h1) rfl rfl) rfl ?_
 refine o_1 (.b true) rfl ?_
 refine o_of (e := [(6, .t (.hpt (cd 1 i2) 0))]) (gy rfl rfl rfl rfl) (h_mv mR (.inl rfl) ((cpO_pt rfl).trans (pt_eq_some h1)) rfl rfl) rfl ?_
 refine o_of (e := [(7, .t (.hpt (cd 1 i2) 0))]) (gy rfl rfl rfl rfl) (h_nc mR rfl rfl rfl rfl rfl) rfl ?_
 refine o_of (e := [(8, .t (.hpt (cd 1 i2) 1))]) (gy rfl rfl rfl rfl) (h_fd mR rfl rfl rfl rfl rfl rfl) rfl ?_
 obtain ⟨x3, h4, h⟩ := bind_some h
 refine o_of (e := [(9, .t (.hvw (cd 2 x3.now_.1) 0 119 64 x3.now_.2))]) (gy rfl rfl rfl rfl) (h_ld mR rfl rfl rfl rfl (gl_dk h4) rfl rfl rfl rfl) rfl ?_
 refine o_of (e := [(10, .i (x3.now_.2 : Int))]) (gy rfl rfl rfl rfl) (h_ln mR rfl rfl rfl rfl rfl rfl) rfl ?_
 refine o_s (.b (decide ((x3.now_.2 : Int) > 0))) (gy rfl rfl rfl rfl) rfl rfl rfl ?_
 refine o_pk (.b (decide ((x3.now_.2 : Int) > 0))) (b := true) rfl (g0 rfl) rfl rfl rfl rfl rfl ?_
 refine o_1 (.b (decide ((x3.now_.2 : Int) > 0))) rfl ?_
 refine o_nil (c_ret ?_)
 obtain rfl := Option.some.inj h
 exact ⟨⟨_, rfl, .r⟩, trivial, rfl⟩
theorem fch_disk_Disk_may (p0 : (Option Nat)) (p1 : Int) (w0 : Hp) (r : Int) (h : m_disk_Disk_may p0 p1 w0 = some r) : FCH Try.prog 74 [.t ((ptT 1 p0)), .t (.d (.lit (.int .i64 p1)))] [] [] (hpA w0) (hpA w0) (.t (.d (.lit (.int .i64 r)))) := by
 refine fch_mk (rs := [.tmp 4]) (n := 26) [] Try.func74 rfl rfl (Nat.le_of_ble_eq_true rfl) rfl (pins := []) rfl (L := [(HK, .hp (hpA w0)), (0, .t ((ptT 1 p0))), (1, .i p1)]) rfl ?_
 refine c_sr ?_
 refine o_1 (.i 0) rfl ?_
 refine o_nil (c_seq (c_block (c_sr ?_)))
 refine o_of (e := [(6, .t ((ptT 1 p0)))]) (g0 rfl) (h_mv mR (.inl rfl) (cpO_pt rfl) rfl rfl) rfl ?_
 obtain ⟨x1, h2, h⟩ := bind_some h
 refine o_of (e := [(7, .b x1)]) (g0 rfl) (h_callR mR rfl (σ := []) (fr := []) rfl rfl rfl rfl rfl rfl rfl (fch_disk_Disk_is _ w0 _ h2) (pure_hpA _) rfl rfl rfl rfl (.cons (argPt rfl) .nil) rfl (.t (.flat rfl))) rfl ?_
 refine o_m2 (.b (!x1)) (.b (!x1)) rfl ?_
 refine o_nil ?_
 rcases bif_some h with ⟨h3, h⟩ | ⟨h3, h⟩
 ·
  refine c_t h3 rfl ?_
  refine c_sr ?_
  refine o_1 (.i 1) rfl ?_
  refine o_nil (c_ret ?_)
  obtain rfl := Option.some.inj h
  exact ⟨⟨_, rfl, .r⟩, trivial, rfl⟩
 refine c_f h3 rfl ?_
 refine c_sr ?_
 refine o_of (e := [(10, .t ((ptT 1 p0)))]) (g0 rfl) (h_mv mR (.inl rfl) (cpO_pt rfl) rfl rfl) rfl ?_
 rcases ptM_some h with ⟨h4, h⟩ | ⟨i5, h4, h⟩
 ·
  exact none_ne h
 refine o_of (e := [(11, .t (.hpt (cd 1 i5) 0))]) (g0 rfl) (h_nc mR rfl (cpO_pt rfl) (ptT_some h4) rfl rfl) rfl ?_
 refine o_of (e := [(12, .t (.hpt (cd 1 i5) 4))]) (g0 rfl) (h_fd mR rfl rfl rfl rfl rfl rfl) rfl ?_
 obtain ⟨x6, h7, h⟩ := bind_some h
 refine o_of (e := [(13, .b x6.off_)]) (g0 rfl) (h_ld mR rfl rfl rfl rfl (gl_dk h7) rfl rfl rfl rfl) rfl ?_
 refine o_1 (.b x6.off_) rfl ?_
 refine o_nil ?_
 rcases bif_some h with ⟨h8, h⟩ | ⟨h8, h⟩
 ·
  refine c_t h8 rfl ?_
  refine c_sr ?_
  refine o_1 (.i 30) rfl ?_
  refine o_nil (c_ret ?_)
  obtain rfl := Option.some.inj h
  exact ⟨⟨_, rfl, .r⟩, trivial, rfl⟩
 refine c_f h8 rfl ?_
 refine c_sr ?_
 refine o_m3 (.i p1) (.b (decide (p1 < 0))) (.b (decide (p1 < 0))) rfl ?_
 rcases bif_some h with ⟨h9, h⟩ | ⟨h9, h⟩
 ·
  refine o_skip rfl rfl rfl h9 rfl rfl ?_
  refine o_skip rfl rfl rfl h9 rfl rfl ?_
  refine o_skip rfl rfl rfl h9 rfl rfl ?_
  refine o_skip rfl rfl rfl h9 rfl rfl ?_
  refine o_skip rfl rfl rfl h9 rfl rfl ?_
  refine o_skip rfl rfl rfl h9 rfl rfl ?_
  refine o_skip rfl rfl rfl h9 rfl rfl ?_
  refine o_pk (.b true) (b := true) h9 (g0 rfl) rfl rfl rfl rfl rfl ?_
  refine o_1 (.b true) rfl ?_
  refine o_nil ?_
  refine c_t rfl rfl ?_
  refine c_sr ?_
  refine o_1 (.i 31) rfl ?_
  refine o_nil (c_ret ?_)
  obtain rfl := Option.some.inj h
  exact ⟨⟨_, rfl, .r⟩, trivial, rfl⟩
 refine o_s (.i p1) (gy rfl rfl rfl h9) rfl rfl rfl ?_
 refine o_of (e := [(19, .t (.hpt (cd 1 i5) 0))]) (gy rfl rfl rfl h9) (h_mv mR (.inl rfl) ((cpO_pt rfl).trans (pt_eq_some h4)) rfl rfl) rfl ?_
 refine o_of (e := [(20, .t (.hpt (cd 1 i5) 0))]) (gy rfl rfl rfl h9) (h_nc mR rfl rfl rfl rfl rfl) rfl ?_
 refine o_of (e := [(21, .t (.hpt (cd 1 i5) 1))]) (gy rfl rfl rfl h9) (h_fd mR rfl rfl rfl rfl rfl rfl) rfl ?_
 refine o_of (e := [(22, .t (.hvw (cd 2 x6.now_.1) 0 119 64 x6.now_.2))]) (gy rfl rfl rfl h9) (h_ld mR rfl rfl rfl rfl (gl_dk h7) rfl rfl rfl rfl) rfl ?_
 refine o_of (e := [(23, .i (x6.now_.2 : Int))]) (gy rfl rfl rfl h9) (h_ln mR rfl rfl rfl rfl rfl rfl) rfl ?_
 refine o_s (.b (decide (p1 ≥ (x6.now_.2 : Int)))) (gy rfl rfl rfl h9) rfl rfl rfl ?_
 refine o_pk (.b (decide (p1 ≥ (x6.now_.2 : Int)))) (b := false) h9 (g0 rfl) rfl rfl rfl rfl rfl ?_
 refine o_1 (.b (decide (p1 ≥ (x6.now_.2 : Int)))) rfl ?_
 refine o_nil ?_
 rcases bif_some h with ⟨h10, h⟩ | ⟨h10, h⟩
 ·
  refine c_t h10 rfl ?_
  refine c_sr ?_
  refine o_1 (.i 31) rfl ?_
  refine o_nil (c_ret ?_)
  obtain rfl := Option.some.inj h
  exact ⟨⟨_, rfl, .r⟩, trivial, rfl⟩
 refine c_f h10 rfl ?_
 refine c_skip (c_sr ?_)
 refine o_1 (.i 0) rfl ?_
 refine o_nil (c_ret ?_)
 obtain rfl := Option.some.inj h
 exact ⟨⟨_, rfl, .r⟩, trivial, rfl⟩
theorem fch_disk_Disk_burn (p0 : (Option Nat)) (w0 : Hp) (r : (Bool × Hp)) (h : m_disk_Disk_burn p0 w0 = some r) : FCH Try.prog 75 [.t ((ptT 1 p0))] [] [] (hpA w0) (hpA r.2) (.t (.d (.lit (.bool r.1)))) := by
 refine fch_mk (rs := [.tmp 2]) (n := 27) [] Try.func75 rfl rfl (Nat.le_of_ble_eq_true rfl) rfl (pins := []) rfl (L := [(HK, .hp (hpA w0)), (0, .t ((ptT 1 p0)))]) rfl ?_
 refine c_sr ?_
 refine o_1 (.b false) rfl ?_
 refine o_nil (c_seq (c_sr ?_))
 refine o_of (e := [(3, .t ((ptT 1 p0)))]) (g0 rfl) (h_mv mR (.inl rfl) (cpO_pt rfl) rfl rfl) rfl ?_
 rcases ptM_some h with ⟨h1, h⟩ | ⟨i2, h1, h⟩
 ·
  exact none_ne h
 refine o_of (e := [(4, .t (.hpt (cd 1 i2) 0))]) (g0 rfl) (h_nc mR rfl (cpO_pt rfl) (ptT_some h1) rfl rfl) rfl ?_
 refine o_of (e := [(5, .t (.hpt (cd 1 i2) 3))]) (g0 rfl) (h_fd mR rfl rfl rfl rfl rfl rfl) rfl ?_
 obtain ⟨x3, h4, h⟩ := bind_some h
 refine o_of (e := [(6, .i x3.fuse_)]) (g0 rfl) (h_ld mR rfl rfl rfl rfl (gl_dk h4) rfl rfl rfl rfl) rfl ?_
 refine o_1 (.b (decide (x3.fuse_ < 0))) rfl ?_
 refine o_nil ?_
 rcases bif_some h with ⟨h5, h⟩ | ⟨h5, h⟩
 ·
  refine c_t h5 rfl ?_
  refine c_sr ?_
  refine o_1 (.b false) rfl ?_
  refine o_nil (c_ret ?_)
  obtain rfl := Option.some.inj h
  exact ⟨⟨_, rfl, .r⟩, trivial, rfl⟩
 refine c_f h5 rfl ?_
 refine c_skip (c_sr ?_)
 refine o_of (e := [(8, .t (.hpt (cd 1 i2) 0))]) (g0 rfl) (h_mv mR (.inl rfl) ((cpO_pt rfl).trans (pt_eq_some h1)) rfl rfl) rfl ?_
 refine o_of (e := [(9, .t (.hpt (cd 1 i2) 0))]) (g0 rfl) (h_mv mR (.inl rfl) ((cpO_pt rfl).trans (pt_eq_some h1)) rfl rfl) rfl ?_
 refine o_of (e := [(10, .t (.hpt (cd 1 i2) 0))]) (g0 rfl) (h_nc mR rfl rfl rfl rfl rfl) rfl ?_
 refine o_of (e := [(11, .t (.hpt (cd 1 i2) 3))]) (g0 rfl) (h_fd mR rfl rfl rfl rfl rfl rfl) rfl ?_
 refine o_of (e := [(12, .i x3.fuse_)]) (g0 rfl) (h_ld mR rfl rfl rfl rfl (gl_dk h4) rfl rfl rfl rfl) rfl ?_
 refine o_1 (.b (x3.fuse_ == 0)) rfl ?_
 refine o_of (e := [(14, .t (.hpt (cd 1 i2) 0))]) (g0 rfl) (h_nc mR rfl rfl rfl rfl rfl) rfl ?_
 refine o_of (e := [(15, .t (.hpt (cd 1 i2) 4))]) (g0 rfl) (h_fd mR rfl rfl rfl rfl rfl rfl) rfl ?_
 refine o_of (e := [(HK, .hp (hpA (w0.st_dk i2 (S_disk_Disk.mk x3.kept_ x3.now_ x3.wait_ x3.fuse_ (x3.fuse_ == 0) x3.lives_))))]) (g0 rfl) (h_st mR rfl rfl rfl rfl rfl (gl_dk h4) rfl rfl (Nat.le_of_ble_eq_true rfl) rfl (su_dk (x' := (S_disk_Disk.mk x3.kept_ x3.now_ x3.wait_ x3.fuse_ (x3.fuse_ == 0) x3.lives_)) h4)) rfl ?_
 refine o_nil (c_sr ?_)
 refine o_of (e := [(16, .t (.hpt (cd 1 i2) 0))]) (g0 rfl) (h_mv mR (.inl rfl) ((cpO_pt rfl).trans (pt_eq_some h1)) rfl rfl) rfl ?_
 refine o_of (e := [(17, .t (.hpt (cd 1 i2) 0))]) (g0 rfl) (h_nc mR rfl rfl rfl rfl rfl) rfl ?_
 refine o_of (e := [(18, .t (.hpt (cd 1 i2) 3))]) (g0 rfl) (h_fd mR rfl rfl rfl rfl rfl rfl) rfl ?_
 refine o_of (e := [(19, .i ((S_disk_Disk.mk x3.kept_ x3.now_ x3.wait_ x3.fuse_ (x3.fuse_ == 0) x3.lives_).fuse_))]) (g0 rfl) (h_ld mR rfl rfl rfl rfl (gl_dk (set_get h4)) rfl rfl rfl rfl) rfl ?_
 refine o_1 (.i (wi (((S_disk_Disk.mk x3.kept_ x3.now_ x3.wait_ x3.fuse_ (x3.fuse_ == 0) x3.lives_).fuse_) - 1))) rfl ?_
 refine o_of (e := [(21, .t (.hpt (cd 1 i2) 0))]) (g0 rfl) (h_nc mR rfl rfl rfl rfl rfl) rfl ?_
 refine o_of (e := [(22, .t (.hpt (cd 1 i2) 3))]) (g0 rfl) (h_fd mR rfl rfl rfl rfl rfl rfl) rfl ?_
 refine o_of (e := [(HK, .hp (hpA ((w0.st_dk i2 (S_disk_Disk.mk x3.kept_ x3.now_ x3.wait_ x3.fuse_ (x3.fuse_ == 0) x3.lives_)).st_dk i2 (S_disk_Disk.mk x3.kept_ x3.now_ x3.wait_ (wi (((S_disk_Disk.mk x3.kept_ x3.now_ x3.wait_ x3.fuse_ (x3.fuse_ == 0) x3.lives_).fuse_) - 1)) (x3.fuse_ == 0) x3.lives_))))]) (g0 rfl) (h_st mR rfl rfl rfl rfl rfl (gl_dk (set_get h4)) rfl rfl (Nat.le_of_ble_eq_true rfl) rfl (su_dk (x' := (S_disk_Disk.mk x3.kept_ x3.now_ x3.wait_ (wi (((S_disk_Disk.mk x3.kept_ x3.now_ x3.wait_ x3.fuse_ (x3.fuse_ == 0) x3.lives_).fuse_) - 1)) (x3.fuse_ == 0) x3.lives_)) (set_get h4))) rfl ?_
 refine o_nil (c_sr ?_)
 refine o_of (e := [(23, .t (.hpt (cd 1 i2) 0))]) (g0 rfl) (h_mv mR (.inl rfl) ((cpO_pt rfl).trans (pt_eq_some h1)) rfl rfl) rfl ?_
 refine o_of (e := [(24, .t (.hpt (cd 1 i2) 0))]) (g0 rfl) (h_nc mR rfl rfl rfl rfl rfl) rfl ?_
 refine o_of (e := [(25, .t (.hpt (cd 1 i2) 4))]) (g0 rfl) (h_fd mR rfl rfl rfl rfl rfl rfl) rfl ?_
 refine o_of (e := [(26, .b ((S_disk_Disk.mk x3.kept_ x3.now_ x3.wait_ (wi (((S_disk_Disk.mk x3.kept_ x3.now_ x3.wait_ x3.fuse_ (x3.fuse_ == 0) x3.lives_).fuse_) - 1)) (x3.fuse_ == 0) x3.lives_).off_))]) (g0 rfl) (h_ld mR rfl rfl rfl rfl (gl_dk (set_get (set_get h4))) rfl rfl rfl rfl) rfl ?_
 refine o_1 (.b ((S_disk_Disk.mk x3.kept_ x3.now_ x3.wait_ (wi (((S_disk_Disk.mk x3.kept_ x3.now_ x3.wait_ x3.fuse_ (x3.fuse_ == 0) x3.lives_).fuse_) - 1)) (x3.fuse_ == 0) x3.lives_).off_)) rfl ?_
 refine o_nil (c_ret ?_)
 obtain rfl := Option.some.inj h
 exact ⟨⟨_, rfl, .r⟩, trivial, rfl⟩
theorem fch_disk_Disk_Write (p0 : (Option Nat)) (p1 : Int) (p2 : (List UInt8)) (w0 : Hp) (r : (Int × Hp)) (h : m_disk_Disk_Write p0 p1 p2 w0 = some r) : FCH Try.prog 21 [.t ((ptT 1 p0)), .t (.d (.lit (.int .i64 p1))), .t (.d (.seq 1 (bytesD p2)))] [] [] (hpA w0) (hpA r.2) (.t (.d (.lit (.int .i64 r.1)))) := by
 refine fch_mk (rs := [.tmp 6]) (n := 43) [] Try.func21 rfl rfl (Nat.le_of_ble_eq_true rfl) rfl (pins := []) rfl (L := [(HK, .hp (hpA w0)), (0, .t ((ptT 1 p0))), (1, .i p1), (2, .y p2)]) rfl ?_
 refine c_sr ?_
 refine o_1 (.i 0) rfl ?_
 refine o_nil (c_seq (c_sr ?_))
 refine o_of (e := [(9, .t ((ptT 1 p0)))]) (g0 rfl) (h_mv mR (.inl rfl) (cpO_pt rfl) rfl rfl) rfl ?_
 refine o_1 (.i p1) rfl ?_
 obtain ⟨x1, h2, h⟩ := bind_some h
 refine o_of (e := [(11, .i x1)]) (g0 rfl) (h_callR mR rfl (σ := []) (fr := []) rfl rfl rfl rfl rfl rfl rfl (fch_disk_Disk_may _ _ w0 _ h2) (pure_hpA _) rfl rfl rfl rfl (.cons (argPt rfl) (.cons (.plain .r rfl) .nil)) rfl (.t (.flat rfl))) rfl ?_
 refine o_1 (.i x1) rfl ?_
 refine o_nil (c_sr ?_)
 refine o_m2 (.i x1) (.b (x1 != 0)) rfl ?_
 refine o_nil ?_
 rcases bif_some h with ⟨h3, h⟩ | ⟨h3, h⟩
 ·
  refine c_t h3 rfl ?_
  refine c_sr ?_
  refine o_m2 (.i x1) (.i x1) rfl ?_
  refine o_nil (c_ret ?_)
  obtain rfl := Option.some.inj h
  exact ⟨⟨_, rfl, .r⟩, trivial, rfl⟩
 refine c_f h3 rfl ?_
 refine c_skip (c_seq (c_sr ?_))
 refine o_1 (.y p2) rfl ?_
 refine o_c (g0 rfl) rfl rfl rfl (lenE _ _) trivial ?_
 refine o_1 (.b ((p2.length : Int) != 64)) rfl ?_
 refine o_nil ?_
 rcases bif_some h with ⟨h4, h⟩ | ⟨h4, h⟩
 ·
  refine c_t h4 rfl ?_
  refine c_sr ?_
  refine o_1 (.i 2) rfl ?_
  refine o_nil (c_ret ?_)
  obtain rfl := Option.some.inj h
  exact ⟨⟨_, rfl, .r⟩, trivial, rfl⟩
 refine c_f h4 rfl ?_
 refine c_skip (c_sr ?_)
 refine o_m2 (.i p1) (.y p2) rfl ?_
 obtain ⟨x5, h6, h⟩ := bind_some h
 refine o_of (e := [(20, .imm (ar cU8 (0 : UInt8) x5 0 64))]) (g0 rfl) (h_s2a (cc := cU8) (z := (0 : UInt8)) mR rfl rfl rfl rfl h6 rfl rfl) rfl ?_
 refine o_of (e := [(21, .t (.agg (ar cU8 (0 : UInt8) x5 0 64)))]) (g0 rfl) (h_ldim mR rfl rfl rfl (ar_len (k := 1) (fun _ => rfl) _ _ _) rfl rfl) rfl ?_
 refine o_s (.t (.agg ([D.i p1] ++ ar cU8 (0 : UInt8) x5 0 64))) (g0 rfl) rfl rfl (by kernel_rfl) ?_
 refine o_s (.box ([T.i 0] ++ List.map T.d (ar cU8 (0 : UInt8) ([] : (List UInt8)) 0 64))) (g0 rfl) rfl rfl (by kernel_rfl) ?_
 refine o_st (b := 8) (.box ([T.i p1] ++ List.map T.d (ar cU8 (0 : UInt8) x5 0 64))) (g0 rfl) rfl rfl (by kernel_rfl) ?_
 refine o_nil (c_seq ?_)
 refine c_draw mixed (by kernel_rfl) ?_
 rcases ptM_some h with ⟨h7, h⟩ | ⟨i8, h7, h⟩
 ·
  refine d_h0 [] (e := [(23, .t (.d (.lit (.pointer none))))]) (ks := [23]) rfl (dg0 rfl) rfl rfl (fun S' hM hok => h_mv hM (.inl rfl) ((cpO_pt rfl).trans (pt_eq_none h7)) rfl (hok _ rfl rfl)) rfl ?_
  refine d_h0 [] (e := [(24, .t (.d (.lit (.pointer none))))]) (ks := [24]) rfl (dg0 rfl) rfl rfl (fun S' hM hok => h_mv hM (.inl rfl) ((cpO_pt rfl).trans (pt_eq_none h7)) rfl (hok _ rfl rfl)) rfl ?_
  exact none_ne h
 refine d_h0 [] (e := [(23, .t (.hpt (cd 1 i8) 0))]) (ks := [23]) rfl (dg0 rfl) rfl rfl (fun S' hM hok => h_mv hM (.inl rfl) ((cpO_pt rfl).trans (pt_eq_some h7)) rfl (hok _ rfl rfl)) rfl ?_
 refine d_h0 [] (e := [(24, .t (.hpt (cd 1 i8) 0))]) (ks := [24]) rfl (dg0 rfl) rfl rfl (fun S' hM hok => h_mv hM (.inl rfl) ((cpO_pt rfl).trans (pt_eq_some h7)) rfl (hok _ rfl rfl)) rfl ?_
 refine d_h0 [] (e := [(25, .t (.hpt (cd 1 i8) 0))]) (ks := [25]) rfl (dg0 rfl) rfl rfl (fun S' hM hok => h_nc hM rfl rfl rfl rfl (hok _ rfl rfl)) rfl ?_
 refine d_h0 [] (e := [(26, .t (.hpt (cd 1 i8) 2))]) (ks := [26]) rfl (dg0 rfl) rfl rfl (fun S' hM hok => h_fd hM rfl rfl rfl rfl rfl (hok _ rfl rfl)) rfl ?_
 obtain ⟨x9, h10, h⟩ := bind_some h
 refine d_h (e := [(HK, .hp (updF (hpA w0) (cd 1 i8) (.box [.hvw (cd 2 x9.kept_.1) 0 119 64 x9.kept_.2, .hvw (cd 2 x9.now_.1) 0 119 64 x9.now_.2, .d (.seq 65 (List.map cS_disk_write x9.wait_)), .i x9.fuse_, .b x9.off_, .i x9.lives_]))), (27, .t (.own 121 65 (List.map cS_disk_write x9.wait_)))]) (ks := [HK, 27]) rfl (dg0 rfl) rfl rfl (fun S' hM hk hok => h_htake hM hk rfl rfl rfl (gl_dk h10) rfl rfl rfl (hok _ rfl rfl) rfl) rfl ?_
 refine d_s (.t (.agg ([D.i p1] ++ ar cU8 (0 : UInt8) x5 0 64))) rfl (dg0 rfl) rfl rfl rfl (by kernel_rfl) ?_
 refine d_s (.t (.own 121 65 (List.map cS_disk_write [(S_disk_write.mk p1 x5)]))) rfl (dg0 rfl) rfl rfl rfl rfl ?_
 obtain ⟨x11, h12, h⟩ := bind_some h
 refine d_2c rfl (dg0 rfl) rfl rfl rfl rfl rfl (appE (c := cS_disk_write) h12) (appC (c := cS_disk_write) h12) ?_
 refine d_h0 [] (e := [(31, .t (.hpt (cd 1 i8) 0))]) (ks := [31]) rfl (dg0 rfl) rfl rfl (fun S' hM hok => h_nc hM rfl rfl rfl rfl (hok _ rfl rfl)) rfl ?_
 refine d_h0 [] (e := [(32, .t (.hpt (cd 1 i8) 2))]) (ks := [32]) rfl (dg0 rfl) rfl rfl (fun S' hM hok => h_fd hM rfl rfl rfl rfl rfl (hok _ rfl rfl)) rfl ?_
 refine d_h (e := [(HK, .hp (hpA (w0.st_dk i8 (S_disk_Disk.mk x9.kept_ x9.now_ x11 x9.fuse_ x9.off_ x9.lives_)))), (30, .t (.d (.seq 65 (List.map cS_disk_write x11))))]) (ks := [HK, 30]) rfl (dg0 rfl) rfl rfl (fun S' hM hk hok => h_hsto hM hk rfl rfl rfl rfl rfl (if_pos rfl) rfl rfl rfl (hok _ rfl rfl) (su2_dk (x' := (S_disk_Disk.mk x9.kept_ x9.now_ x11 x9.fuse_ x9.off_ x9.lives_)) h10)) rfl ?_
 refine d_nil (by kernel_rfl) ?_
 refine c_seq ?_
 refine c_draw mixed (by kernel_rfl) ?_
 refine d_h0 [] (e := [(33, .t (.hpt (cd 1 i8) 0))]) (ks := [33]) rfl (dg0 rfl) rfl rfl (fun S' hM hok => h_mv hM (.inl rfl) ((cpO_pt rfl).trans (pt_eq_some h7)) rfl (hok _ rfl rfl)) rfl ?_
 refine d_h0 [] (e := [(34, .t (.hpt (cd 1 i8) 0))]) (ks := [34]) rfl (dg0 rfl) rfl rfl (fun S' hM hok => h_nc hM rfl rfl rfl rfl (hok _ rfl rfl)) rfl ?_
 refine d_h0 [] (e := [(35, .t (.hpt (cd 1 i8) 1))]) (ks := [35]) rfl (dg0 rfl) rfl rfl (fun S' hM hok => h_fd hM rfl rfl rfl rfl rfl (hok _ rfl rfl)) rfl ?_
 refine d_h (e := [(36, .t (.hvw (cd 2 ((S_disk_Disk.mk x9.kept_ x9.now_ x11 x9.fuse_ x9.off_ x9.lives_).now_).1) 0 119 64 ((S_disk_Disk.mk x9.kept_ x9.now_ x11 x9.fuse_ x9.off_ x9.lives_).now_).2))]) (ks := [36]) rfl (dg0 rfl) rfl rfl (fun S' hM hk hok => h_ld hM hk rfl rfl rfl (gl_dk (set_get h10)) rfl rfl rfl (hok _ rfl rfl)) rfl ?_
 refine d_s (.i p1) rfl (dg0 rfl) rfl rfl rfl rfl ?_
 refine d_s (.ref 8 1) rfl (dg0 rfl) rfl rfl rfl rfl ?_
 refine d_s (.t (.agg (ar cU8 (0 : UInt8) x5 0 64))) rfl (dg0 rfl) rfl rfl rfl (by kernel_rfl) ?_
 obtain ⟨x13, h14, h⟩ := bind_some h
 obtain ⟨x15, h16, h⟩ := bind_some h
 obtain ⟨x17, h18, h⟩ := bind_some h
 refine d_h0 [] (e := [(40, .t (.hpt (cd 2 (((S_disk_Disk.mk x9.kept_ x9.now_ x11 x9.fuse_ x9.off_ x9.lives_).now_).1)) (0 + Int.toNat p1 * 64)))]) (ks := [40]) rfl (dg0 rfl) rfl rfl (fun S' hM hok => h_ix hM rfl rfl rfl rfl (idxV (lenI_eq h16) h18) rfl rfl (hok _ rfl rfl)) rfl ?_
 refine d_h (e := [(HK, .hp (hpA ((w0.st_dk i8 (S_disk_Disk.mk x9.kept_ x9.now_ x11 x9.fuse_ x9.off_ x9.lives_)).st_sec (((S_disk_Disk.mk x9.kept_ x9.now_ x11 x9.fuse_ x9.off_ x9.lives_).now_).1) (x13.set (Int.toNat p1) x5))))]) (ks := [HK]) rfl (dg0 rfl) rfl rfl (fun S' hM hk hok => h_st hM hk rfl rfl rfl rfl (gl_sec h14) rfl (by kernel_rfl) (fl_room2 (c := cA64_cU8) (k := 64) (q := 0) h18 (fun _ => (by kernel_rfl)) rfl) (fl_put2 (c := cA64_cU8) (k := 64) (q := 0) h18 x5 (fun _ => (by kernel_rfl)) (by kernel_rfl) (by kernel_rfl)) (su_sec (x' := (x13.set (Int.toNat p1) x5)) h14)) rfl ?_
 refine d_nil (by kernel_rfl) ?_
 refine c_seq (c_sr ?_)
 refine o_of (e := [(41, .t (.hpt (cd 1 i8) 0))]) (g0 rfl) (h_mv mR (.inl rfl) ((cpO_pt rfl).trans (pt_eq_some h7)) rfl rfl) rfl ?_
 obtain ⟨x19, h20, h⟩ := bind_some h
 refine o_of (e := [(HK, .hp (hpA x19.2)), (42, .b x19.1)]) (g0 rfl) (h_call mR rfl (σ := []) (fr := []) rfl rfl rfl rfl rfl rfl rfl (fch_disk_Disk_burn _ ((w0.st_dk i8 (S_disk_Disk.mk x9.kept_ x9.now_ x11 x9.fuse_ x9.off_ x9.lives_)).st_sec (((S_disk_Disk.mk x9.kept_ x9.now_ x11 x9.fuse_ x9.off_ x9.lives_).now_).1) (x13.set (Int.toNat p1) x5)) _ h20) (pure_hpA _) (pure_hpA _) rfl rfl rfl rfl (.cons (.hpt _ _) .nil) rfl (.t (.flat rfl))) rfl ?_
 refine o_nil ?_
 rcases bif_some h with ⟨h21, h⟩ | ⟨h21, h⟩
 ·
  refine c_t h21 rfl ?_
  refine c_sr ?_
  refine o_1 (.i 30) rfl ?_
  refine o_nil (c_ret ?_)
  obtain rfl := Option.some.inj h
  exact ⟨⟨_, rfl, .r⟩, trivial, rfl⟩
 refine c_f h21 rfl ?_
 refine c_skip (c_sr ?_)
 refine o_1 (.i 0) rfl ?_
 refine o_nil (c_ret ?_)
 obtain rfl := Option.some.inj h
 exact ⟨⟨_, rfl, .r⟩, trivial, rfl⟩
theorem fch_disk_Disk_Size (p0 : (Option Nat)) (w0 : Hp) (r : Int) (h : m_disk_Disk_Size p0 w0 = some r) : FCH Try.prog 59 [.t ((ptT 1 p0))] [] [] (hpA w0) (hpA w0) (.t (.d (.lit (.int .i64 r)))) := by
 refine fch_mk (rs := [.tmp 2]) (n := 11) [] Try.func59 rfl rfl (Nat.le_of_ble_eq_true rfl) rfl (pins := []) rfl (L := [(HK, .hp (hpA w0)), (0, .t ((ptT 1 p0)))]) rfl ?_
 refine c_sr ?_
 refine o_1 (.i 0) rfl ?_
 refine o_nil (c_seq (c_sr ?_))
 refine o_of (e := [(3, .t ((ptT 1 p0)))]) (g0 rfl) (h_mv mR (.inl rfl) (cpO_pt rfl) rfl rfl) rfl ?_
 obtain ⟨x1, h2, h⟩ := bind_some h
 refine o_of (e := [(4, .b x1)]) (g0 rfl) (h_callR mR rfl (σ := []) (fr := []) rfl rfl rfl rfl rfl rfl rfl (fch_disk_Disk_is _ w0 _ h2) (pure_hpA _) rfl rfl rfl rfl (.cons (argPt rfl) .nil) rfl (.t (.flat rfl))) rfl ?_
 refine o_1 (.b (!x1)) rfl ?_
 refine o_nil ?_
 rcases bif_some h with ⟨h3, h⟩ | ⟨h3, h⟩
 ·
  refine c_t h3 rfl ?_
  refine c_sr ?_
  refine o_1 (.i 0) rfl ?_
  refine o_nil (c_ret ?_)
  obtain rfl := Option.some.inj h
  exact ⟨⟨_, rfl, .r⟩, trivial, rfl⟩
 refine c_f h3 rfl ?_
 refine c_skip (c_sr ?_)
 refine o_of (e := [(6, .t ((ptT 1 p0)))]) (g0 rfl) (h_mv mR (.inl rfl) (cpO_pt rfl) rfl rfl) rfl ?_
 rcases ptM_some h with ⟨h4, h⟩ | ⟨i5, h4, h⟩
 ·
  exact none_ne h
 refine o_of (e := [(7, .t (.hpt (cd 1 i5) 0))]) (g0 rfl) (h_nc mR rfl (cpO_pt rfl) (ptT_some h4) rfl rfl) rfl ?_
 refine o_of (e := [(8, .t (.hpt (cd 1 i5) 1))]) (g0 rfl) (h_fd mR rfl rfl rfl rfl rfl rfl) rfl ?_
 obtain ⟨x6, h7, h⟩ := bind_some h
 refine o_of (e := [(9, .t (.hvw (cd 2 x6.now_.1) 0 119 64 x6.now_.2))]) (g0 rfl) (h_ld mR rfl rfl rfl rfl (gl_dk h7) rfl rfl rfl rfl) rfl ?_
 refine o_of (e := [(10, .i (x6.now_.2 : Int))]) (g0 rfl) (h_ln mR rfl rfl rfl rfl rfl rfl) rfl ?_
 refine o_1 (.i (x6.now_.2 : Int)) rfl ?_
 refine o_nil (c_ret ?_)
 obtain rfl := Option.some.inj h
 exact ⟨⟨_, rfl, .r⟩, trivial, rfl⟩
theorem fch_wal_room (p0 : (Option Nat)) (p1 : Int) (w0 : Hp) (r : Bool) (h : m_wal_room p0 p1 w0 = some r) : FCH Try.prog 60 [.t ((ptT 1 p0)), .t (.d (.lit (.int .i64 p1)))] [] [] (hpA w0) (hpA w0) (.t (.d (.lit (.bool r)))) := by
 refine fch_mk (rs := [.tmp 4]) (n := 15) [] Try.func60 rfl rfl (Nat.le_of_ble_eq_true rfl) rfl (pins := []) rfl (L := [(HK, .hp (hpA w0)), (0, .t ((ptT 1 p0))), (1, .i p1)]) rfl ?_
 refine c_sr ?_
 refine o_1 (.b false) rfl ?_
 refine o_nil (c_sr ?_)
 refine o_m3 (.i p1) (.b (decide (p1 ≥ 3))) (.b (decide (p1 ≥ 3))) rfl ?_
 rcases bif_some h with ⟨h1, h⟩ | ⟨h1, h⟩
 ·
  refine o_s (.i p1) (gy rfl rfl rfl h1) rfl rfl rfl ?_
  refine o_of (e := [(9, .t ((ptT 1 p0)))]) (gy rfl rfl rfl h1) (h_mv mR (.inl rfl) (cpO_pt rfl) rfl rfl) rfl ?_
  obtain ⟨x2, h3, h⟩ := bind_some h
  refine o_of (e := [(10, .i x2)]) (gy rfl rfl rfl h1) (h_callR mR rfl (σ := []) (fr := []) rfl rfl rfl rfl rfl rfl rfl (fch_disk_Disk_Size _ w0 _ h3) (pure_hpA _) rfl rfl rfl rfl (.cons (argPt rfl) .nil) rfl (.t (.flat rfl))) rfl ?_
  refine o_s (.i (wi (x2 - 2))) (gy rfl rfl rfl h1) rfl rfl rfl ?_
  refine o_s (.i (wi ((wi (x2 - 2)) - 1))) (gy rfl rfl rfl h1) rfl rfl rfl ?_
  refine o_s (.b (decide (p1 ≤ (wi ((wi (x2 - 2)) - 1))))) (gy rfl rfl rfl h1) rfl rfl rfl ?_
  refine o_pk (.b (decide (p1 ≤ (wi ((wi (x2 - 2)) - 1))))) (b := true) h1 (g0 rfl) rfl rfl rfl rfl rfl ?_
  refine o_1 (.b (decide (p1 ≤ (wi ((wi (x2 - 2)) - 1))))) rfl ?_
  refine o_nil (c_ret ?_)
  obtain rfl := Option.some.inj h
  exact ⟨⟨_, rfl, .r⟩, trivial, rfl⟩
 refine o_skip rfl rfl rfl h1 rfl rfl ?_
 refine o_skip rfl rfl rfl h1 rfl rfl ?_
 refine o_skip rfl rfl rfl h1 rfl rfl ?_
 refine o_skip rfl rfl rfl h1 rfl rfl ?_
 refine o_skip rfl rfl rfl h1 rfl rfl ?_
 refine o_skip rfl rfl rfl h1 rfl rfl ?_
 refine o_pk (.b false) (b := false) h1 (g0 rfl) rfl rfl rfl rfl rfl ?_
 refine o_1 (.b false) rfl ?_
 refine o_nil (c_ret ?_)
 obtain rfl := Option.some.inj h
 exact ⟨⟨_, rfl, .r⟩, trivial, rfl⟩
theorem fch_disk_Disk_Flush (p0 : (Option Nat)) (w0 : Hp) (r : (Int × Hp)) (h : m_disk_Disk_Flush p0 w0 = some r) : FCH Try.prog 61 [.t ((ptT 1 p0))] [] [] (hpA w0) (hpA r.2) (.t (.d (.lit (.int .i64 r.1)))) := by
 refine fch_mk (rs := [.tmp 2]) (n := 35) [] Try.func61 rfl rfl (Nat.le_of_ble_eq_true rfl) rfl (pins := []) rfl (L := [(HK, .hp (hpA w0)), (0, .t ((ptT 1 p0)))]) rfl ?_
 refine c_sr ?_
 refine o_1 (.i 0) rfl ?_
 refine o_nil (c_seq (c_sr ?_))
 refine o_of (e := [(6, .t ((ptT 1 p0)))]) (g0 rfl) (h_mv mR (.inl rfl) (cpO_pt rfl) rfl rfl) rfl ?_
 obtain ⟨x1, h2, h⟩ := bind_some h
 refine o_of (e := [(7, .i x1)]) (g0 rfl) (h_callR mR rfl (σ := []) (fr := []) rfl rfl rfl rfl rfl rfl rfl (fch_disk_Disk_may _ _ w0 _ h2) (pure_hpA _) rfl rfl rfl rfl (.cons (argPt rfl) (.cons (.plain .r rfl) .nil)) rfl (.t (.flat rfl))) rfl ?_
 refine o_1 (.i x1) rfl ?_
 refine o_nil (c_sr ?_)
 refine o_m2 (.i x1) (.b (x1 != 0)) rfl ?_
 refine o_nil ?_
 rcases bif_some h with ⟨h3, h⟩ | ⟨h3, h⟩
 ·
  refine c_t h3 rfl ?_
  refine c_sr ?_
  refine o_m2 (.i x1) (.i x1) rfl ?_
  refine o_nil (c_ret ?_)
  obtain rfl := Option.some.inj h
  exact ⟨⟨_, rfl, .r⟩, trivial, rfl⟩
 refine c_f h3 rfl ?_
 refine c_skip (c_seq (c_sr ?_))
 refine o_of (e := [(11, .t ((ptT 1 p0)))]) (g0 rfl) (h_mv mR (.inl rfl) (cpO_pt rfl) rfl rfl) rfl ?_
 obtain ⟨x4, h5, h⟩ := bind_some h
 refine o_of (e := [(HK, .hp (hpA x4.2)), (12, .b x4.1)]) (g0 rfl) (h_call mR rfl (σ := []) (fr := []) rfl rfl rfl rfl rfl rfl rfl (fch_disk_Disk_burn _ w0 _ h5) (pure_hpA _) (pure_hpA _) rfl rfl rfl rfl (.cons (argPt rfl) .nil) rfl (.t (.flat rfl))) rfl ?_
 refine o_nil ?_
 rcases bif_some h with ⟨h6, h⟩ | ⟨h6, h⟩
 ·
  refine c_t h6 rfl ?_
  refine c_sr ?_
  refine o_1 (.i 30) rfl ?_
  refine o_nil (c_ret ?_)
  obtain rfl := Option.some.inj h
  exact ⟨⟨_, rfl, .r⟩, trivial, rfl⟩
 refine c_f h6 rfl ?_
 refine c_skip ?_
 refine c_cutH (fun (y7 : Hp) => [(0, .t ((ptT 1 p0))), (HK, .hp (hpA y7))]) (fun (y7 : Hp) => m_disk_Disk_Flush_j1 p0 y7 = some r) ?_ ?_
 ·
  refine c_sr ?_
  refine o_of (e := [(13, .t ((ptT 1 p0)))]) (g0 rfl) (h_mv mR (.inl rfl) (cpO_pt rfl) rfl rfl) rfl ?_
  rcases ptM_some h with ⟨h12, h⟩ | ⟨i13, h12, h⟩
  ·
   exact none_ne h
  refine o_of (e := [(14, .t (.hpt (cd 1 i13) 0))]) (g0 rfl) (h_nc mR rfl (cpO_pt rfl) (ptT_some h12) rfl rfl) rfl ?_
  refine o_of (e := [(15, .t (.hpt (cd 1 i13) 2))]) (g0 rfl) (h_fd mR rfl rfl rfl rfl rfl rfl) rfl ?_
  obtain ⟨x14, h15, h⟩ := bind_some h
  refine o_of (e := [(16, .t (.d (.seq 65 (List.map cS_disk_write x14.wait_))))]) (g0 rfl) (h_ld mR rfl rfl rfl rfl (gl_dk h15) rfl rfl rfl rfl) rfl ?_
  refine o_c (g0 rfl) rfl rfl rfl (lenE _ _) trivial ?_
  refine o_1 (.i 0) rfl ?_
  refine o_nil (c_block ?_)
  refine c_fuelH (fun (q : Int × Hp) => [(0, .t ((ptT 1 p0))), (16, .t (.d (.seq 65 (List.map cS_disk_write x14.wait_)))), (17, .i (x14.wait_.length : Int)), (18, .i q.1), (HK, .hp (hpA q.2))]) (fun nl2 => (fun (q : Int × Hp) => m_disk_Disk_Flush_l2 x14 i13 p0 nl2 q.1 q.2 = some r)) (x14.wait_.length + 1) (0, x4.2) [] h rfl ⟨.inr ⟨_, rfl, pure_hpA _⟩, by (repeat (first | exact ObP.nil | refine ObP.cons (.inl rfl) ?_ | refine ObP.cons (.inr (fun _ => rfl)) ?_ | refine ObP.cons (.inr (ob_box (fl_noPt _ _))) ?_ | refine ObP.cons (.inr (ob_gb _ _)) ?_))⟩ ⟨.r, .r, .r, .r, .r, trivial⟩ rfl ?_
  rintro nl2 ⟨z16, z17⟩ h
  cases nl2 with
  | zero => exact none_ne h
  | succ nl2 =>
   refine c_sr ?_
   refine o_1 (.b (decide (z16 < (x14.wait_.length : Int)))) rfl ?_
   refine o_nil (c_seq ?_)
   rcases bif_some h with ⟨h18, h⟩ | ⟨h18, h⟩
   ·
    refine c_t h18 rfl ?_
    refine c_skip (c_seq (c_block (c_sr ?_)))
    obtain ⟨x19, h20, h⟩ := bind_some h
    refine o_c (g0 rfl) rfl rfl rfl (idxE h20) (idxC h20) ?_
    refine o_s (.t (.agg ([D.i x19.n_] ++ ar cU8 (0 : UInt8) x19.b_ 0 64))) (g0 rfl) rfl rfl (by kernel_rfl) ?_
    refine o_s (.box ([T.i 0] ++ List.map T.d (ar cU8 (0 : UInt8) ([] : (List UInt8)) 0 64))) (g0 rfl) rfl rfl (by kernel_rfl) ?_
    refine o_st (b := 5) (.box ([T.i x19.n_] ++ List.map T.d (ar cU8 (0 : UInt8) x19.b_ 0 64))) (g0 rfl) rfl rfl (by kernel_rfl) ?_
    refine o_nil ?_
    refine c_draw mixed (by kernel_rfl) ?_
    refine d_h0 [] (e := [(22, .t (.hpt (cd 1 i13) 0))]) (ks := [22]) rfl (dg0 rfl) rfl rfl (fun S' hM hok => h_mv hM (.inl rfl) ((cpO_pt rfl).trans (pt_eq_some h12)) rfl (hok _ rfl rfl)) rfl ?_
    refine d_h0 [] (e := [(23, .t (.hpt (cd 1 i13) 0))]) (ks := [23]) rfl (dg0 rfl) rfl rfl (fun S' hM hok => h_nc hM rfl rfl rfl rfl (hok _ rfl rfl)) rfl ?_
    refine d_h0 [] (e := [(24, .t (.hpt (cd 1 i13) 0))]) (ks := [24]) rfl (dg0 rfl) rfl rfl (fun S' hM hok => h_fd hM rfl rfl rfl rfl rfl (hok _ rfl rfl)) rfl ?_
    obtain ⟨x21, h22, h⟩ := bind_some h
    refine d_h (e := [(25, .t (.hvw (cd 2 x21.kept_.1) 0 119 64 x21.kept_.2))]) (ks := [25]) rfl (dg0 rfl) rfl rfl (fun S' hM hk hok => h_ld hM hk rfl rfl rfl (gl_dk h22) rfl rfl rfl (hok _ rfl rfl)) rfl ?_
    refine d_s (.ref 5 0) rfl (dg0 rfl) rfl rfl rfl rfl ?_
    refine d_s (.i x19.n_) rfl (dg0 rfl) rfl rfl rfl rfl ?_
    refine d_s (.ref 5 1) rfl (dg0 rfl) rfl rfl rfl rfl ?_
    refine d_s (.t (.agg (ar cU8 (0 : UInt8) x19.b_ 0 64))) rfl (dg0 rfl) rfl rfl rfl (by kernel_rfl) ?_
    obtain ⟨x23, h24, h⟩ := bind_some h
    obtain ⟨x25, h26, h⟩ := bind_some h
    obtain ⟨x27, h28, h⟩ := bind_some h
    refine d_h0 [] (e := [(30, .t (.hpt (cd 2 x21.kept_.1) (0 + Int.toNat x19.n_ * 64)))]) (ks := [30]) rfl (dg0 rfl) rfl rfl (fun S' hM hok => h_ix hM rfl rfl rfl rfl (idxV (lenI_eq h26) h28) rfl rfl (hok _ rfl rfl)) rfl ?_
    refine d_h (e := [(HK, .hp (hpA (z17.st_sec x21.kept_.1 (x23.set (Int.toNat x19.n_) x19.b_))))]) (ks := [HK]) rfl (dg0 rfl) rfl rfl (fun S' hM hk hok => h_st hM hk rfl rfl rfl rfl (gl_sec h24) rfl (by kernel_rfl) (fl_room2 (c := cA64_cU8) (k := 64) (q := 0) h28 (fun _ => (by kernel_rfl)) rfl) (fl_put2 (c := cA64_cU8) (k := 64) (q := 0) h28 x19.b_ (fun _ => (by kernel_rfl)) (by kernel_rfl) (by kernel_rfl)) (su_sec (x' := (x23.set (Int.toNat x19.n_) x19.b_)) h24)) rfl ?_
    refine d_nil (by kernel_rfl) ?_
    refine c_region ?_
    refine o_m2 (.i (wi (z16 + 1))) (.i (wi (z16 + 1))) rfl ?_
    refine o_nil ?_
    exact ⟨nl2, ((wi (z16 + 1)), (z17.st_sec x21.kept_.1 (x23.set (Int.toNat x19.n_) x19.b_))), [], Nat.lt_succ_self nl2, h, rfl, ⟨.inr ⟨_, rfl, pure_hpA _⟩, by (repeat (first | exact ObP.nil | refine ObP.cons (.inl rfl) ?_ | refine ObP.cons (.inr (fun _ => rfl)) ?_ | refine ObP.cons (.inr (ob_box (fl_noPt _ _))) ?_ | refine ObP.cons (.inr (ob_gb _ _)) ?_))⟩, ⟨.r, .r, .r, .r, .r, trivial⟩, rfl⟩
   refine c_f h18 rfl ?_
   refine c_exit ?_
   exact ⟨z17, [], h, rfl, ⟨.inr ⟨_, rfl, pure_hpA _⟩, by (repeat (first | exact ObP.nil | refine ObP.cons (.inl rfl) ?_ | refine ObP.cons (.inr (fun _ => rfl)) ?_ | refine ObP.cons (.inr (ob_box (fl_noPt _ _))) ?_ | refine ObP.cons (.inr (ob_gb _ _)) ?_))⟩, ⟨.r, .r, trivial⟩, rfl⟩
 rintro y7 h
 refine c_sr ?_
 refine o_of (e := [(32, .t ((ptT 1 p0)))]) (g0 rfl) (h_mv mR (.inl rfl) (cpO_pt rfl) rfl rfl) rfl ?_
 rcases ptM_some h with ⟨h8, h⟩ | ⟨i9, h8, h⟩
 ·
  exact none_ne h
 refine o_of (e := [(33, .t (.hpt (cd 1 i9) 0))]) (g0 rfl) (h_nc mR rfl (cpO_pt rfl) (ptT_some h8) rfl rfl) rfl ?_
 refine o_of (e := [(34, .t (.hpt (cd 1 i9) 2))]) (g0 rfl) (h_fd mR rfl rfl rfl rfl rfl rfl) rfl ?_
 obtain ⟨x10, h11, h⟩ := bind_some h
 refine o_of (e := [(HK, .hp (hpA (y7.st_dk i9 (S_disk_Disk.mk x10.kept_ x10.now_ [] x10.fuse_ x10.off_ x10.lives_))))]) (g0 rfl) (h_stw mR rfl rfl rfl rfl rfl (gl_dk h11) rfl rfl (Nat.le_of_ble_eq_true rfl) (.cons .r (.cons .r (.cons (.nilOwn _ _) (.cons .r (.cons .r (.cons .r .nil)))))) rfl (su_dk (x' := (S_disk_Disk.mk x10.kept_ x10.now_ [] x10.fuse_ x10.off_ x10.lives_)) h11)) rfl ?_
 refine o_nil (c_sr ?_)
 refine o_1 (.i 0) rfl ?_
 refine o_nil (c_ret ?_)
 obtain rfl := Option.some.inj h
 exact ⟨⟨_, rfl, .r⟩, trivial, rfl⟩
theorem fch_wal_put_v0 (p0 : (List UInt8)) (o0 n0 : Nat) (p1 : Int) (w0 : Hp) (r : (List UInt8)) (h : m_wal_put_v0 p0 o0 n0 p1 = some r) : FCH Try.prog 107 [.t (.view 0 o0 0 1 n0), .t (.d (.lit (.int .i64 p1)))] [.box (fl (dT cU8) p0)] [.box (fl (dT cU8) r)] (hpA w0) (hpA w0) (.tup []) := by
 refine fch_mk (rs := []) (n := 16) [] Try.func107 rfl rfl (Nat.le_of_ble_eq_true rfl) rfl (pins := [OB + 0]) rfl (L := [(HK, .hp (hpA w0)), (OB + 0, .box (fl (dT cU8) p0)), (0, .t (.view 0 o0 0 1 n0)), (1, .i p1)]) rfl ?_
 refine c_sr ?_
 refine o_m2 (.i p1) (.t (.view 0 o0 0 1 n0)) rfl ?_
 refine o_of (e := [(9, .i ((n0 : Nat) : Int))]) (g0 rfl) (h_lln mR rfl rfl rfl rfl rfl rfl) rfl ?_
 obtain ⟨x1, h2, h⟩ := bind_some h
 refine o_ca (fc_word_Put _ _ _ h2) (g0 rfl) rfl rfl rfl rfl rfl rfl rfl (.cons .r (.cons .r .nil)) rfl rfl ?_
 refine o_m5 (.tup [.y x1.1, .i x1.2]) (.y x1.1) (.i x1.2) (.y x1.1) (.i x1.2) rfl ?_
 refine o_nil (c_region ?_)
 refine o_m2 (.t (.view 0 o0 0 1 n0)) (.y x1.1) rfl ?_
 obtain ⟨x3, h4, h⟩ := bind_some h
 refine o_of (e := [((OB + 0), .box (fl (dT cU8) x3)), (15, .i ((min x1.1.length n0 : Nat) : Int))]) (g0 rfl) (h_cpy (cc := cU8) (yl := x1.1) mR rfl rfl rfl rfl rfl rfl (fun _ => rfl) rfl h4 rfl rfl rfl) rfl ?_
 obtain ⟨x5, h6, h⟩ := bind_some h
 have h6 : x3.length = p0.length := lenI_eq h6
 refine o_nil ?_
 obtain rfl := Option.some.inj h
 exact ⟨⟨_, rfl, .r⟩, ⟨rfl, trivial⟩, rfl⟩
theorem fch_wal_slotBytes (p0 : Int) (p1 : Int) (w0 : Hp) (r : (List UInt8)) (h : m_wal_slotBytes p0 p1 = some r) : FCH Try.prog 62 [.t (.d (.lit (.int .i64 p0))), .t (.d (.lit (.int .i64 p1)))] [] [] (hpA w0) (hpA w0) (.t (.d (.seq 1 (bytesD r)))) := by
 refine fch_mk (rs := [.tmp 4]) (n := 20) [0] Try.func62 rfl rfl (Nat.le_of_ble_eq_true rfl) rfl (pins := []) rfl (L := [(HK, .hp (hpA w0)), (OB + 0, .free), (0, .i p0), (1, .i p1)]) rfl ?_
 refine c_sr ?_
 refine o_1 (.n) rfl ?_
 refine o_nil (c_sr ?_)
 obtain ⟨x1, h2, h⟩ := bind_some h
 refine o_of (e := [((OB + 0), .box (fl (dT cU8) (List.replicate x1 (0 : UInt8)))), (6, .t (.view 0 0 5 1 x1))]) (g0 rfl) (h_mkl mR rfl rfl rfl rfl rfl rfl rfl (by kernel_rfl) rfl h2 (fl_rep (c := cU8) (z := (0 : UInt8)) (by kernel_rfl) x1) rfl rfl rfl rfl) rfl ?_
 refine o_1 (.t (.view 0 0 5 1 x1)) rfl ?_
 refine o_nil (c_sr ?_)
 refine o_1 (.t (.view 0 0 5 1 x1)) rfl ?_
 obtain ⟨x3, h4, h⟩ := bind_some h
 refine o_of (e := [(8, .t (.view 0 (0 + Int.toNat 0 * 1) 5 1 (Int.toNat 8 - Int.toNat 0)))]) (g0 rfl) (h_lsl mR rfl rfl rfl rfl rfl rfl rfl (vcut_iff h4) rfl rfl rfl rfl) rfl ?_
 refine o_1 (.i p0) rfl ?_
 obtain ⟨x5, h6, h⟩ := bind_some h
 refine o_of (e := [((OB + 0), .box (fl (dT cU8) x5)), (10, .tup [])]) (g0 rfl) (h_callR mR rfl (σ := [0]) (fr := []) rfl rfl rfl rfl rfl rfl rfl (fch_wal_put_v0 _ _ _ _ w0 _ h6) (pure_hpA _) rfl (by simp [A.flatO, fl_noPt]) (by simp [A.flatO, fl_noPt]) rfl (.cons (argVw0 rfl rfl) (.cons (.plain .r rfl) .nil)) rfl (.tup .nil)) rfl ?_
 obtain ⟨x7, h8, h⟩ := bind_some h
 have h8 : x5.length = (List.replicate x1 (0 : UInt8)).length := lenI_eq h8; simp only [List.length_set, List.length_replicate] at h8
 refine o_nil (c_sr ?_)
 refine o_1 (.t (.view 0 0 5 1 x1)) rfl ?_
 obtain ⟨x9, h10, h⟩ := bind_some h
 refine o_of (e := [(12, .t (.view 0 (0 + Int.toNat 8 * 1) 5 1 (Int.toNat 12 - Int.toNat 8)))]) (g0 rfl) (h_lsl mR rfl rfl rfl rfl rfl rfl rfl (vcut_iff h10) rfl rfl rfl rfl) rfl ?_
 refine o_1 (.i p1) rfl ?_
 obtain ⟨x11, h12, h⟩ := bind_some h
 refine o_of (e := [((OB + 0), .box (fl (dT cU8) x11)), (14, .tup [])]) (g0 rfl) (h_callR mR rfl (σ := [0]) (fr := []) rfl rfl rfl rfl rfl rfl rfl (fch_wal_put_v0 _ _ _ _ w0 _ h12) (pure_hpA _) rfl (by simp [A.flatO, fl_noPt]) (by simp [A.flatO, fl_noPt]) rfl (.cons (argVw0 rfl rfl) (.cons (.plain .r rfl) .nil)) rfl (.tup .nil)) rfl ?_
 obtain ⟨x13, h14, h⟩ := bind_some h
 have h14 : x11.length = x5.length := lenI_eq h14
 refine o_nil (c_sr ?_)
 refine o_1 (.t (.view 0 0 5 1 x1)) rfl ?_
 obtain ⟨x15, h16, h⟩ := bind_some h
 refine o_of (e := [(16, .t (.view 0 (0 + Int.toNat 56 * 1) 5 1 (Int.toNat (x1 : Int) - Int.toNat 56)))]) (g0 rfl) (h_lsl mR rfl rfl rfl rfl rfl rfl rfl (vcut_iff h16) rfl rfl rfl rfl) rfl ?_
 refine o_1 (.i p0) rfl ?_
 obtain ⟨x17, h18, h⟩ := bind_some h
 refine o_of (e := [((OB + 0), .box (fl (dT cU8) x17)), (18, .tup [])]) (g0 rfl) (h_callR mR rfl (σ := [0]) (fr := []) rfl rfl rfl rfl rfl rfl rfl (fch_wal_put_v0 _ _ _ _ w0 _ h18) (pure_hpA _) rfl (by simp [A.flatO, fl_noPt]) (by simp [A.flatO, fl_noPt]) rfl (.cons (argVw0 rfl rfl) (.cons (.plain .r rfl) .nil)) rfl (.tup .nil)) rfl ?_
 obtain ⟨x19, h20, h⟩ := bind_some h
 have h20 : x17.length = x11.length := lenI_eq h20
 refine o_nil (c_sr ?_)
 refine o_m2 (.t (.view 0 0 5 1 x1)) (.t (.view 0 0 5 1 x1)) rfl ?_
 refine o_nil ?_
 refine c_frz 4 0 rfl rfl (by first | (simp; done) | (rw [List.length_map]; omega)) (fl_flat _ _) (map_row (c := cU8) (fun _ => rfl) _) rfl ⟨.inr ⟨_, rfl, pure_hpA _⟩, by (repeat (first | exact ObP.nil | refine ObP.cons (.inl rfl) ?_ | refine ObP.cons (.inr (fun _ => rfl)) ?_ | refine ObP.cons (.inr (ob_box (fl_noPt _ _))) ?_ | refine ObP.cons (.inr (ob_gb _ _)) ?_))⟩ rfl ?_
 refine c_ret ?_
 obtain rfl := Option.some.inj h
 exact ⟨⟨_, rfl, .r⟩, trivial, rfl⟩
theorem fch_wal_Format (p0 : (Option Nat)) (p1 : Int) (w0 : Hp) (r : (Int × Hp)) (h : m_wal_Format p0 p1 w0 = some r) : FCH Try.prog 13 [.t ((ptT 1 p0)), .t (.d (.lit (.int .i64 p1)))] [] [] (hpA w0) (hpA r.2) (.t (.d (.lit (.int .i64 r.1)))) := by
 refine fch_mk (rs := [.tmp 4]) (n := 45) [0] Try.func13 rfl rfl (Nat.le_of_ble_eq_true rfl) rfl (pins := []) rfl (L := [(HK, .hp (hpA w0)), (OB + 0, .free), (0, .t ((ptT 1 p0))), (1, .i p1)]) rfl ?_
 refine c_sr ?_
 refine o_1 (.i 0) rfl ?_
 refine o_nil (c_seq (c_block (c_sr ?_)))
 refine o_of (e := [(10, .t ((ptT 1 p0)))]) (g0 rfl) (h_mv mR (.inl rfl) (cpO_pt rfl) rfl rfl) rfl ?_
 obtain ⟨x1, h2, h⟩ := bind_some h
 refine o_of (e := [(11, .i x1)]) (g0 rfl) (h_callR mR rfl (σ := []) (fr := []) rfl rfl rfl rfl rfl rfl rfl (fch_disk_Disk_Size _ w0 _ h2) (pure_hpA _) rfl rfl rfl rfl (.cons (argPt rfl) .nil) rfl (.t (.flat rfl))) rfl ?_
 refine o_m2 (.b (x1 == 0)) (.b (x1 == 0)) rfl ?_
 refine o_nil ?_
 rcases bif_some h with ⟨h3, h⟩ | ⟨h3, h⟩
 ·
  refine c_t h3 rfl ?_
  refine c_sr ?_
  refine o_1 (.i 1) rfl ?_
  refine o_nil (c_ret ?_)
  obtain rfl := Option.some.inj h
  exact ⟨⟨_, rfl, .r⟩, trivial, rfl⟩
 refine c_f h3 rfl ?_
 refine c_sr ?_
 refine o_of (e := [(14, .t ((ptT 1 p0)))]) (g0 rfl) (h_mv mR (.inl rfl) (cpO_pt rfl) rfl rfl) rfl ?_
 refine o_1 (.i p1) rfl ?_
 obtain ⟨x4, h5, h⟩ := bind_some h
 refine o_of (e := [(16, .b x4)]) (g0 rfl) (h_callR mR rfl (σ := []) (fr := []) rfl rfl rfl rfl rfl rfl rfl (fch_wal_room _ _ w0 _ h5) (pure_hpA _) rfl rfl rfl rfl (.cons (argPt rfl) (.cons (.plain .r rfl) .nil)) rfl (.t (.flat rfl))) rfl ?_
 refine o_m2 (.b (!x4)) (.b (!x4)) rfl ?_
 refine o_nil ?_
 rcases bif_some h with ⟨h6, h⟩ | ⟨h6, h⟩
 ·
  refine c_t h6 rfl ?_
  refine c_sr ?_
  refine o_1 (.i 2) rfl ?_
  refine o_nil (c_ret ?_)
  obtain rfl := Option.some.inj h
  exact ⟨⟨_, rfl, .r⟩, trivial, rfl⟩
 refine c_f h6 rfl ?_
 refine c_skip ?_
 refine c_cutH (fun (y7 : Hp) => [(0, .t ((ptT 1 p0))), (1, .i p1), (HK, .hp (hpA y7)), (OB + 0, .free)]) (fun (y7 : Hp) => m_wal_Format_j1 p0 p1 y7 = some r) ?_ ?_
 ·
  refine c_sr ?_
  refine o_1 (.i 1) rfl ?_
  refine o_nil (c_block ?_)
  refine c_fuelH (fun (q : Int × Hp) => [(0, .t ((ptT 1 p0))), (1, .i p1), (5, .i q.1), (HK, .hp (hpA q.2)), (OB + 0, .free)]) (fun nl2 => (fun (q : Int × Hp) => m_wal_Format_l2 p1 p0 nl2 q.1 q.2 = some r)) (Int.toNat (wi (2 + p1)) + 1) (1, w0) [] h rfl ⟨.inr ⟨_, rfl, pure_hpA _⟩, by (repeat (first | exact ObP.nil | refine ObP.cons (.inl rfl) ?_ | refine ObP.cons (.inr (fun _ => rfl)) ?_ | refine ObP.cons (.inr (ob_box (fl_noPt _ _))) ?_ | refine ObP.cons (.inr (ob_gb _ _)) ?_))⟩ ⟨.r, .r, .r, .r, .r, trivial⟩ rfl ?_
  rintro nl2 ⟨z18, z19⟩ h
  cases nl2 with
  | zero => exact none_ne h
  | succ nl2 =>
   refine c_seq (c_sr ?_)
   refine o_m4 (.i z18) (.i p1) (.i (wi (2 + p1))) (.b (decide (z18 < (wi (2 + p1))))) rfl ?_
   refine o_nil ?_
   rcases bif_some h with ⟨h20, h⟩ | ⟨h20, h⟩
   ·
    refine c_t h20 rfl ?_
    refine c_skip (c_seq (c_block (c_sr ?_)))
    refine o_of (e := [(24, .t ((ptT 1 p0)))]) (g0 rfl) (h_mv mR (.inl rfl) (cpO_pt rfl) rfl rfl) rfl ?_
    refine o_1 (.i z18) rfl ?_
    obtain ⟨x21, h22, h⟩ := bind_some h
    refine o_of (e := [(26, .t (.own 5 1 (bytesD (List.replicate x21 (0 : UInt8)))))]) (g0 rfl) (h_mko (c := cU8) mR rfl rfl rfl rfl rfl rfl rfl rfl rfl h22 (by first | (unfold bytesD; rw [List.map_replicate]; rfl) | (rw [List.map_replicate]; rfl)) rfl rfl) rfl ?_
    obtain ⟨x23, h24, h⟩ := bind_some h
    refine o_of (e := [(HK, .hp (hpA x23.2)), (27, .i x23.1)]) (g0 rfl) (h_call mR rfl (σ := []) (fr := []) rfl rfl rfl rfl rfl rfl rfl (fch_disk_Disk_Write _ _ _ z19 _ h24) (pure_hpA _) (pure_hpA _) rfl rfl rfl rfl (.cons (argPt rfl) (.cons (.plain .r rfl) (.cons (.plain .r rfl) .nil))) rfl (.t (.flat rfl))) rfl ?_
    refine o_1 (.i x23.1) rfl ?_
    refine o_nil (c_sr ?_)
    refine o_m2 (.i x23.1) (.b (x23.1 != 0)) rfl ?_
    refine o_nil ?_
    rcases bif_some h with ⟨h25, h⟩ | ⟨h25, h⟩
    ·
     refine c_t h25 rfl ?_
     refine c_sr ?_
     refine o_m2 (.i x23.1) (.i x23.1) rfl ?_
     refine o_nil (c_ret ?_)
     obtain rfl := Option.some.inj h
     exact ⟨⟨_, rfl, .r⟩, trivial, rfl⟩
    refine c_f h25 rfl ?_
    refine c_skip (c_region ?_)
    refine o_m3 (.i z18) (.i (wi (z18 + 1))) (.i (wi (z18 + 1))) rfl ?_
    refine o_nil ?_
    exact ⟨nl2, ((wi (z18 + 1)), x23.2), [], Nat.lt_succ_self nl2, h, rfl, ⟨.inr ⟨_, rfl, pure_hpA _⟩, by (repeat (first | exact ObP.nil | refine ObP.cons (.inl rfl) ?_ | refine ObP.cons (.inr (fun _ => rfl)) ?_ | refine ObP.cons (.inr (ob_box (fl_noPt _ _))) ?_ | refine ObP.cons (.inr (ob_gb _ _)) ?_))⟩, ⟨.r, .r, .r, .r, .r, trivial⟩, rfl⟩
   refine c_f h20 rfl ?_
   refine c_exit ?_
   exact ⟨z19, [], h, rfl, ⟨.inr ⟨_, rfl, pure_hpA _⟩, by (repeat (first | exact ObP.nil | refine ObP.cons (.inl rfl) ?_ | refine ObP.cons (.inr (fun _ => rfl)) ?_ | refine ObP.cons (.inr (ob_box (fl_noPt _ _))) ?_ | refine ObP.cons (.inr (ob_gb _ _)) ?_))⟩, ⟨.r, .r, .r, .r, trivial⟩, rfl⟩
 rintro y7 h
 refine c_seq (c_sr ?_)
 refine o_of (e := [(31, .t ((ptT 1 p0)))]) (g0 rfl) (h_mv mR (.inl rfl) (cpO_pt rfl) rfl rfl) rfl ?_
 obtain ⟨x8, h9, h⟩ := bind_some h
 refine o_of (e := [(HK, .hp (hpA x8.2)), (32, .i x8.1)]) (g0 rfl) (h_call mR rfl (σ := []) (fr := []) rfl rfl rfl rfl rfl rfl rfl (fch_disk_Disk_Flush _ y7 _ h9) (pure_hpA _) (pure_hpA _) rfl rfl rfl rfl (.cons (argPt rfl) .nil) rfl (.t (.flat rfl))) rfl ?_
 refine o_1 (.i x8.1) rfl ?_
 refine o_nil (c_sr ?_)
 refine o_m2 (.i x8.1) (.b (x8.1 != 0)) rfl ?_
 refine o_nil ?_
 rcases bif_some h with ⟨h10, h⟩ | ⟨h10, h⟩
 ·
  refine c_t h10 rfl ?_
  refine c_sr ?_
  refine o_m2 (.i x8.1) (.i x8.1) rfl ?_
  refine o_nil (c_ret ?_)
  obtain rfl := Option.some.inj h
  exact ⟨⟨_, rfl, .r⟩, trivial, rfl⟩
 refine c_f h10 rfl ?_
 refine c_skip (c_seq (c_sr ?_))
 refine o_of (e := [(36, .t ((ptT 1 p0)))]) (g0 rfl) (h_mv mR (.inl rfl) (cpO_pt rfl) rfl rfl) rfl ?_
 refine o_1 (.i p1) rfl ?_
 obtain ⟨x11, h12, h⟩ := bind_some h
 refine o_of (e := [(38, .y x11)]) (g0 rfl) (h_callR mR rfl (σ := []) (fr := []) rfl rfl rfl rfl rfl rfl rfl (fch_wal_slotBytes _ _ x8.2 _ h12) (pure_hpA _) rfl rfl rfl rfl (.cons (.plain .r rfl) (.cons (.plain .r rfl) .nil)) rfl (.t (.flat rfl))) rfl ?_
 obtain ⟨x13, h14, h⟩ := bind_some h
 refine o_of (e := [(HK, .hp (hpA x13.2)), (39, .i x13.1)]) (g0 rfl) (h_call mR rfl (σ := []) (fr := []) rfl rfl rfl rfl rfl rfl rfl (fch_disk_Disk_Write _ _ _ x8.2 _ h14) (pure_hpA _) (pure_hpA _) rfl rfl rfl rfl (.cons (argPt rfl) (.cons (.plain .r rfl) (.cons (.plain .r rfl) .nil))) rfl (.t (.flat rfl))) rfl ?_
 refine o_1 (.i x13.1) rfl ?_
 refine o_nil (c_sr ?_)
 refine o_m2 (.i x13.1) (.b (x13.1 != 0)) rfl ?_
 refine o_nil ?_
 rcases bif_some h with ⟨h15, h⟩ | ⟨h15, h⟩
 ·
  refine c_t h15 rfl ?_
  refine c_sr ?_
  refine o_m2 (.i x13.1) (.i x13.1) rfl ?_
  refine o_nil (c_ret ?_)
  obtain rfl := Option.some.inj h
  exact ⟨⟨_, rfl, .r⟩, trivial, rfl⟩
 refine c_f h15 rfl ?_
 refine c_skip (c_sr ?_)
 refine o_of (e := [(43, .t ((ptT 1 p0)))]) (g0 rfl) (h_mv mR (.inl rfl) (cpO_pt rfl) rfl rfl) rfl ?_
 obtain ⟨x16, h17, h⟩ := bind_some h
 refine o_of (e := [(HK, .hp (hpA x16.2)), (44, .i x16.1)]) (g0 rfl) (h_call mR rfl (σ := []) (fr := []) rfl rfl rfl rfl rfl rfl rfl (fch_disk_Disk_Flush _ x13.2 _ h17) (pure_hpA _) (pure_hpA _) rfl rfl rfl rfl (.cons (argPt rfl) .nil) rfl (.t (.flat rfl))) rfl ?_
 refine o_1 (.i x16.1) rfl ?_
 refine o_nil (c_ret ?_)
 obtain rfl := Option.some.inj h
 exact ⟨⟨_, rfl, .r⟩, trivial, rfl⟩
theorem fch_disk_Disk_Off (p0 : (Option Nat)) (w0 : Hp) (r : Bool) (h : m_disk_Disk_Off p0 w0 = some r) : FCH Try.prog 63 [.t ((ptT 1 p0))] [] [] (hpA w0) (hpA w0) (.t (.d (.lit (.bool r)))) := by
 refine fch_mk (rs := [.tmp 2]) (n := 11) [] Try.func63 rfl rfl (Nat.le_of_ble_eq_true rfl) rfl (pins := []) rfl (L := [(HK, .hp (hpA w0)), (0, .t ((ptT 1 p0)))]) rfl ?_
 refine c_sr ?_
 refine o_1 (.b false) rfl ?_
 refine o_nil (c_sr ?_)
 refine o_of (e := [(3, .t ((ptT 1 p0)))]) (g0 rfl) (h_mv mR (.inl rfl) (cpO_pt rfl) rfl rfl) rfl ?_
 obtain ⟨x1, h2, h⟩ := bind_some h
 refine o_of (e := [(4, .b x1)]) (g0 rfl) (h_callR mR rfl (σ := []) (fr := []) rfl rfl rfl rfl rfl rfl rfl (fch_disk_Disk_is _ w0 _ h2) (pure_hpA _) rfl rfl rfl rfl (.cons (argPt rfl) .nil) rfl (.t (.flat rfl))) rfl ?_
 refine o_1 (.b x1) rfl ?_
 rcases bif_some h with ⟨h3, h⟩ | ⟨h3, h⟩
 ·
  refine o_of (e := [(6, .t ((ptT 1 p0)))]) (gy rfl rfl rfl h3) (h_mv mR (.inl rfl) (cpO_pt rfl) rfl rfl) rfl ?_
  rcases ptM_some h with ⟨h4, h⟩ | ⟨i5, h4, h⟩
  ·
   exact none_ne h
  refine o_of (e := [(7, .t (.hpt (cd 1 i5) 0))]) (gy rfl rfl rfl h3) (h_nc mR rfl (cpO_pt rfl) (ptT_some h4) rfl rfl) rfl ?_
  refine o_of (e := [(8, .t (.hpt (cd 1 i5) 4))]) (gy rfl rfl rfl h3) (h_fd mR rfl rfl rfl rfl rfl rfl) rfl ?_
  obtain ⟨x6, h7, h⟩ := bind_some h
  refine o_of (e := [(9, .b x6.off_)]) (gy rfl rfl rfl h3) (h_ld mR rfl rfl rfl rfl (gl_dk h7) rfl rfl rfl rfl) rfl ?_
  refine o_pk (.b x6.off_) (b := true) h3 (g0 rfl) rfl rfl rfl rfl rfl ?_
  refine o_1 (.b x6.off_) rfl ?_
  refine o_nil (c_ret ?_)
  obtain rfl := Option.some.inj h
  exact ⟨⟨_, rfl, .r⟩, trivial, rfl⟩
 refine o_skip rfl rfl rfl h3 rfl rfl ?_
 refine o_skip rfl rfl rfl h3 rfl rfl ?_
 refine o_skip rfl rfl rfl h3 rfl rfl ?_
 refine o_skip rfl rfl rfl h3 rfl rfl ?_
 refine o_pk (.b false) (b := false) h3 (g0 rfl) rfl rfl rfl rfl rfl ?_
 refine o_1 (.b false) rfl ?_
 refine o_nil (c_ret ?_)
 obtain rfl := Option.some.inj h
 exact ⟨⟨_, rfl, .r⟩, trivial, rfl⟩
theorem fch_disk_Disk_Lives (p0 : (Option Nat)) (w0 : Hp) (r : Int) (h : m_disk_Disk_Lives p0 w0 = some r) : FCH Try.prog 64 [.t ((ptT 1 p0))] [] [] (hpA w0) (hpA w0) (.t (.d (.lit (.int .i64 r)))) := by
 refine fch_mk (rs := [.tmp 2]) (n := 10) [] Try.func64 rfl rfl (Nat.le_of_ble_eq_true rfl) rfl (pins := []) rfl (L := [(HK, .hp (hpA w0)), (0, .t ((ptT 1 p0)))]) rfl ?_
 refine c_sr ?_
 refine o_1 (.i 0) rfl ?_
 refine o_nil (c_seq (c_sr ?_))
 refine o_of (e := [(3, .t ((ptT 1 p0)))]) (g0 rfl) (h_mv mR (.inl rfl) (cpO_pt rfl) rfl rfl) rfl ?_
 obtain ⟨x1, h2, h⟩ := bind_some h
 refine o_of (e := [(4, .b x1)]) (g0 rfl) (h_callR mR rfl (σ := []) (fr := []) rfl rfl rfl rfl rfl rfl rfl (fch_disk_Disk_is _ w0 _ h2) (pure_hpA _) rfl rfl rfl rfl (.cons (argPt rfl) .nil) rfl (.t (.flat rfl))) rfl ?_
 refine o_1 (.b (!x1)) rfl ?_
 refine o_nil ?_
 rcases bif_some h with ⟨h3, h⟩ | ⟨h3, h⟩
 ·
  refine c_t h3 rfl ?_
  refine c_sr ?_
  refine o_1 (.i 0) rfl ?_
  refine o_nil (c_ret ?_)
  obtain rfl := Option.some.inj h
  exact ⟨⟨_, rfl, .r⟩, trivial, rfl⟩
 refine c_f h3 rfl ?_
 refine c_skip (c_sr ?_)
 refine o_of (e := [(6, .t ((ptT 1 p0)))]) (g0 rfl) (h_mv mR (.inl rfl) (cpO_pt rfl) rfl rfl) rfl ?_
 rcases ptM_some h with ⟨h4, h⟩ | ⟨i5, h4, h⟩
 ·
  exact none_ne h
 refine o_of (e := [(7, .t (.hpt (cd 1 i5) 0))]) (g0 rfl) (h_nc mR rfl (cpO_pt rfl) (ptT_some h4) rfl rfl) rfl ?_
 refine o_of (e := [(8, .t (.hpt (cd 1 i5) 5))]) (g0 rfl) (h_fd mR rfl rfl rfl rfl rfl rfl) rfl ?_
 obtain ⟨x6, h7, h⟩ := bind_some h
 refine o_of (e := [(9, .i x6.lives_)]) (g0 rfl) (h_ld mR rfl rfl rfl rfl (gl_dk h7) rfl rfl rfl rfl) rfl ?_
 refine o_1 (.i x6.lives_) rfl ?_
 refine o_nil (c_ret ?_)
 obtain rfl := Option.some.inj h
 exact ⟨⟨_, rfl, .r⟩, trivial, rfl⟩
theorem fch_disk_Disk_Read (p0 : (Option Nat)) (p1 : Int) (w0 : Hp) (r : ((List UInt8) × Int)) (h : m_disk_Disk_Read p0 p1 w0 = some r) : FCH Try.prog 20 [.t ((ptT 1 p0)), .t (.d (.lit (.int .i64 p1)))] [] [] (hpA w0) (hpA w0) (.tup [.d (.seq 1 (bytesD r.1)), .d (.lit (.int .i64 r.2))]) := by
 refine fch_mk (rs := [.tmp 4, .tmp 5]) (n := 22) [0] Try.func20 rfl rfl (Nat.le_of_ble_eq_true rfl) rfl (pins := []) rfl (L := [(HK, .hp (hpA w0)), (OB + 0, .free), (0, .t ((ptT 1 p0))), (1, .i p1)]) rfl ?_
 refine c_sr ?_
 refine o_m2 (.n) (.i 0) rfl ?_
 refine o_nil (c_seq (c_sr ?_))
 refine o_of (e := [(8, .t ((ptT 1 p0)))]) (g0 rfl) (h_mv mR (.inl rfl) (cpO_pt rfl) rfl rfl) rfl ?_
 refine o_1 (.i p1) rfl ?_
 obtain ⟨x1, h2, h⟩ := bind_some h
 refine o_of (e := [(10, .i x1)]) (g0 rfl) (h_callR mR rfl (σ := []) (fr := []) rfl rfl rfl rfl rfl rfl rfl (fch_disk_Disk_may _ _ w0 _ h2) (pure_hpA _) rfl rfl rfl rfl (.cons (argPt rfl) (.cons (.plain .r rfl) .nil)) rfl (.t (.flat rfl))) rfl ?_
 refine o_1 (.i x1) rfl ?_
 refine o_nil (c_sr ?_)
 refine o_m2 (.i x1) (.b (x1 != 0)) rfl ?_
 refine o_nil ?_
 rcases bif_some h with ⟨h3, h⟩ | ⟨h3, h⟩
 ·
  refine c_t h3 rfl ?_
  refine c_sr ?_
  refine o_m3 (.i x1) (.n) (.i x1) rfl ?_
  refine o_nil (c_ret ?_)
  obtain rfl := Option.some.inj h
  exact ⟨⟨_, rfl, (.tup (.cons (.d (.nil _)) (.cons .r .nil)))⟩, trivial, rfl⟩
 refine c_f h3 rfl ?_
 refine c_skip (c_sr ?_)
 refine o_of (e := [(14, .t ((ptT 1 p0)))]) (g0 rfl) (h_mv mR (.inl rfl) (cpO_pt rfl) rfl rfl) rfl ?_
 rcases ptM_some h with ⟨h4, h⟩ | ⟨i5, h4, h⟩
 ·
  exact none_ne h
 refine o_of (e := [(15, .t (.hpt (cd 1 i5) 0))]) (g0 rfl) (h_nc mR rfl (cpO_pt rfl) (ptT_some h4) rfl rfl) rfl ?_
 refine o_of (e := [(16, .t (.hpt (cd 1 i5) 1))]) (g0 rfl) (h_fd mR rfl rfl rfl rfl rfl rfl) rfl ?_
 obtain ⟨x6, h7, h⟩ := bind_some h
 refine o_of (e := [(17, .t (.hvw (cd 2 x6.now_.1) 0 119 64 x6.now_.2))]) (g0 rfl) (h_ld mR rfl rfl rfl rfl (gl_dk h7) rfl rfl rfl rfl) rfl ?_
 refine o_1 (.i p1) rfl ?_
 obtain ⟨x8, h9, h⟩ := bind_some h
 obtain ⟨x10, h11, h⟩ := bind_some h
 obtain ⟨x12, h13, h⟩ := bind_some h
 refine o_of (e := [(19, .t (.hpt (cd 2 x6.now_.1) (0 + Int.toNat p1 * 64)))]) (g0 rfl) (h_ix mR rfl rfl rfl rfl (idxV (lenI_eq h11) h13) rfl rfl rfl) rfl ?_
 refine o_of (e := [(20, .t (.agg (ar cU8 (0 : UInt8) x12 0 64)))]) (g0 rfl) (h_lr mR rfl rfl rfl rfl (gl_sec h9) (flr_at (k := 64) h13 (fun _ => (by kernel_rfl))) (by kernel_rfl) (by kernel_rfl) (by kernel_rfl) rfl rfl) rfl ?_
 refine o_of (e := [((OB + 0), .box (fl (dT cU8) (padA (0 : UInt8) ([] : (List UInt8)) 0 64))), (7, .t (.ptr 0 0))]) (g0 rfl) (h_lnew mR rfl rfl rfl rfl (by kernel_rfl) rfl rfl rfl rfl) rfl ?_
 refine o_of (e := [((OB + 0), .box (fl (dT cU8) (padA (0 : UInt8) x12 0 64)))]) (g0 rfl) (h_lst mR rfl rfl rfl rfl rfl rfl (by kernel_rfl) (Nat.le_of_ble_eq_true (by kernel_rfl)) (by kernel_rfl)) rfl ?_
 refine o_nil (c_sr ?_)
 refine o_of (e := [(21, .t (.view 0 0 0 1 64))]) (g0 rfl) (h_sla mR rfl rfl rfl rfl rfl rfl rfl (by kernel_rfl) rfl (by decide) rfl rfl rfl) rfl ?_
 refine o_m2 (.t (.view 0 0 0 1 64)) (.i 0) rfl ?_
 refine o_nil ?_
 refine c_frz 4 0 rfl rfl (by rw [List.length_map, padA_len]) (fl_flat _ _) (map_row (c := cU8) (fun _ => rfl) _) rfl ⟨.inr ⟨_, rfl, pure_hpA _⟩, by (repeat (first | exact ObP.nil | refine ObP.cons (.inl rfl) ?_ | refine ObP.cons (.inr (fun _ => rfl)) ?_ | refine ObP.cons (.inr (ob_box (fl_noPt _ _))) ?_ | refine ObP.cons (.inr (ob_gb _ _)) ?_))⟩ rfl ?_
 refine c_ret ?_
 obtain rfl := Option.some.inj h
 exact ⟨⟨_, rfl, (.tup (.cons .r (.cons .r .nil)))⟩, trivial, rfl⟩
theorem fc_word_Get (p0 : (List UInt8)) (r : (Int × Int)) (h : m_word_Get p0 = some r) : FC Try.prog 108 [.t (.d (.seq 1 (bytesD p0)))] [] (.tup [.d (.lit (.int .i64 r.1)), .d (.lit (.int .i64 r.2))]) := by
 refine fc_mk (rs := [.tmp 2, .tmp 3]) (n := 31) Try.func108 rfl rfl (Nat.le_of_ble_eq_true rfl) rfl (pins := []) rfl (L := [(0, .y p0)]) rfl ?_
 refine c_sr ?_
 refine o_m2 (.i 0) (.i 0) rfl ?_
 refine o_nil (c_seq (c_block (c_sr ?_)))
 refine o_1 (.y p0) rfl ?_
 refine o_c (g0 rfl) rfl rfl rfl (lenE _ _) trivial ?_
 refine o_m2 (.b ((p0.length : Int) == 0)) (.b ((p0.length : Int) == 0)) rfl ?_
 refine o_nil ?_
 rcases bif_some h with ⟨h1, h⟩ | ⟨h1, h⟩
 ·
  refine c_t h1 rfl ?_
  refine c_sr ?_
  refine o_m2 (.i 0) (.i 10) rfl ?_
  refine o_nil (c_ret ?_)
  obtain rfl := Option.some.inj h
  exact end0 rfl (.tup (.cons .r (.cons .r .nil)))
 refine c_f h1 rfl ?_
 refine c_sr ?_
 refine o_1 (.y p0) rfl ?_
 refine o_c (g0 rfl) rfl rfl rfl (lenE _ _) trivial ?_
 refine o_m2 (.b (decide ((p0.length : Int) > 8))) (.b (decide ((p0.length : Int) > 8))) rfl ?_
 refine o_nil ?_
 rcases bif_some h with ⟨h2, h⟩ | ⟨h2, h⟩
 ·
  refine c_t h2 rfl ?_
  refine c_sr ?_
  refine o_m2 (.i 0) (.i 2) rfl ?_
  refine o_nil (c_ret ?_)
  obtain rfl := Option.some.inj h
  exact end0 rfl (.tup (.cons .r (.cons .r .nil)))
 refine c_f h2 rfl ?_
 refine c_skip (c_sr ?_)
 refine o_1 (.t (.d (.lit (.int .u64 0)))) rfl ?_
 refine o_nil ?_
 refine c_cut (fun (y3 : Int) => [(4, .t (.d (.lit (.int .u64 y3))))]) (fun (y3 : Int) => m_word_Get_j1 y3 = some r) ?_ ?_
 ·
  refine c_sr ?_
  refine o_1 (.y p0) rfl ?_
  refine o_c (g0 rfl) rfl rfl rfl (lenE _ _) trivial ?_
  refine o_1 (.i 0) rfl ?_
  refine o_nil (c_block ?_)
  refine c_fuel (fun (q : Int × Int) => [(4, .t (.d (.lit (.int .u64 q.1)))), (15, .y p0), (16, .i (p0.length : Int)), (17, .i q.2)]) (fun nl2 => (fun (q : Int × Int) => m_word_Get_l2 p0 nl2 q.1 q.2 = some r)) (p0.length + 1) (0, 0) h ⟨.r, .r, .r, .r, trivial⟩ rfl ?_
  rintro nl2 ⟨z5, z6⟩ h
  cases nl2 with
  | zero => exact none_ne h
  | succ nl2 =>
   refine c_sr ?_
   refine o_1 (.b (decide (z6 < (p0.length : Int)))) rfl ?_
   refine o_nil (c_seq ?_)
   rcases bif_some h with ⟨h7, h⟩ | ⟨h7, h⟩
   ·
    refine c_t h7 rfl ?_
    refine c_skip (c_seq (c_block (c_sr ?_)))
    obtain ⟨x8, h9, h⟩ := bind_some h
    refine o_c (g0 rfl) rfl rfl rfl (idxE h9) (idxC h9) ?_
    refine o_m2 (.t (.d (.lit (.int .u8 (x8.toNat : Int))))) (.t (.d (.lit (.int .u8 (x8.toNat : Int))))) rfl ?_
    refine o_nil (c_region ?_)
    refine o_m3 (.t (.d (.lit (.int .u64 z5)))) (.t (.d (.lit (.int .u64 (IntKind.u64.wrap (z5 * 2 ^ 8)))))) (.t (.d (.lit (.int .u8 (x8.toNat : Int))))) rfl ?_
    refine o_c (g0 rfl) rfl rfl rfl (congrArg (fun z => A.t (.d (.lit (.int .u64 z)))) (u64_u8 _)) trivial ?_
    refine o_m2 (.t (.d (.lit (.int .u64 (IntKind.u64.wrap ((((BitVec.ofInt IntKind.u64.bits (IntKind.u64.wrap (z5 * 2 ^ 8))) ||| (BitVec.ofInt IntKind.u64.bits (x8.toNat : Int))).toNat : Nat) : Int)))))) (.t (.d (.lit (.int .u64 (IntKind.u64.wrap ((((BitVec.ofInt IntKind.u64.bits (IntKind.u64.wrap (z5 * 2 ^ 8))) ||| (BitVec.ofInt IntKind.u64.bits (x8.toNat : Int))).toNat : Nat) : Int)))))) rfl ?_
    refine o_nil (c_region ?_)
    refine o_m2 (.i (wi (z6 + 1))) (.i (wi (z6 + 1))) rfl ?_
    refine o_nil ?_
    exact ⟨nl2, ((IntKind.u64.wrap ((((BitVec.ofInt IntKind.u64.bits (IntKind.u64.wrap (z5 * 2 ^ 8))) ||| (BitVec.ofInt IntKind.u64.bits (x8.toNat : Int))).toNat : Nat) : Int)), (wi (z6 + 1))), Nat.lt_succ_self nl2, h, ⟨.r, .r, .r, .r, trivial⟩, rfl⟩
   refine c_f h7 rfl ?_
   refine c_exit ?_
   exact ⟨z5, h, ⟨.r, trivial⟩, rfl⟩
 rintro y3 h
 refine c_seq (c_sr ?_)
 refine o_m2 (.t (.d (.lit (.int .u64 y3)))) (.b (decide (y3 > 4611686018427387904))) rfl ?_
 refine o_nil ?_
 rcases bif_some h with ⟨h4, h⟩ | ⟨h4, h⟩
 ·
  refine c_t h4 rfl ?_
  refine c_sr ?_
  refine o_m2 (.i 0) (.i 11) rfl ?_
  refine o_nil (c_ret ?_)
  obtain rfl := Option.some.inj h
  exact end0 rfl (.tup (.cons .r (.cons .r .nil)))
 refine c_f h4 rfl ?_
 refine c_skip (c_sr ?_)
 refine o_m4 (.t (.d (.lit (.int .u64 y3)))) (.i (wi y3)) (.i (wi y3)) (.i 0) rfl ?_
 refine o_nil (c_ret ?_)
 obtain rfl := Option.some.inj h
 exact end0 rfl (.tup (.cons .r (.cons .r .nil)))
theorem fc_slices_IndexFunc_byte (p0 : (List UInt8)) (F1 : Nat) (C1 : List (List D)) (p1 : (UInt8 → Option Bool)) (hp1 : ∀ (a0 : UInt8) r, p1 a0 = some r → FC Try.prog F1 ([.t (.d (.lit (.int .u8 (a0.toNat : Int))))] ++ C1.map A.imm) [] (.t (.d (.lit (.bool r))))) (hf1 : ∃ fn, Try.prog.funcs[F1]? = some fn ∧ fn.body.isNone = false ∧ (fn.name == "runtime.NumGoroutine") = false) (r : Int) (h : m_slices_IndexFunc_byte p0 p1 = some r) : FC Try.prog 137 [.t (.d (.seq 1 (bytesD p0))), .t (.d (.clo F1 C1))] [] (.t (.d (.lit (.int .i64 r)))) := by
 refine fc_mk (rs := [.tmp 4]) (n := 19) Try.func137 rfl rfl (Nat.le_of_ble_eq_true rfl) rfl (pins := []) rfl (L := [(0, .y p0), (1, .t (.d (.clo F1 C1)))]) rfl ?_
 refine c_sr ?_
 refine o_1 (.i 0) rfl ?_
 refine o_nil (c_seq (c_sr ?_))
 refine o_1 (.y p0) rfl ?_
 refine o_c (g0 rfl) rfl rfl rfl (lenE _ _) trivial ?_
 refine o_1 (.i 0) rfl ?_
 refine o_nil (c_block ?_)
 refine c_fuel (fun (z1 : Int) => [(0, .y p0), (1, .t (.d (.clo F1 C1))), (7, .i (p0.length : Int)), (8, .i z1)]) (fun nl1 => (fun (z1 : Int) => m_slices_IndexFunc_byte_l1 p0 p1 nl1 z1 = some r)) (p0.length + 1) 0 h ⟨.r, .r, .r, .r, trivial⟩ rfl ?_
 rintro nl1 z1 h
 cases nl1 with
 | zero => exact none_ne h
 | succ nl1 =>
  refine c_sr ?_
  refine o_1 (.b (decide (z1 < (p0.length : Int)))) rfl ?_
  refine o_nil (c_seq ?_)
  rcases bif_some h with ⟨h2, h⟩ | ⟨h2, h⟩
  ·
   refine c_t h2 rfl ?_
   refine c_skip (c_seq (c_block (c_sr ?_)))
   refine o_m2 (.i z1) (.i z1) rfl ?_
   refine o_nil (c_sr ?_)
   refine o_m3 (.t (.d (.clo F1 C1))) (.y p0) (.i z1) rfl ?_
   obtain ⟨x3, h4, h⟩ := bind_some h
   refine o_c (g0 rfl) rfl rfl rfl (idxE h4) (idxC h4) ?_
   refine o_1 (.t (.d (.lit (.int .u8 (x3.toNat : Int))))) rfl ?_
   obtain ⟨x5, h6, h⟩ := bind_some h
   refine o_cc (hp1 _ _ h6) (g0 rfl) rfl rfl rfl rfl hf1.choose_spec.1 hf1.choose_spec.2.1 hf1.choose_spec.2.2 (.cons .r .nil) rfl rfl ?_
   refine o_nil ?_
   rcases bif_some h with ⟨h7, h⟩ | ⟨h7, h⟩
   ·
    refine c_t h7 rfl ?_
    refine c_sr ?_
    refine o_m2 (.i z1) (.i z1) rfl ?_
    refine o_nil (c_ret ?_)
    obtain rfl := Option.some.inj h
    exact end0 rfl .r
   refine c_f h7 rfl ?_
   refine c_skip (c_region ?_)
   refine o_m2 (.i (wi (z1 + 1))) (.i (wi (z1 + 1))) rfl ?_
   refine o_nil ?_
   exact ⟨nl1, (wi (z1 + 1)), Nat.lt_succ_self nl1, h, ⟨.r, .r, .r, .r, trivial⟩, rfl⟩
  refine c_f h2 rfl ?_
  refine c_exit (c_sr ?_)
  refine o_1 (.i (-1)) rfl ?_
  refine o_nil (c_ret ?_)
  obtain rfl := Option.some.inj h
  exact end0 rfl .r
theorem fc_slices_ContainsFunc_byte (p0 : (List UInt8)) (F1 : Nat) (C1 : List (List D)) (p1 : (UInt8 → Option Bool)) (hp1 : ∀ (a0 : UInt8) r, p1 a0 = some r → FC Try.prog F1 ([.t (.d (.lit (.int .u8 (a0.toNat : Int))))] ++ C1.map A.imm) [] (.t (.d (.lit (.bool r))))) (hf1 : ∃ fn, Try.prog.funcs[F1]? = some fn ∧ fn.body.isNone = false ∧ (fn.name == "runtime.NumGoroutine") = false) (r : Bool) (h : m_slices_ContainsFunc_byte p0 p1 = some r) : FC Try.prog 128 [.t (.d (.seq 1 (bytesD p0))), .t (.d (.clo F1 C1))] [] (.t (.d (.lit (.bool r)))) := by
 refine fc_mk (rs := [.tmp 4]) (n := 9) Try.func128 rfl rfl (Nat.le_of_ble_eq_true rfl) rfl (pins := []) rfl (L := [(0, .y p0), (1, .t (.d (.clo F1 C1)))]) rfl ?_
 refine c_sr ?_
 refine o_1 (.b false) rfl ?_
 refine o_nil (c_sr ?_)
 refine o_m2 (.y p0) (.t (.d (.clo F1 C1))) rfl ?_
 obtain ⟨x1, h2, h⟩ := bind_some h
 refine o_ca (fc_slices_IndexFunc_byte _ F1 C1 _ hp1 hf1 _ h2) (g0 rfl) rfl rfl rfl rfl rfl rfl rfl (.cons .r (.cons .r .nil)) rfl rfl ?_
 refine o_m2 (.b (decide (x1 ≥ 0))) (.b (decide (x1 ≥ 0))) rfl ?_
 refine o_nil (c_ret ?_)
 obtain rfl := Option.some.inj h
 exact end0 rfl .r
theorem fc_wal_noughts_c1 (p0 : UInt8) (r : Bool) (h : m_wal_noughts_c1 p0 = some r) : FC Try.prog 129 [.t (.d (.lit (.int .u8 (p0.toNat : Int))))] [] (.t (.d (.lit (.bool r)))) := by
 refine fc_mk (rs := [.tmp 2]) (n := 5) Try.func129 rfl rfl (Nat.le_of_ble_eq_true rfl) rfl (pins := []) rfl (L := [(0, .t (.d (.lit (.int .u8 (p0.toNat : Int)))))]) rfl ?_
 refine c_sr ?_
 refine o_1 (.b false) rfl ?_
 refine o_nil (c_sr ?_)
 refine o_m3 (.t (.d (.lit (.int .u8 (p0.toNat : Int))))) (.b ((p0.toNat : Int) != 0)) (.b ((p0.toNat : Int) != 0)) rfl ?_
 refine o_nil (c_ret ?_)
 obtain rfl := Option.some.inj h
 exact end0 rfl .r
theorem fc_wal_noughts (p0 : (List UInt8)) (r : Bool) (h : m_wal_noughts p0 = some r) : FC Try.prog 109 [.t (.d (.seq 1 (bytesD p0)))] [] (.t (.d (.lit (.bool r)))) := by
 refine fc_mk (rs := [.tmp 2]) (n := 6) Try.func109 rfl rfl (Nat.le_of_ble_eq_true rfl) rfl (pins := []) rfl (L := [(0, .y p0)]) rfl ?_
 refine c_sr ?_
 refine o_1 (.b false) rfl ?_
 refine o_nil (c_sr ?_)
 refine o_1 (.y p0) rfl ?_
 obtain ⟨x1, h2, h⟩ := bind_some h
 refine o_ca (fc_slices_ContainsFunc_byte _ 129 [] _ fc_wal_noughts_c1 ⟨_, Try.func129, rfl, rfl⟩ _ h2) (g0 rfl) rfl rfl rfl rfl rfl rfl rfl (.cons .r (.cons (.t (.d (.fn _))) .nil)) rfl rfl ?_
 refine o_m2 (.b (!x1)) (.b (!x1)) rfl ?_
 refine o_nil (c_ret ?_)
 obtain rfl := Option.some.inj h
 exact end0 rfl .r
theorem fch_wal_readSlot (p0 : (Option Nat)) (p1 : Int) (w0 : Hp) (r : (Int × Int × Bool)) (h : m_wal_readSlot p0 p1 w0 = some r) : FCH Try.prog 65 [.t ((ptT 1 p0)), .t (.d (.lit (.int .i64 p1)))] [] [] (hpA w0) (hpA w0) (.tup [.d (.lit (.int .i64 r.1)), .d (.lit (.int .i64 r.2.1)), .d (.lit (.bool r.2.2))]) := by
 refine fch_mk (rs := [.tmp 4, .tmp 5, .tmp 6]) (n := 75) [] Try.func65 rfl rfl (Nat.le_of_ble_eq_true rfl) rfl (pins := []) rfl (L := [(HK, .hp (hpA w0)), (0, .t ((ptT 1 p0))), (1, .i p1)]) rfl ?_
 refine c_sr ?_
 refine o_m3 (.i 0) (.i 0) (.b false) rfl ?_
 refine o_nil (c_sr ?_)
 refine o_of (e := [(13, .t ((ptT 1 p0)))]) (g0 rfl) (h_mv mR (.inl rfl) (cpO_pt rfl) rfl rfl) rfl ?_
 refine o_1 (.i p1) rfl ?_
 obtain ⟨x1, h2, h⟩ := bind_some h
 refine o_of (e := [(15, .tup [.y x1.1, .i x1.2])]) (g0 rfl) (h_callR mR rfl (σ := []) (fr := []) rfl rfl rfl rfl rfl rfl rfl (fch_disk_Disk_Read _ _ w0 _ h2) (pure_hpA _) rfl rfl rfl rfl (.cons (argPt rfl) (.cons (.plain .r rfl) .nil)) rfl (.tup (.cons (.flat rfl) (.cons (.flat rfl) .nil)))) rfl ?_
 refine o_m5 (.tup [.y x1.1, .i x1.2]) (.y x1.1) (.i x1.2) (.y x1.1) (.i x1.2) rfl ?_
 refine o_nil (c_seq (c_sr ?_))
 refine o_m2 (.i x1.2) (.b (x1.2 != 0)) rfl ?_
 refine o_nil ?_
 rcases bif_some h with ⟨h3, h⟩ | ⟨h3, h⟩
 ·
  refine c_t h3 rfl ?_
  refine c_sr ?_
  refine o_m3 (.i 0) (.i 0) (.b false) rfl ?_
  refine o_nil (c_ret ?_)
  obtain rfl := Option.some.inj h
  exact ⟨⟨_, rfl, (.tup (.cons .r (.cons .r (.cons .r .nil))))⟩, trivial, rfl⟩
 refine c_f h3 rfl ?_
 refine c_skip (c_sr ?_)
 refine o_1 (.y x1.1) rfl ?_
 obtain ⟨x4, h5, h⟩ := bind_some h
 refine o_c (g0 rfl) rfl rfl rfl (cutEh (c := cU8) h5) (cutCh (c := cU8) h5) ?_
 obtain ⟨x6, h7, h⟩ := bind_some h
 refine o_ca (fc_word_Get _ _ h7) (g0 rfl) rfl rfl rfl rfl rfl rfl rfl (.cons .r .nil) rfl rfl ?_
 refine o_m5 (.tup [.i x6.1, .i x6.2]) (.i x6.1) (.i x6.2) (.i x6.1) (.i x6.2) rfl ?_
 refine o_nil (c_sr ?_)
 refine o_1 (.y x1.1) rfl ?_
 obtain ⟨x8, h9, h⟩ := bind_some h
 refine o_c (g0 rfl) rfl rfl rfl (cutEl (c := cU8) h9) (cutCl (c := cU8) h9) ?_
 obtain ⟨x10, h11, h⟩ := bind_some h
 refine o_ca (fc_word_Get _ _ h11) (g0 rfl) rfl rfl rfl rfl rfl rfl rfl (.cons .r .nil) rfl rfl ?_
 refine o_m5 (.tup [.i x10.1, .i x10.2]) (.i x10.1) (.i x10.2) (.i x10.1) (.i x10.2) rfl ?_
 refine o_nil (c_sr ?_)
 refine o_1 (.y x1.1) rfl ?_
 obtain ⟨x12, h13, h⟩ := bind_some h
 refine o_c (g0 rfl) rfl rfl rfl (cutE (c := cU8) h13) (cutC (c := cU8) h13) ?_
 obtain ⟨x14, h15, h⟩ := bind_some h
 refine o_ca (fc_word_Get _ _ h15) (g0 rfl) rfl rfl rfl rfl rfl rfl rfl (.cons .r .nil) rfl rfl ?_
 refine o_m5 (.tup [.i x14.1, .i x14.2]) (.i x14.1) (.i x14.2) (.i x14.1) (.i x14.2) rfl ?_
 refine o_nil (c_seq (c_sr ?_))
 refine o_m3 (.i x6.2) (.b (x6.2 != 0)) (.b (x6.2 != 0)) rfl ?_
 rcases bif_some h with ⟨h16, h⟩ | ⟨h16, h⟩
 ·
  refine o_skip rfl rfl rfl h16 rfl rfl ?_
  refine o_skip rfl rfl rfl h16 rfl rfl ?_
  refine o_pk (.b true) (b := true) h16 (g0 rfl) rfl rfl rfl rfl rfl ?_
  refine o_1 (.b true) rfl ?_
  refine o_skip rfl rfl rfl rfl rfl rfl ?_
  refine o_skip rfl rfl rfl rfl rfl rfl ?_
  refine o_pk (.b true) (b := true) rfl (g0 rfl) rfl rfl rfl rfl rfl ?_
  refine o_1 (.b true) rfl ?_
  refine o_skip rfl rfl rfl rfl rfl rfl ?_
  refine o_skip rfl rfl rfl rfl rfl rfl ?_
  refine o_skip rfl rfl rfl rfl rfl rfl ?_
  refine o_pk (.b true) (b := true) rfl (g0 rfl) rfl rfl rfl rfl rfl ?_
  refine o_1 (.b true) rfl ?_
  refine o_skip rfl rfl rfl rfl rfl rfl ?_
  refine o_skip rfl rfl rfl rfl rfl rfl ?_
  refine o_pk (.b true) (b := true) rfl (g0 rfl) rfl rfl rfl rfl rfl ?_
  refine o_1 (.b true) rfl ?_
  refine o_skip rfl rfl rfl rfl rfl rfl ?_
  refine o_skip rfl rfl rfl rfl rfl rfl ?_
  refine o_pk (.b true) (b := true) rfl (g0 rfl) rfl rfl rfl rfl rfl ?_
  refine o_1 (.b true) rfl ?_
  refine o_skip rfl rfl rfl rfl rfl rfl ?_
  refine o_skip rfl rfl rfl rfl rfl rfl ?_
  refine o_skip rfl rfl rfl rfl rfl rfl ?_
  refine o_skip rfl rfl rfl rfl rfl rfl ?_
  refine o_pk (.b true) (b := true) rfl (g0 rfl) rfl rfl rfl rfl rfl ?_
  refine o_1 (.b true) rfl ?_
  refine o_skip rfl rfl rfl rfl rfl rfl ?_
  refine o_skip rfl rfl rfl rfl rfl rfl ?_
  refine o_skip rfl rfl rfl rfl rfl rfl ?_
  refine o_skip rfl rfl rfl rfl rfl rfl ?_
  refine o_pk (.b true) (b := true) rfl (g0 rfl) rfl rfl rfl rfl rfl ?_
  refine o_nil ?_
  refine c_t rfl rfl ?_
  refine c_sr ?_
  refine o_m3 (.i 0) (.i 0) (.b false) rfl ?_
  refine o_nil (c_ret ?_)
  obtain rfl := Option.some.inj h
  exact ⟨⟨_, rfl, (.tup (.cons .r (.cons .r (.cons .r .nil))))⟩, trivial, rfl⟩
 refine o_s (.i x10.2) (gy rfl rfl rfl h16) rfl rfl rfl ?_
 refine o_s (.b (x10.2 != 0)) (gy rfl rfl rfl h16) rfl rfl rfl ?_
 refine o_pk (.b (x10.2 != 0)) (b := false) h16 (g0 rfl) rfl rfl rfl rfl rfl ?_
 refine o_1 (.b (x10.2 != 0)) rfl ?_
 rcases bif_some h with ⟨h17, h⟩ | ⟨h17, h⟩
 ·
  refine o_skip rfl rfl rfl h17 rfl rfl ?_
  refine o_skip rfl rfl rfl h17 rfl rfl ?_
  refine o_pk (.b true) (b := true) h17 (g0 rfl) rfl rfl rfl rfl rfl ?_
  refine o_1 (.b true) rfl ?_
  refine o_skip rfl rfl rfl rfl rfl rfl ?_
  refine o_skip rfl rfl rfl rfl rfl rfl ?_
  refine o_skip rfl rfl rfl rfl rfl rfl ?_
  refine o_pk (.b true) (b := true) rfl (g0 rfl) rfl rfl rfl rfl rfl ?_
  refine o_1 (.b true) rfl ?_
  refine o_skip rfl rfl rfl rfl rfl rfl ?_
  refine o_skip rfl rfl rfl rfl rfl rfl ?_
  refine o_pk (.b true) (b := true) rfl (g0 rfl) rfl rfl rfl rfl rfl ?_
  refine o_1 (.b true) rfl ?_
  refine o_skip rfl rfl rfl rfl rfl rfl ?_
  refine o_skip rfl rfl rfl rfl rfl rfl ?_
  refine o_pk (.b true) (b := true) rfl (g0 rfl) rfl rfl rfl rfl rfl ?_
  refine o_1 (.b true) rfl ?_
  refine o_skip rfl rfl rfl rfl rfl rfl ?_
  refine o_skip rfl rfl rfl rfl rfl rfl ?_
  refine o_skip rfl rfl rfl rfl rfl rfl ?_
  refine o_skip rfl rfl rfl rfl rfl rfl ?_
  refine o_pk (.b true) (b := true) rfl (g0 rfl) rfl rfl rfl rfl rfl ?_
  refine o_1 (.b true) rfl ?_
  refine o_skip rfl rfl rfl rfl rfl rfl ?_
  refine o_skip rfl rfl rfl rfl rfl rfl ?_
  refine o_skip rfl rfl rfl rfl rfl rfl ?_
  refine o_skip rfl rfl rfl rfl rfl rfl ?_
  refine o_pk (.b true) (b := true) rfl (g0 rfl) rfl rfl rfl rfl rfl ?_
  refine o_nil ?_
  refine c_t rfl rfl ?_
  refine c_sr ?_
  refine o_m3 (.i 0) (.i 0) (.b false) rfl ?_
  refine o_nil (c_ret ?_)
  obtain rfl := Option.some.inj h
  exact ⟨⟨_, rfl, (.tup (.cons .r (.cons .r (.cons .r .nil))))⟩, trivial, rfl⟩
 refine o_s (.i x14.2) (gy rfl rfl rfl h17) rfl rfl rfl ?_
 refine o_s (.b (x14.2 != 0)) (gy rfl rfl rfl h17) rfl rfl rfl ?_
 refine o_pk (.b (x14.2 != 0)) (b := false) h17 (g0 rfl) rfl rfl rfl rfl rfl ?_
 refine o_1 (.b (x14.2 != 0)) rfl ?_
 rcases bif_some h with ⟨h18, h⟩ | ⟨h18, h⟩
 ·
  refine o_skip rfl rfl rfl h18 rfl rfl ?_
  refine o_skip rfl rfl rfl h18 rfl rfl ?_
  refine o_skip rfl rfl rfl h18 rfl rfl ?_
  refine o_pk (.b true) (b := true) h18 (g0 rfl) rfl rfl rfl rfl rfl ?_
  refine o_1 (.b true) rfl ?_
  refine o_skip rfl rfl rfl rfl rfl rfl ?_
  refine o_skip rfl rfl rfl rfl rfl rfl ?_
  refine o_pk (.b true) (b := true) rfl (g0 rfl) rfl rfl rfl rfl rfl ?_
  refine o_1 (.b true) rfl ?_
  refine o_skip rfl rfl rfl rfl rfl rfl ?_
  refine o_skip rfl rfl rfl rfl rfl rfl ?_
  refine o_pk (.b true) (b := true) rfl (g0 rfl) rfl rfl rfl rfl rfl ?_
  refine o_1 (.b true) rfl ?_
  refine o_skip rfl rfl rfl rfl rfl rfl ?_
  refine o_skip rfl rfl rfl rfl rfl rfl ?_
  refine o_skip rfl rfl rfl rfl rfl rfl ?_
  refine o_skip rfl rfl rfl rfl rfl rfl ?_
  refine o_pk (.b true) (b := true) rfl (g0 rfl) rfl rfl rfl rfl rfl ?_
  refine o_1 (.b true) rfl ?_
  refine o_skip rfl rfl rfl rfl rfl rfl ?_
  refine o_skip rfl rfl rfl rfl rfl rfl ?_
  refine o_skip rfl rfl rfl rfl rfl rfl ?_
  refine o_skip rfl rfl rfl rfl rfl rfl ?_
  refine o_pk (.b true) (b := true) rfl (g0 rfl) rfl rfl rfl rfl rfl ?_
  refine o_nil ?_
  refine c_t rfl rfl ?_
  refine c_sr ?_
  refine o_m3 (.i 0) (.i 0) (.b false) rfl ?_
  refine o_nil (c_ret ?_)
  obtain rfl := Option.some.inj h
  exact ⟨⟨_, rfl, (.tup (.cons .r (.cons .r (.cons .r .nil))))⟩, trivial, rfl⟩
 refine o_s (.i x6.1) (gy rfl rfl rfl h18) rfl rfl rfl ?_
 refine o_s (.i x10.1) (gy rfl rfl rfl h18) rfl rfl rfl ?_
 refine o_s (.b (x6.1 != x10.1)) (gy rfl rfl rfl h18) rfl rfl rfl ?_
 refine o_pk (.b (x6.1 != x10.1)) (b := false) h18 (g0 rfl) rfl rfl rfl rfl rfl ?_
 refine o_1 (.b (x6.1 != x10.1)) rfl ?_
 rcases bif_some h with ⟨h19, h⟩ | ⟨h19, h⟩
 ·
  refine o_skip rfl rfl rfl h19 rfl rfl ?_
  refine o_skip rfl rfl rfl h19 rfl rfl ?_
  refine o_pk (.b true) (b := true) h19 (g0 rfl) rfl rfl rfl rfl rfl ?_
  refine o_1 (.b true) rfl ?_
  refine o_skip rfl rfl rfl rfl rfl rfl ?_
  refine o_skip rfl rfl rfl rfl rfl rfl ?_
  refine o_pk (.b true) (b := true) rfl (g0 rfl) rfl rfl rfl rfl rfl ?_
  refine o_1 (.b true) rfl ?_
  refine o_skip rfl rfl rfl rfl rfl rfl ?_
  refine o_skip rfl rfl rfl rfl rfl rfl ?_
  refine o_skip rfl rfl rfl rfl rfl rfl ?_
  refine o_skip rfl rfl rfl rfl rfl rfl ?_
  refine o_pk (.b true) (b := true) rfl (g0 rfl) rfl rfl rfl rfl rfl ?_
  refine o_1 (.b true) rfl ?_
  refine o_skip rfl rfl rfl rfl rfl rfl ?_
  refine o_skip rfl rfl rfl rfl rfl rfl ?_
  refine o_skip rfl rfl rfl rfl rfl rfl ?_
  refine o_skip rfl rfl rfl rfl rfl rfl ?_
  refine o_pk (.b true) (b := true) rfl (g0 rfl) rfl rfl rfl rfl rfl ?_
  refine o_nil ?_
  refine c_t rfl rfl ?_
  refine c_sr ?_
  refine o_m3 (.i 0) (.i 0) (.b false) rfl ?_
  refine o_nil (c_ret ?_)
  obtain rfl := Option.some.inj h
  exact ⟨⟨_, rfl, (.tup (.cons .r (.cons .r (.cons .r .nil))))⟩, trivial, rfl⟩
 refine o_s (.i x6.1) (gy rfl rfl rfl h19) rfl rfl rfl ?_
 refine o_s (.b (decide (x6.1 < 1))) (gy rfl rfl rfl h19) rfl rfl rfl ?_
 refine o_pk (.b (decide (x6.1 < 1))) (b := false) h19 (g0 rfl) rfl rfl rfl rfl rfl ?_
 refine o_1 (.b (decide (x6.1 < 1))) rfl ?_
 rcases bif_some h with ⟨h20, h⟩ | ⟨h20, h⟩
 ·
  refine o_skip rfl rfl rfl h20 rfl rfl ?_
  refine o_skip rfl rfl rfl h20 rfl rfl ?_
  refine o_pk (.b true) (b := true) h20 (g0 rfl) rfl rfl rfl rfl rfl ?_
  refine o_1 (.b true) rfl ?_
  refine o_skip rfl rfl rfl rfl rfl rfl ?_
  refine o_skip rfl rfl rfl rfl rfl rfl ?_
  refine o_skip rfl rfl rfl rfl rfl rfl ?_
  refine o_skip rfl rfl rfl rfl rfl rfl ?_
  refine o_pk (.b true) (b := true) rfl (g0 rfl) rfl rfl rfl rfl rfl ?_
  refine o_1 (.b true) rfl ?_
  refine o_skip rfl rfl rfl rfl rfl rfl ?_
  refine o_skip rfl rfl rfl rfl rfl rfl ?_
  refine o_skip rfl rfl rfl rfl rfl rfl ?_
  refine o_skip rfl rfl rfl rfl rfl rfl ?_
  refine o_pk (.b true) (b := true) rfl (g0 rfl) rfl rfl rfl rfl rfl ?_
  refine o_nil ?_
  refine c_t rfl rfl ?_
  refine c_sr ?_
  refine o_m3 (.i 0) (.i 0) (.b false) rfl ?_
  refine o_nil (c_ret ?_)
  obtain rfl := Option.some.inj h
  exact ⟨⟨_, rfl, (.tup (.cons .r (.cons .r (.cons .r .nil))))⟩, trivial, rfl⟩
 refine o_s (.i x6.1) (gy rfl rfl rfl h20) rfl rfl rfl ?_
 refine o_s (.b (decide (x6.1 > 2305843009213693952))) (gy rfl rfl rfl h20) rfl rfl rfl ?_
 refine o_pk (.b (decide (x6.1 > 2305843009213693952))) (b := false) h20 (g0 rfl) rfl rfl rfl rfl rfl ?_
 refine o_1 (.b (decide (x6.1 > 2305843009213693952))) rfl ?_
 rcases bif_some h with ⟨h21, h⟩ | ⟨h21, h⟩
 ·
  refine o_skip rfl rfl rfl h21 rfl rfl ?_
  refine o_skip rfl rfl rfl h21 rfl rfl ?_
  refine o_skip rfl rfl rfl h21 rfl rfl ?_
  refine o_skip rfl rfl rfl h21 rfl rfl ?_
  refine o_pk (.b true) (b := true) h21 (g0 rfl) rfl rfl rfl rfl rfl ?_
  refine o_1 (.b true) rfl ?_
  refine o_skip rfl rfl rfl rfl rfl rfl ?_
  refine o_skip rfl rfl rfl rfl rfl rfl ?_
  refine o_skip rfl rfl rfl rfl rfl rfl ?_
  refine o_skip rfl rfl rfl rfl rfl rfl ?_
  refine o_pk (.b true) (b := true) rfl (g0 rfl) rfl rfl rfl rfl rfl ?_
  refine o_nil ?_
  refine c_t rfl rfl ?_
  refine c_sr ?_
  refine o_m3 (.i 0) (.i 0) (.b false) rfl ?_
  refine o_nil (c_ret ?_)
  obtain rfl := Option.some.inj h
  exact ⟨⟨_, rfl, (.tup (.cons .r (.cons .r (.cons .r .nil))))⟩, trivial, rfl⟩
 refine o_of (e := [(62, .t ((ptT 1 p0)))]) (gy rfl rfl rfl h21) (h_mv mR (.inl rfl) (cpO_pt rfl) rfl rfl) rfl ?_
 refine o_s (.i x14.1) (gy rfl rfl rfl h21) rfl rfl rfl ?_
 obtain ⟨x22, h23, h⟩ := bind_some h
 refine o_of (e := [(64, .b x22)]) (gy rfl rfl rfl h21) (h_callR mR rfl (σ := []) (fr := []) rfl rfl rfl rfl rfl rfl rfl (fch_wal_room _ _ w0 _ h23) (pure_hpA _) rfl rfl rfl rfl (.cons (argPt rfl) (.cons (.plain .r rfl) .nil)) rfl (.t (.flat rfl))) rfl ?_
 refine o_s (.b (!x22)) (gy rfl rfl rfl h21) rfl rfl rfl ?_
 refine o_pk (.b (!x22)) (b := false) h21 (g0 rfl) rfl rfl rfl rfl rfl ?_
 refine o_1 (.b (!x22)) rfl ?_
 rcases bif_some h with ⟨h24, h⟩ | ⟨h24, h⟩
 ·
  refine o_skip rfl rfl rfl h24 rfl rfl ?_
  refine o_skip rfl rfl rfl h24 rfl rfl ?_
  refine o_skip rfl rfl rfl h24 rfl rfl ?_
  refine o_skip rfl rfl rfl h24 rfl rfl ?_
  refine o_pk (.b true) (b := true) h24 (g0 rfl) rfl rfl rfl rfl rfl ?_
  refine o_nil ?_
  refine c_t rfl rfl ?_
  refine c_sr ?_
  refine o_m3 (.i 0) (.i 0) (.b false) rfl ?_
  refine o_nil (c_ret ?_)
  obtain rfl := Option.some.inj h
  exact ⟨⟨_, rfl, (.tup (.cons .r (.cons .r (.cons .r .nil))))⟩, trivial, rfl⟩
 refine o_s (.y x1.1) (gy rfl rfl rfl h24) rfl rfl rfl ?_
 obtain ⟨x25, h26, h⟩ := bind_some h
 refine o_c (gy rfl rfl rfl h24) rfl rfl rfl (cutE (c := cU8) h26) (cutC (c := cU8) h26) ?_
 obtain ⟨x27, h28, h⟩ := bind_some h
 refine o_ca (fc_wal_noughts _ _ h28) (gy rfl rfl rfl h24) rfl rfl rfl rfl rfl rfl rfl (.cons .r .nil) rfl rfl ?_
 refine o_s (.b (!x27)) (gy rfl rfl rfl h24) rfl rfl rfl ?_
 refine o_pk (.b (!x27)) (b := false) h24 (g0 rfl) rfl rfl rfl rfl rfl ?_
 refine o_nil ?_
 rcases bif_some h with ⟨h29, h⟩ | ⟨h29, h⟩
 ·
  refine c_t h29 rfl ?_
  refine c_sr ?_
  refine o_m3 (.i 0) (.i 0) (.b false) rfl ?_
  refine o_nil (c_ret ?_)
  obtain rfl := Option.some.inj h
  exact ⟨⟨_, rfl, (.tup (.cons .r (.cons .r (.cons .r .nil))))⟩, trivial, rfl⟩
 refine c_f h29 rfl ?_
 refine c_skip (c_sr ?_)
 refine o_m5 (.i x6.1) (.i x14.1) (.i x6.1) (.i x14.1) (.b true) rfl ?_
 refine o_nil (c_ret ?_)
 obtain rfl := Option.some.inj h
 exact ⟨⟨_, rfl, (.tup (.cons .r (.cons .r (.cons .r .nil))))⟩, trivial, rfl⟩
theorem fch_wal_Log_home (p0 : (Option Nat)) (p1 : Int) (w0 : Hp) (r : Int) (h : m_wal_Log_home p0 p1 w0 = some r) : FCH Try.prog 106 [.t ((ptT 3 p0)), .t (.d (.lit (.int .i64 p1)))] [] [] (hpA w0) (hpA w0) (.t (.d (.lit (.int .i64 r)))) := by
 refine fch_mk (rs := [.tmp 4]) (n := 12) [] Try.func106 rfl rfl (Nat.le_of_ble_eq_true rfl) rfl (pins := []) rfl (L := [(HK, .hp (hpA w0)), (0, .t ((ptT 3 p0))), (1, .i p1)]) rfl ?_
 refine c_sr ?_
 refine o_1 (.i 0) rfl ?_
 refine o_nil (c_sr ?_)
 refine o_of (e := [(5, .t ((ptT 3 p0)))]) (g0 rfl) (h_mv mR (.inl rfl) (cpO_pt rfl) rfl rfl) rfl ?_
 rcases ptM_some h with ⟨h1, h⟩ | ⟨i2, h1, h⟩
 ·
  exact none_ne h
 refine o_of (e := [(6, .t (.hpt (cd 3 i2) 0))]) (g0 rfl) (h_nc mR rfl (cpO_pt rfl) (ptT_some h1) rfl rfl) rfl ?_
 refine o_of (e := [(7, .t (.hpt (cd 3 i2) 1))]) (g0 rfl) (h_fd mR rfl rfl rfl rfl rfl rfl) rfl ?_
 obtain ⟨x3, h4, h⟩ := bind_some h
 refine o_of (e := [(8, .i x3.size_)]) (g0 rfl) (h_ld mR rfl rfl rfl rfl (gl_lg h4) rfl rfl rfl rfl) rfl ?_
 refine o_m4 (.i (wi (2 + x3.size_))) (.i p1) (.i (wi ((wi (2 + x3.size_)) + p1))) (.i (wi ((wi (2 + x3.size_)) + p1))) rfl ?_
 refine o_nil (c_ret ?_)
 obtain rfl := Option.some.inj h
 exact ⟨⟨_, rfl, .r⟩, trivial, rfl⟩
theorem fch_wal_Log_redo (p0 : (Option Nat)) (p1 : (List S_api_Write)) (w0 : Hp) (r : (Int × Hp)) (h : m_wal_Log_redo p0 p1 w0 = some r) : FCH Try.prog 66 [.t ((ptT 3 p0)), .t (.d (.seq 2 (List.map cS_api_Write p1)))] [] [] (hpA w0) (hpA r.2) (.t (.d (.lit (.int .i64 r.1)))) := by
 refine fch_mk (rs := [.tmp 4]) (n := 29) [] Try.func66 rfl rfl (Nat.le_of_ble_eq_true rfl) rfl (pins := []) rfl (L := [(HK, .hp (hpA w0)), (0, .t ((ptT 3 p0))), (1, .t (.d (.seq 2 (List.map cS_api_Write p1))))]) rfl ?_
 refine c_sr ?_
 refine o_1 (.i 0) rfl ?_
 refine o_nil (c_seq (c_sr ?_))
 refine o_1 (.t (.d (.seq 2 (List.map cS_api_Write p1)))) rfl ?_
 refine o_c (g0 rfl) rfl rfl rfl (lenE _ _) trivial ?_
 refine o_1 (.i 0) rfl ?_
 refine o_nil (c_block ?_)
 refine c_fuelH (fun (q : Int × Hp) => [(0, .t ((ptT 3 p0))), (8, .t (.d (.seq 2 (List.map cS_api_Write p1)))), (9, .i (p1.length : Int)), (10, .i q.1), (HK, .hp (hpA q.2))]) (fun nl1 => (fun (q : Int × Hp) => m_wal_Log_redo_l1 p1 p0 nl1 q.1 q.2 = some r)) (p1.length + 1) (0, w0) [] h rfl ⟨.inr ⟨_, rfl, pure_hpA _⟩, by (repeat (first | exact ObP.nil | refine ObP.cons (.inl rfl) ?_ | refine ObP.cons (.inr (fun _ => rfl)) ?_ | refine ObP.cons (.inr (ob_box (fl_noPt _ _))) ?_ | refine ObP.cons (.inr (ob_gb _ _)) ?_))⟩ ⟨.r, .r, .r, .r, .r, trivial⟩ rfl ?_
 rintro nl1 ⟨z1, z2⟩ h
 cases nl1 with
 | zero => exact none_ne h
 | succ nl1 =>
  refine c_sr ?_
  refine o_1 (.b (decide (z1 < (p1.length : Int)))) rfl ?_
  refine o_nil (c_seq ?_)
  rcases bif_some h with ⟨h3, h⟩ | ⟨h3, h⟩
  ·
   refine c_t h3 rfl ?_
   refine c_skip (c_seq (c_block (c_sr ?_)))
   obtain ⟨x4, h5, h⟩ := bind_some h
   refine o_c (g0 rfl) rfl rfl rfl (idxE h5) (idxC h5) ?_
   refine o_m2 (.t (.agg [.i x4.Home, .y x4.Data])) (.box [.i 0, .n]) rfl ?_
   refine o_st (.box [.i x4.Home, .y x4.Data]) (g0 rfl) rfl rfl rfl ?_
   refine o_nil (c_seq ?_)
   refine c_draw mixed (by kernel_rfl) ?_
   rcases ptM_some h with ⟨h6, h⟩ | ⟨i7, h6, h⟩
   ·
    refine d_h0 [] (e := [(14, .t (.d (.lit (.pointer none))))]) (ks := [14]) rfl (dg0 rfl) rfl rfl (fun S' hM hok => h_mv hM (.inl rfl) ((cpO_pt rfl).trans (pt_eq_none h6)) rfl (hok _ rfl rfl)) rfl ?_
    exact none_ne h
   refine d_h0 [] (e := [(14, .t (.hpt (cd 3 i7) 0))]) (ks := [14]) rfl (dg0 rfl) rfl rfl (fun S' hM hok => h_mv hM (.inl rfl) ((cpO_pt rfl).trans (pt_eq_some h6)) rfl (hok _ rfl rfl)) rfl ?_
   refine d_h0 [] (e := [(15, .t (.hpt (cd 3 i7) 0))]) (ks := [15]) rfl (dg0 rfl) rfl rfl (fun S' hM hok => h_nc hM rfl rfl rfl rfl (hok _ rfl rfl)) rfl ?_
   refine d_h0 [] (e := [(16, .t (.hpt (cd 3 i7) 0))]) (ks := [16]) rfl (dg0 rfl) rfl rfl (fun S' hM hok => h_fd hM rfl rfl rfl rfl rfl (hok _ rfl rfl)) rfl ?_
   obtain ⟨x8, h9, h⟩ := bind_some h
   refine d_h (e := [(17, .t ((ptT 1 x8.d_)))]) (ks := [17]) rfl (dg0 rfl) rfl rfl (fun S' hM hk hok => h_ld hM hk rfl rfl rfl (gl_lg h9) rfl (norH_pt _ _) rfl (hok _ rfl rfl)) rfl ?_
   refine d_h0 [] (e := [(18, .t (.hpt (cd 3 i7) 0))]) (ks := [18]) rfl (dg0 rfl) rfl rfl (fun S' hM hok => h_mv hM (.inl rfl) ((cpO_pt rfl).trans (pt_eq_some h6)) rfl (hok _ rfl rfl)) rfl ?_
   refine d_s (.ref 6 0) rfl (dg0 rfl) rfl rfl rfl rfl ?_
   refine d_s (.i x4.Home) rfl (dg0 rfl) rfl rfl rfl rfl ?_
   obtain ⟨x10, h11, h⟩ := bind_some h
   refine d_h (e := [(21, .i x10)]) (ks := [21]) rfl (dg0 rfl) rfl rfl (fun S' hM hk hok => h_callR hM hk (σ := []) (fr := []) rfl rfl rfl (hok _ rfl rfl) rfl rfl rfl (fch_wal_Log_home _ _ z2 _ h11) (pure_hpA _) rfl rfl rfl rfl (.cons (.hpt _ _) (.cons (.plain .r rfl) .nil)) rfl (.t (.flat rfl))) rfl ?_
   refine d_s (.ref 6 1) rfl (dg0 rfl) rfl rfl rfl rfl ?_
   refine d_s (.y x4.Data) rfl (dg0 rfl) rfl rfl rfl rfl ?_
   obtain ⟨x12, h13, h⟩ := bind_some h
   refine d_h (e := [(HK, .hp (hpA x12.2)), (24, .i x12.1)]) (ks := [HK, 24]) rfl (dg0 rfl) rfl rfl (fun S' hM hk hok => h_call hM hk (σ := []) (fr := []) rfl rfl rfl (hok _ rfl rfl) rfl rfl rfl (fch_disk_Disk_Write _ _ _ z2 _ h13) (pure_hpA _) (pure_hpA _) rfl rfl rfl rfl (.cons (argPt rfl) (.cons (.plain .r rfl) (.cons (.plain .r rfl) .nil))) rfl (.t (.flat rfl))) rfl ?_
   refine d_s (.i x12.1) rfl (dg0 rfl) rfl rfl rfl rfl ?_
   refine d_nil (by kernel_rfl) ?_
   refine c_sr ?_
   refine o_m2 (.i x12.1) (.b (x12.1 != 0)) rfl ?_
   refine o_nil ?_
   rcases bif_some h with ⟨h14, h⟩ | ⟨h14, h⟩
   ·
    refine c_t h14 rfl ?_
    refine c_sr ?_
    refine o_m2 (.i x12.1) (.i x12.1) rfl ?_
    refine o_nil (c_ret ?_)
    obtain rfl := Option.some.inj h
    exact ⟨⟨_, rfl, .r⟩, trivial, rfl⟩
   refine c_f h14 rfl ?_
   refine c_skip (c_region ?_)
   refine o_m2 (.i (wi (z1 + 1))) (.i (wi (z1 + 1))) rfl ?_
   refine o_nil ?_
   exact ⟨nl1, ((wi (z1 + 1)), x12.2), [], Nat.lt_succ_self nl1, h, rfl, ⟨.inr ⟨_, rfl, pure_hpA _⟩, by (repeat (first | exact ObP.nil | refine ObP.cons (.inl rfl) ?_ | refine ObP.cons (.inr (fun _ => rfl)) ?_ | refine ObP.cons (.inr (ob_box (fl_noPt _ _))) ?_ | refine ObP.cons (.inr (ob_gb _ _)) ?_))⟩, ⟨.r, .r, .r, .r, .r, trivial⟩, rfl⟩
  refine c_f h3 rfl ?_
  refine c_exit (c_sr ?_)
  refine o_1 (.i 0) rfl ?_
  refine o_nil (c_ret ?_)
  obtain rfl := Option.some.inj h
  exact ⟨⟨_, rfl, .r⟩, trivial, rfl⟩
theorem fch_wal_Log_Homes (p0 : (Option Nat)) (w0 : Hp) (r : Int) (h : m_wal_Log_Homes p0 w0 = some r) : FCH Try.prog 22 [.t ((ptT 3 p0))] [] [] (hpA w0) (hpA w0) (.t (.d (.lit (.int .i64 r)))) := by
 refine fch_mk (rs := [.tmp 2]) (n := 23) [] Try.func22 rfl rfl (Nat.le_of_ble_eq_true rfl) rfl (pins := []) rfl (L := [(HK, .hp (hpA w0)), (0, .t ((ptT 3 p0)))]) rfl ?_
 refine c_sr ?_
 refine o_1 (.i 0) rfl ?_
 refine o_nil (c_seq (c_sr ?_))
 refine o_of (e := [(3, .t ((ptT 3 p0)))]) (g0 rfl) (h_mv mR (.inl rfl) (cpO_pt rfl) rfl rfl) rfl ?_
 rcases ptM_some h with ⟨h1, h⟩ | ⟨i2, h1, h⟩
 ·
  refine o_of (e := [(4, .b true)]) (g0 rfl) (h_pn mR (ng := false) rfl rfl rfl (pn_none rfl h1) rfl rfl) rfl ?_
  refine o_1 (.b true) rfl ?_
  refine o_skip rfl rfl rfl rfl rfl rfl ?_
  refine o_skip rfl rfl rfl rfl rfl rfl ?_
  refine o_skip rfl rfl rfl rfl rfl rfl ?_
  refine o_skip rfl rfl rfl rfl rfl rfl ?_
  refine o_skip rfl rfl rfl rfl rfl rfl ?_
  refine o_pk (.b true) (b := true) rfl (g0 rfl) rfl rfl rfl rfl rfl ?_
  refine o_nil ?_
  refine c_t rfl rfl ?_
  refine c_sr ?_
  refine o_1 (.i 0) rfl ?_
  refine o_nil (c_ret ?_)
  obtain rfl := Option.some.inj h
  exact ⟨⟨_, rfl, .r⟩, trivial, rfl⟩
 refine o_of (e := [(4, .b false)]) (g0 rfl) (h_pn mR (ng := false) rfl rfl rfl (pn_some rfl h1) rfl rfl) rfl ?_
 refine o_1 (.b false) rfl ?_
 refine o_of (e := [(6, .t (.hpt (cd 3 i2) 0))]) (gy rfl rfl rfl rfl) (h_mv mR (.inl rfl) ((cpO_pt rfl).trans (pt_eq_some h1)) rfl rfl) rfl ?_
 refine o_of (e := [(7, .t (.hpt (cd 3 i2) 0))]) (gy rfl rfl rfl rfl) (h_nc mR rfl rfl rfl rfl rfl) rfl ?_
 refine o_of (e := [(8, .t (.hpt (cd 3 i2) 0))]) (gy rfl rfl rfl rfl) (h_fd mR rfl rfl rfl rfl rfl rfl) rfl ?_
 obtain ⟨x3, h4, h⟩ := bind_some h
 refine o_of (e := [(9, .t ((ptT 1 x3.d_)))]) (gy rfl rfl rfl rfl) (h_ld mR rfl rfl rfl rfl (gl_lg h4) rfl (norH_pt _ _) rfl rfl) rfl ?_
 rcases ptM_some h with ⟨h5, h⟩ | ⟨i6, h5, h⟩
 ·
  refine o_of (e := [(10, .b true)]) (gy rfl rfl rfl rfl) (h_pn mR (ng := false) rfl rfl rfl (pn_none rfl h5) rfl rfl) rfl ?_
  refine o_pk (.b true) (b := false) rfl (g0 rfl) rfl rfl rfl rfl rfl ?_
  refine o_nil ?_
  refine c_t rfl rfl ?_
  refine c_sr ?_
  refine o_1 (.i 0) rfl ?_
  refine o_nil (c_ret ?_)
  obtain rfl := Option.some.inj h
  exact ⟨⟨_, rfl, .r⟩, trivial, rfl⟩
 refine o_of (e := [(10, .b false)]) (gy rfl rfl rfl rfl) (h_pn mR (ng := false) rfl rfl rfl (pn_some rfl h5) rfl rfl) rfl ?_
 refine o_pk (.b false) (b := false) rfl (g0 rfl) rfl rfl rfl rfl rfl ?_
 refine o_nil ?_
 refine c_f rfl rfl ?_
 refine c_skip (c_seq ?_)
 refine c_draw mixed (by kernel_rfl) ?_
 refine d_h0 [] (e := [(12, .t (.hpt (cd 3 i2) 0))]) (ks := [12]) rfl (dg0 rfl) rfl rfl (fun S' hM hok => h_mv hM (.inl rfl) ((cpO_pt rfl).trans (pt_eq_some h1)) rfl (hok _ rfl rfl)) rfl ?_
 refine d_h0 [] (e := [(13, .t (.hpt (cd 3 i2) 0))]) (ks := [13]) rfl (dg0 rfl) rfl rfl (fun S' hM hok => h_nc hM rfl rfl rfl rfl (hok _ rfl rfl)) rfl ?_
 refine d_h0 [] (e := [(14, .t (.hpt (cd 3 i2) 0))]) (ks := [14]) rfl (dg0 rfl) rfl rfl (fun S' hM hok => h_fd hM rfl rfl rfl rfl rfl (hok _ rfl rfl)) rfl ?_
 refine d_h (e := [(15, .t ((ptT 1 x3.d_)))]) (ks := [15]) rfl (dg0 rfl) rfl rfl (fun S' hM hk hok => h_ld hM hk rfl rfl rfl (gl_lg h4) rfl (norH_pt _ _) rfl (hok _ rfl rfl)) rfl ?_
 obtain ⟨x7, h8, h⟩ := bind_some h
 refine d_h (e := [(16, .i x7)]) (ks := [16]) rfl (dg0 rfl) rfl rfl (fun S' hM hk hok => h_callR hM hk (σ := []) (fr := []) rfl rfl rfl (hok _ rfl rfl) rfl rfl rfl (fch_disk_Disk_Size _ w0 _ h8) (pure_hpA _) rfl rfl rfl rfl (.cons (argPt rfl) .nil) rfl (.t (.flat rfl))) rfl ?_
 refine d_s (.i (wi (x7 - 2))) rfl (dg0 rfl) rfl rfl rfl rfl ?_
 refine d_h0 [] (e := [(18, .t (.hpt (cd 3 i2) 0))]) (ks := [18]) rfl (dg0 rfl) rfl rfl (fun S' hM hok => h_mv hM (.inl rfl) ((cpO_pt rfl).trans (pt_eq_some h1)) rfl (hok _ rfl rfl)) rfl ?_
 refine d_h0 [] (e := [(19, .t (.hpt (cd 3 i2) 0))]) (ks := [19]) rfl (dg0 rfl) rfl rfl (fun S' hM hok => h_nc hM rfl rfl rfl rfl (hok _ rfl rfl)) rfl ?_
 refine d_h0 [] (e := [(20, .t (.hpt (cd 3 i2) 1))]) (ks := [20]) rfl (dg0 rfl) rfl rfl (fun S' hM hok => h_fd hM rfl rfl rfl rfl rfl (hok _ rfl rfl)) rfl ?_
 refine d_h (e := [(21, .i x3.size_)]) (ks := [21]) rfl (dg0 rfl) rfl rfl (fun S' hM hk hok => h_ld hM hk rfl rfl rfl (gl_lg h4) rfl rfl rfl (hok _ rfl rfl)) rfl ?_
 refine d_s (.i (wi ((wi (x7 - 2)) - x3.size_))) rfl (dg0 rfl) rfl rfl rfl rfl ?_
 refine d_s (.i (wi ((wi (x7 - 2)) - x3.size_))) rfl (dg0 rfl) rfl rfl rfl rfl ?_
 refine d_nil (by kernel_rfl) ?_
 refine c_ret ?_
 obtain rfl := Option.some.inj h
 exact ⟨⟨_, rfl, .r⟩, trivial, rfl⟩
theorem fc_wal_Sum (p0 : (List (List UInt8))) (r : Int) (h : m_wal_Sum p0 = some r) : FC Try.prog 112 [.t (.d (.seq 1 (List.map (cSl 1 cU8) p0)))] [] (.t (.d (.lit (.int .u32 r)))) := by
 refine fc_mk (rs := [.tmp 2]) (n := 39) Try.func112 rfl rfl (Nat.le_of_ble_eq_true rfl) rfl (pins := []) rfl (L := [(0, .t (.d (.seq 1 (List.map (cSl 1 cU8) p0))))]) rfl ?_
 refine c_sr ?_
 refine o_1 (.t (.d (.lit (.int .u32 0)))) rfl ?_
 refine o_nil (c_sr ?_)
 refine o_1 (.t (.d (.lit (.int .u32 4294967295)))) rfl ?_
 refine o_nil ?_
 refine c_cut (fun (y1 : Int) => [(3, .t (.d (.lit (.int .u32 y1))))]) (fun (y1 : Int) => m_wal_Sum_j1 y1 = some r) ?_ ?_
 ·
  refine c_sr ?_
  refine o_1 (.t (.d (.seq 1 (List.map (cSl 1 cU8) p0)))) rfl ?_
  refine o_c (g0 rfl) rfl rfl rfl (lenE _ _) trivial ?_
  refine o_1 (.i 0) rfl ?_
  refine o_nil (c_block ?_)
  refine c_fuel (fun (q : Int × Int) => [(3, .t (.d (.lit (.int .u32 q.1)))), (8, .t (.d (.seq 1 (List.map (cSl 1 cU8) p0)))), (9, .i (p0.length : Int)), (10, .i q.2)]) (fun nl2 => (fun (q : Int × Int) => m_wal_Sum_l2 p0 nl2 q.1 q.2 = some r)) (p0.length + 1) (4294967295, 0) h ⟨.r, .r, .r, .r, trivial⟩ rfl ?_
  rintro nl2 ⟨z2, z3⟩ h
  cases nl2 with
  | zero => exact none_ne h
  | succ nl2 =>
   refine c_sr ?_
   refine o_1 (.b (decide (z3 < (p0.length : Int)))) rfl ?_
   refine o_nil (c_seq ?_)
   rcases bif_some h with ⟨h4, h⟩ | ⟨h4, h⟩
   ·
    refine c_t h4 rfl ?_
    refine c_skip (c_seq (c_block (c_sr ?_)))
    obtain ⟨x5, h6, h⟩ := bind_some h
    refine o_c (g0 rfl) rfl rfl rfl (idxE h6) (idxC h6) ?_
    refine o_m2 (.y x5) (.y x5) rfl ?_
    refine o_nil (c_sr ?_)
    refine o_1 (.y x5) rfl ?_
    refine o_c (g0 rfl) rfl rfl rfl (lenE _ _) trivial ?_
    refine o_1 (.i 0) rfl ?_
    refine o_nil (c_block ?_)
    refine c_fuel (fun (q : Int × Int) => [(3, .t (.d (.lit (.int .u32 q.1)))), (8, .t (.d (.seq 1 (List.map (cSl 1 cU8) p0)))), (9, .i (p0.length : Int)), (10, .i z3), (14, .y x5), (15, .i (x5.length : Int)), (16, .i q.2)]) (fun nl3 => (fun (q : Int × Int) => m_wal_Sum_l3 (m_wal_Sum_l2 p0 nl2) x5 z3 nl3 q.1 q.2 = some r)) (x5.length + 1) (z2, 0) h ⟨.r, .r, .r, .r, .r, .r, .r, trivial⟩ rfl ?_
    rintro nl3 ⟨z7, z8⟩ h
    cases nl3 with
    | zero => exact none_ne h
    | succ nl3 =>
     refine c_sr ?_
     refine o_1 (.b (decide (z8 < (x5.length : Int)))) rfl ?_
     refine o_nil (c_seq ?_)
     rcases bif_some h with ⟨h9, h⟩ | ⟨h9, h⟩
     ·
      refine c_t h9 rfl ?_
      refine c_skip (c_seq (c_block (c_sr ?_)))
      obtain ⟨x10, h11, h⟩ := bind_some h
      refine o_c (g0 rfl) rfl rfl rfl (idxE h11) (idxC h11) ?_
      refine o_m2 (.t (.d (.lit (.int .u8 (x10.toNat : Int))))) (.t (.d (.lit (.int .u8 (x10.toNat : Int))))) rfl ?_
      refine o_nil (c_sr ?_)
      refine o_m2 (.t (.d (.lit (.int .u32 z7)))) (.t (.d (.lit (.int .u8 (x10.toNat : Int))))) rfl ?_
      refine o_c (g0 rfl) rfl rfl rfl (congrArg (fun z => A.t (.d (.lit (.int .u32 z)))) (u32_u8 _)) trivial ?_
      refine o_m2 (.t (.d (.lit (.int .u32 (IntKind.u32.wrap ((((BitVec.ofInt IntKind.u32.bits z7) ^^^ (BitVec.ofInt IntKind.u32.bits (x10.toNat : Int))).toNat : Nat) : Int)))))) (.t (.d (.lit (.int .u32 (IntKind.u32.wrap ((((BitVec.ofInt IntKind.u32.bits z7) ^^^ (BitVec.ofInt IntKind.u32.bits (x10.toNat : Int))).toNat : Nat) : Int)))))) rfl ?_
      refine o_nil (c_sr ?_)
      refine o_1 (.i 0) rfl ?_
      refine o_nil (c_block ?_)
      refine c_fuel (fun (q : Int × Int) => [(3, .t (.d (.lit (.int .u32 q.1)))), (8, .t (.d (.seq 1 (List.map (cSl 1 cU8) p0)))), (9, .i (p0.length : Int)), (10, .i z3), (14, .y x5), (15, .i (x5.length : Int)), (16, .i z8), (24, .i q.2)]) (fun nl4 => (fun (q : Int × Int) => m_wal_Sum_l4 (m_wal_Sum_l3 (m_wal_Sum_l2 p0 nl2) x5 z3 nl3) z8 nl4 q.1 q.2 = some r)) (Int.toNat 8 + 1) ((IntKind.u32.wrap ((((BitVec.ofInt IntKind.u32.bits z7) ^^^ (BitVec.ofInt IntKind.u32.bits (x10.toNat : Int))).toNat : Nat) : Int)), 0) h ⟨.r, .r, .r, .r, .r, .r, .r, .r, trivial⟩ rfl ?_
      rintro nl4 ⟨z12, z13⟩ h
      cases nl4 with
      | zero => exact none_ne h
      | succ nl4 =>
       refine c_sr ?_
       refine o_1 (.b (decide (z13 < 8))) rfl ?_
       refine o_nil (c_seq ?_)
       rcases bif_some h with ⟨h14, h⟩ | ⟨h14, h⟩
       ·
        refine c_t h14 rfl ?_
        refine c_skip (c_seq (c_block (c_sr ?_)))
        refine o_m3 (.t (.d (.lit (.int .u32 z12)))) (.t (.d (.lit (.int .u32 (IntKind.u32.wrap ((((BitVec.ofInt IntKind.u32.bits z12) &&& (BitVec.ofInt IntKind.u32.bits 1)).toNat : Nat) : Int)))))) (.b ((IntKind.u32.wrap ((((BitVec.ofInt IntKind.u32.bits z12) &&& (BitVec.ofInt IntKind.u32.bits 1)).toNat : Nat) : Int)) == 1)) rfl ?_
        refine o_nil ?_
        rcases bif_some h with ⟨h15, h⟩ | ⟨h15, h⟩
        ·
         refine c_t h15 rfl ?_
         refine c_region ?_
         refine o_m4 (.t (.d (.lit (.int .u32 z12)))) (.t (.d (.lit (.int .u32 (Int.fdiv z12 (2 ^ 1)))))) (.t (.d (.lit (.int .u32 (IntKind.u32.wrap ((((BitVec.ofInt IntKind.u32.bits (Int.fdiv z12 (2 ^ 1))) ^^^ (BitVec.ofInt IntKind.u32.bits 3988292384)).toNat : Nat) : Int)))))) (.t (.d (.lit (.int .u32 (IntKind.u32.wrap ((((BitVec.ofInt IntKind.u32.bits (Int.fdiv z12 (2 ^ 1))) ^^^ (BitVec.ofInt IntKind.u32.bits 3988292384)).toNat : Nat) : Int)))))) rfl ?_
         refine o_nil (c_region ?_)
         refine o_m2 (.i (wi (z13 + 1))) (.i (wi (z13 + 1))) rfl ?_
         refine o_nil ?_
         exact ⟨nl4, ((IntKind.u32.wrap ((((BitVec.ofInt IntKind.u32.bits (Int.fdiv z12 (2 ^ 1))) ^^^ (BitVec.ofInt IntKind.u32.bits 3988292384)).toNat : Nat) : Int)), (wi (z13 + 1))), Nat.lt_succ_self nl4, h, ⟨.r, .r, .r, .r, .r, .r, .r, .r, trivial⟩, rfl⟩
        refine c_f h15 rfl ?_
        refine c_region ?_
        refine o_m3 (.t (.d (.lit (.int .u32 z12)))) (.t (.d (.lit (.int .u32 (Int.fdiv z12 (2 ^ 1)))))) (.t (.d (.lit (.int .u32 (Int.fdiv z12 (2 ^ 1)))))) rfl ?_
        refine o_nil (c_region ?_)
        refine o_m2 (.i (wi (z13 + 1))) (.i (wi (z13 + 1))) rfl ?_
        refine o_nil ?_
        exact ⟨nl4, ((Int.fdiv z12 (2 ^ 1)), (wi (z13 + 1))), Nat.lt_succ_self nl4, h, ⟨.r, .r, .r, .r, .r, .r, .r, .r, trivial⟩, rfl⟩
       refine c_f h14 rfl ?_
       refine c_exit (c_region ?_)
       refine o_m2 (.i (wi (z8 + 1))) (.i (wi (z8 + 1))) rfl ?_
       refine o_nil ?_
       exact ⟨nl3, (z12, (wi (z8 + 1))), Nat.lt_succ_self nl3, h, ⟨.r, .r, .r, .r, .r, .r, .r, trivial⟩, rfl⟩
     refine c_f h9 rfl ?_
     refine c_exit (c_region ?_)
     refine o_m2 (.i (wi (z3 + 1))) (.i (wi (z3 + 1))) rfl ?_
     refine o_nil ?_
     exact ⟨nl2, (z7, (wi (z3 + 1))), Nat.lt_succ_self nl2, h, ⟨.r, .r, .r, .r, trivial⟩, rfl⟩
   refine c_f h4 rfl ?_
   refine c_exit ?_
   exact ⟨z2, h, ⟨.r, trivial⟩, rfl⟩
 rintro y1 h
 refine c_sr ?_
 refine o_m3 (.t (.d (.lit (.int .u32 y1)))) (.t (.d (.lit (.int .u32 (IntKind.u32.wrap ((((BitVec.ofInt IntKind.u32.bits 4294967295) ^^^ (BitVec.ofInt IntKind.u32.bits y1)).toNat : Nat) : Int)))))) (.t (.d (.lit (.int .u32 (IntKind.u32.wrap ((((BitVec.ofInt IntKind.u32.bits 4294967295) ^^^ (BitVec.ofInt IntKind.u32.bits y1)).toNat : Nat) : Int)))))) rfl ?_
 refine o_nil (c_ret ?_)
 obtain rfl := Option.some.inj h
 exact end0 rfl .r
theorem fch_wal_entry_bytes (p0 : S_wal_entry) (p1 : Int) (w0 : Hp) (r : (List UInt8)) (h : m_wal_entry_bytes p0 p1 = some r) : FCH Try.prog 71 [.t (.agg [.lit (.int .i64 p0.kind_), .lit (.int .i64 p0.number_), .seq 1 (bytesD p0.data_), .lit (.bool p0.ok_)]), .t (.d (.lit (.int .i64 p1)))] [] [] (hpA w0) (hpA w0) (.t (.d (.seq 1 (bytesD r)))) := by
 refine fch_mk (rs := [.tmp 4]) (n := 37) [0] Try.func71 rfl rfl (Nat.le_of_ble_eq_true rfl) rfl (pins := []) rfl (L := [(HK, .hp (hpA w0)), (OB + 0, .free), (0, .t (.agg [.i p0.kind_, .i p0.number_, .y p0.data_, .b p0.ok_])), (1, .i p1)]) rfl ?_
 refine c_sr ?_
 refine o_m2 (.box [.i p0.kind_, .i p0.number_, .y p0.data_, .b p0.ok_]) (.n) rfl ?_
 refine o_nil (c_sr ?_)
 obtain ⟨x1, h2, h⟩ := bind_some h
 refine o_of (e := [((OB + 0), .box (fl (dT cU8) (List.replicate x1 (0 : UInt8)))), (6, .t (.view 0 0 5 1 x1))]) (g0 rfl) (h_mkl mR rfl rfl rfl rfl rfl rfl rfl (by kernel_rfl) rfl h2 (fl_rep (c := cU8) (z := (0 : UInt8)) (by kernel_rfl) x1) rfl rfl rfl rfl) rfl ?_
 refine o_1 (.t (.view 0 0 5 1 x1)) rfl ?_
 refine o_nil (c_sr ?_)
 refine o_m3 (.t (.view 0 0 5 1 x1)) (.ref 2 0) (.i p0.kind_) rfl ?_
 refine o_c (g0 rfl) rfl rfl rfl (congrArg (fun z => A.t (.d (.lit (.int .u8 z)))) (u8c _)) trivial ?_
 obtain ⟨x3, h4, h⟩ := bind_some h
 refine o_of (e := [(11, .ref (OB + 0) (0 + Int.toNat 0 * 1))]) (g0 rfl) (h_lix mR rfl rfl rfl rfl rfl (idxV (by first | rfl | omega | (simp; done) | (dsimp only; omega) | (simp; omega)) h4) rfl rfl rfl) rfl ?_
 refine o_of (e := [((OB + 0), .box (fl (dT cU8) ((List.replicate x1 (0 : UInt8)).set (Int.toNat 0) (U8 p0.kind_))))]) (g0 rfl) (h_lst mR rfl rfl rfl rfl rfl rfl rfl (fl_room h4 (fun _ => rfl)) (fl_put h4 (U8 p0.kind_) (fun _ => rfl) rfl)) rfl ?_
 refine o_nil (c_seq ?_)
 refine c_draw mixed (by kernel_rfl) ?_
 refine d_s (.t (.view 0 0 5 1 x1)) rfl (dg0 rfl) rfl rfl rfl rfl ?_
 obtain ⟨x5, h6, h⟩ := bind_some h
 refine d_h0 [] (e := [(13, .t (.view 0 (0 + Int.toNat 1 * 1) 5 1 (Int.toNat 5 - Int.toNat 1)))]) (ks := [13]) rfl (dg0 rfl) rfl rfl (fun S' hM hok => h_lsl hM rfl rfl rfl rfl rfl rfl rfl (vcut_iff h6) rfl rfl rfl (hok _ rfl rfl)) rfl ?_
 refine d_s (.ref 2 1) rfl (dg0 rfl) rfl rfl rfl rfl ?_
 refine d_s (.i p0.number_) rfl (dg0 rfl) rfl rfl rfl rfl ?_
 obtain ⟨x7, h8, h⟩ := bind_some h
 refine d_hm [OB + 0] (e := [((OB + 0), .box (fl (dT cU8) x7)), (16, .tup [])]) (ks := [(OB + 0), 16]) rfl (dg0 rfl) rfl rfl (fun S' hM hk hS hok => h_callR hM hk (σ := [0]) (fr := []) rfl rfl rfl (hok _ rfl rfl) rfl rfl rfl (fch_wal_put_v0 _ _ _ _ w0 _ h8) (pure_hpA _) rfl (by simp [A.flatO, fl_noPt]) (by simp [A.flatO, fl_noPt]) (cons_eq (hS (OB + 0) rfl) (rfl)) (.cons (argVw0 rfl rfl) (.cons (.plain .r rfl) .nil)) rfl (.tup .nil)) rfl ?_
 obtain ⟨x9, h10, h⟩ := bind_some h
 have h10 : x7.length = ((List.replicate x1 (0 : UInt8)).set (Int.toNat 0) (U8 p0.kind_)).length := lenI_eq h10; simp only [List.length_set, List.length_replicate] at h10
 refine d_nil (by kernel_rfl) ?_
 refine c_seq ?_
 refine c_draw mixed (by kernel_rfl) ?_
 refine d_s (.t (.view 0 0 5 1 x1)) rfl (dg0 rfl) rfl rfl rfl rfl ?_
 obtain ⟨x11, h12, h⟩ := bind_some h
 refine d_h0 [] (e := [(18, .t (.view 0 (0 + Int.toNat 5 * 1) 5 1 (Int.toNat 37 - Int.toNat 5)))]) (ks := [18]) rfl (dg0 rfl) rfl rfl (fun S' hM hok => h_lsl hM rfl rfl rfl rfl rfl rfl rfl (vcut_iff h12) rfl rfl rfl (hok _ rfl rfl)) rfl ?_
 refine d_s (.ref 2 2) rfl (dg0 rfl) rfl rfl rfl rfl ?_
 refine d_s (.y p0.data_) rfl (dg0 rfl) rfl rfl rfl rfl ?_
 obtain ⟨x13, h14, h⟩ := bind_some h
 refine d_h0 [OB + 0] (e := [((OB + 0), .box (fl (dT cU8) x13)), (21, .i ((min p0.data_.length (Int.toNat 37 - Int.toNat 5) : Nat) : Int))]) (ks := [(OB + 0), 21]) rfl (dg0 rfl) rfl rfl (fun S' hM hok => h_cpy (cc := cU8) (yl := p0.data_) hM rfl rfl rfl rfl rfl rfl (fun _ => rfl) rfl h14 rfl rfl (hok _ rfl rfl)) rfl ?_
 obtain ⟨x15, h16, h⟩ := bind_some h
 have h16 : x13.length = x7.length := lenI_eq h16
 refine d_nil (by kernel_rfl) ?_
 refine c_sr ?_
 refine o_1 (.t (.view 0 0 5 1 x1)) rfl ?_
 obtain ⟨x17, h18, h⟩ := bind_some h
 refine o_of (e := [(23, .t (.view 0 (0 + Int.toNat 56 * 1) 5 1 (Int.toNat (x1 : Int) - Int.toNat 56)))]) (g0 rfl) (h_lsl mR rfl rfl rfl rfl rfl rfl rfl (vcut_iff h18) rfl rfl rfl rfl) rfl ?_
 refine o_1 (.i p1) rfl ?_
 obtain ⟨x19, h20, h⟩ := bind_some h
 refine o_of (e := [((OB + 0), .box (fl (dT cU8) x19)), (25, .tup [])]) (g0 rfl) (h_callR mR rfl (σ := [0]) (fr := []) rfl rfl rfl rfl rfl rfl rfl (fch_wal_put_v0 _ _ _ _ w0 _ h20) (pure_hpA _) rfl (by simp [A.flatO, fl_noPt]) (by simp [A.flatO, fl_noPt]) rfl (.cons (argVw0 rfl rfl) (.cons (.plain .r rfl) .nil)) rfl (.tup .nil)) rfl ?_
 obtain ⟨x21, h22, h⟩ := bind_some h
 have h22 : x19.length = x13.length := lenI_eq h22
 refine o_nil (c_seq ?_)
 refine c_draw mixed (by kernel_rfl) ?_
 refine d_s (.t (.view 0 0 5 1 x1)) rfl (dg0 rfl) rfl rfl rfl rfl ?_
 obtain ⟨x23, h24, h⟩ := bind_some h
 refine d_h0 [] (e := [(27, .t (.view 0 (0 + Int.toNat 52 * 1) 5 1 (Int.toNat 56 - Int.toNat 52)))]) (ks := [27]) rfl (dg0 rfl) rfl rfl (fun S' hM hok => h_lsl hM rfl rfl rfl rfl rfl rfl rfl (vcut_iff h24) rfl rfl rfl (hok _ rfl rfl)) rfl ?_
 refine d_s (.t (.view 0 0 5 1 x1)) rfl (dg0 rfl) rfl rfl rfl rfl ?_
 obtain ⟨x25, h26, h⟩ := bind_some h
 refine d_h0 [] (e := [(29, .t (.view 0 (0 + Int.toNat 0 * 1) 5 1 (Int.toNat 52 - Int.toNat 0)))]) (ks := [29]) rfl (dg0 rfl) rfl rfl (fun S' hM hok => h_lsl hM rfl rfl rfl rfl rfl rfl rfl (vcut_iff h26) rfl rfl rfl (hok _ rfl rfl)) rfl ?_
 refine d_s (.t (.view 0 0 5 1 x1)) rfl (dg0 rfl) rfl rfl rfl rfl ?_
 obtain ⟨x27, h28, h⟩ := bind_some h
 refine d_h0 [] (e := [(31, .t (.view 0 (0 + Int.toNat 56 * 1) 5 1 (Int.toNat (x1 : Int) - Int.toNat 56)))]) (ks := [31]) rfl (dg0 rfl) rfl rfl (fun S' hM hok => h_lsl hM rfl rfl rfl rfl rfl rfl rfl (vcut_iff h28) rfl rfl rfl (hok _ rfl rfl)) rfl ?_
 refine d_h0 [] (e := [(32, .lst [.view 0 (0 + Int.toNat 0 * 1) 5 1 (Int.toNat 52 - Int.toNat 0), .view 0 (0 + Int.toNat 56 * 1) 5 1 (Int.toNat (x1 : Int) - Int.toNat 56)])]) (ks := [32]) rfl (dg0 rfl) rfl rfl (fun S' hM hok => h_bsv (parts := [(0, .tmp 29), (1, .tmp 31)]) hM rfl rfl rfl (hok _ rfl rfl) rfl rfl rfl) rfl ?_
 obtain ⟨x29, h30, h⟩ := bind_some h
 obtain ⟨x31, h32, h⟩ := bind_some h
 obtain ⟨x33, h34, h⟩ := bind_some h
 refine d_hm [OB + 0, OB + 0] (e := [(33, .t (.d (.lit (.int .u32 x33))))]) (ks := [33]) rfl (dg0 rfl) rfl rfl (fun S' hM hk hS hok => h_look hM hk rfl rfl rfl (hok _ rfl rfl) rfl rfl rfl (fc_wal_Sum _ _ h34) (.cons (.lst (.cons (.vw (l := fl (dT cU8) x19) (rs := List.map cU8 x29) (.inl rfl) (map_row (c := cU8) (fun _ => rfl) _) (piece_len h30) (piece_cells (c := cU8) (fun _ => rfl) h30)) (.cons (.vw (l := fl (dT cU8) x19) (rs := List.map cU8 x31) (.inl rfl) (map_row (c := cU8) (fun _ => rfl) _) (piece_len h32) (piece_cells (c := cU8) (fun _ => rfl) h32)) .nil))) .nil) rfl) rfl ?_
 refine d_s (.i (wi x33)) rfl (dg0 rfl) rfl rfl rfl rfl ?_
 obtain ⟨x35, h36, h⟩ := bind_some h
 refine d_hm [OB + 0] (e := [((OB + 0), .box (fl (dT cU8) x35)), (35, .tup [])]) (ks := [(OB + 0), 35]) rfl (dg0 rfl) rfl rfl (fun S' hM hk hS hok => h_callR hM hk (σ := [0]) (fr := []) rfl rfl rfl (hok _ rfl rfl) rfl rfl rfl (fch_wal_put_v0 _ _ _ _ w0 _ h36) (pure_hpA _) rfl (by simp [A.flatO, fl_noPt]) (by simp [A.flatO, fl_noPt]) (cons_eq (hS (OB + 0) rfl) (rfl)) (.cons (argVw0 rfl rfl) (.cons (.plain .r rfl) .nil)) rfl (.tup .nil)) rfl ?_
 obtain ⟨x37, h38, h⟩ := bind_some h
 have h38 : x35.length = x19.length := lenI_eq h38
 refine d_nil (by kernel_rfl) ?_
 refine c_sr ?_
 refine o_m2 (.t (.view 0 0 5 1 x1)) (.t (.view 0 0 5 1 x1)) rfl ?_
 refine o_nil ?_
 refine c_frz 4 0 rfl rfl (by first | (simp; done) | (rw [List.length_map]; omega)) (fl_flat _ _) (map_row (c := cU8) (fun _ => rfl) _) rfl ⟨.inr ⟨_, rfl, pure_hpA _⟩, by (repeat (first | exact ObP.nil | refine ObP.cons (.inl rfl) ?_ | refine ObP.cons (.inr (fun _ => rfl)) ?_ | refine ObP.cons (.inr (ob_box (fl_noPt _ _))) ?_ | refine ObP.cons (.inr (ob_gb _ _)) ?_))⟩ rfl ?_
 refine c_ret ?_
 obtain rfl := Option.some.inj h
 exact ⟨⟨_, rfl, .r⟩, trivial, rfl⟩
theorem fc_slices_Equal_byte (p0 : (List UInt8)) (p1 : (List UInt8)) (r : Bool) (h : m_slices_Equal_byte p0 p1 = some r) : FC Try.prog 134 [.t (.d (.seq 1 (bytesD p0))), .t (.d (.seq 1 (bytesD p1)))] [] (.t (.d (.lit (.bool r)))) := by
 refine fc_mk (rs := [.tmp 4]) (n := 26) Try.func134 rfl rfl (Nat.le_of_ble_eq_true rfl) rfl (pins := []) rfl (L := [(0, .y p0), (1, .y p1)]) rfl ?_
 refine c_sr ?_
 refine o_1 (.b false) rfl ?_
 refine o_nil (c_seq (c_sr ?_))
 refine o_1 (.y p0) rfl ?_
 refine o_c (g0 rfl) rfl rfl rfl (lenE _ _) trivial ?_
 refine o_1 (.y p1) rfl ?_
 refine o_c (g0 rfl) rfl rfl rfl (lenE _ _) trivial ?_
 refine o_1 (.b ((p0.length : Int) != (p1.length : Int))) rfl ?_
 refine o_nil ?_
 rcases bif_some h with ⟨h1, h⟩ | ⟨h1, h⟩
 ·
  refine c_t h1 rfl ?_
  refine c_sr ?_
  refine o_1 (.b false) rfl ?_
  refine o_nil (c_ret ?_)
  obtain rfl := Option.some.inj h
  exact end0 rfl .r
 refine c_f h1 rfl ?_
 refine c_skip (c_seq (c_sr ?_))
 refine o_1 (.y p0) rfl ?_
 refine o_c (g0 rfl) rfl rfl rfl (lenE _ _) trivial ?_
 refine o_1 (.i 0) rfl ?_
 refine o_nil (c_block ?_)
 refine c_fuel (fun (z2 : Int) => [(0, .y p0), (1, .y p1), (12, .i (p0.length : Int)), (13, .i z2)]) (fun nl1 => (fun (z2 : Int) => m_slices_Equal_byte_l1 p0 p1 nl1 z2 = some r)) (p0.length + 1) 0 h ⟨.r, .r, .r, .r, trivial⟩ rfl ?_
 rintro nl1 z2 h
 cases nl1 with
 | zero => exact none_ne h
 | succ nl1 =>
  refine c_sr ?_
  refine o_1 (.b (decide (z2 < (p0.length : Int)))) rfl ?_
  refine o_nil (c_seq ?_)
  rcases bif_some h with ⟨h3, h⟩ | ⟨h3, h⟩
  ·
   refine c_t h3 rfl ?_
   refine c_skip (c_seq (c_block (c_sr ?_)))
   refine o_m2 (.i z2) (.i z2) rfl ?_
   refine o_nil (c_seq ?_)
   refine c_draw mixed (by kernel_rfl) ?_
   refine d_s (.y p0) rfl (dg0 rfl) rfl rfl rfl rfl ?_
   refine d_s (.i z2) rfl (dg0 rfl) rfl rfl rfl rfl ?_
   obtain ⟨x4, h5, h⟩ := bind_some h
   refine d_c rfl (dg0 rfl) rfl rfl rfl rfl (idxE h5) (idxC h5) ?_
   refine d_s (.t (.d (.lit (.int .u8 (x4.toNat : Int))))) rfl (dg0 rfl) rfl rfl rfl rfl ?_
   refine d_s (.y p1) rfl (dg0 rfl) rfl rfl rfl rfl ?_
   refine d_s (.i z2) rfl (dg0 rfl) rfl rfl rfl rfl ?_
   obtain ⟨x6, h7, h⟩ := bind_some h
   refine d_c rfl (dg0 rfl) rfl rfl rfl rfl (idxE h7) (idxC h7) ?_
   refine d_s (.t (.d (.lit (.int .u8 (x6.toNat : Int))))) rfl (dg0 rfl) rfl rfl rfl rfl ?_
   refine d_s (.b ((x4.toNat : Int) != (x6.toNat : Int))) rfl (dg0 rfl) rfl rfl rfl rfl ?_
   refine d_nil (by kernel_rfl) ?_
   rcases bif_some h with ⟨h8, h⟩ | ⟨h8, h⟩
   ·
    refine c_t h8 rfl ?_
    refine c_sr ?_
    refine o_1 (.b false) rfl ?_
    refine o_nil (c_ret ?_)
    obtain rfl := Option.some.inj h
    exact end0 rfl .r
   refine c_f h8 rfl ?_
   refine c_skip (c_region ?_)
   refine o_m2 (.i (wi (z2 + 1))) (.i (wi (z2 + 1))) rfl ?_
   refine o_nil ?_
   exact ⟨nl1, (wi (z2 + 1)), Nat.lt_succ_self nl1, h, ⟨.r, .r, .r, .r, trivial⟩, rfl⟩
  refine c_f h3 rfl ?_
  refine c_exit (c_sr ?_)
  refine o_1 (.b true) rfl ?_
  refine o_nil (c_ret ?_)
  obtain rfl := Option.some.inj h
  exact end0 rfl .r
theorem fch_wal_Log_at (p0 : (Option Nat)) (p1 : Int) (w0 : Hp) (r : S_wal_entry) (h : m_wal_Log_at p0 p1 w0 = some r) : FCH Try.prog 130 [.t ((ptT 3 p0)), .t (.d (.lit (.int .i64 p1)))] [] [] (hpA w0) (hpA w0) (.t (.agg [.lit (.int .i64 r.kind_), .lit (.int .i64 r.number_), .seq 1 (bytesD r.data_), .lit (.bool r.ok_)])) := by
 refine fch_mk (rs := [.cell 4 116]) (n := 54) [] Try.func130 rfl rfl (Nat.le_of_ble_eq_true rfl) rfl (pins := []) rfl (L := [(HK, .hp (hpA w0)), (0, .t ((ptT 3 p0))), (1, .i p1)]) rfl ?_
 refine c_sr ?_
 refine o_1 (.box [.i 0, .i 0, .n, .b false]) rfl ?_
 refine o_nil (c_seq (c_sr ?_))
 refine o_1 (.i p1) rfl ?_
 refine o_of (e := [(9, .t ((ptT 3 p0)))]) (g0 rfl) (h_mv mR (.inl rfl) (cpO_pt rfl) rfl rfl) rfl ?_
 rcases ptM_some h with ⟨h1, h⟩ | ⟨i2, h1, h⟩
 ·
  exact none_ne h
 refine o_of (e := [(10, .t (.hpt (cd 3 i2) 0))]) (g0 rfl) (h_nc mR rfl (cpO_pt rfl) (ptT_some h1) rfl rfl) rfl ?_
 refine o_of (e := [(11, .t (.hpt (cd 3 i2) 1))]) (g0 rfl) (h_fd mR rfl rfl rfl rfl rfl rfl) rfl ?_
 obtain ⟨x3, h4, h⟩ := bind_some h
 refine o_of (e := [(12, .i x3.size_)]) (g0 rfl) (h_ld mR rfl rfl rfl rfl (gl_lg h4) rfl rfl rfl rfl) rfl ?_
 refine o_1 (.b (decide (p1 ≥ x3.size_))) rfl ?_
 refine o_nil ?_
 rcases bif_some h with ⟨h5, h⟩ | ⟨h5, h⟩
 ·
  refine c_t h5 rfl ?_
  refine c_sr ?_
  refine o_1 (.t (.agg [.i 0, .i 0, .n, .b false])) rfl ?_
  refine o_st (.box [.i 0, .i 0, .n, .b false]) (g0 rfl) rfl rfl rfl ?_
  refine o_nil (c_ret ?_)
  obtain rfl := Option.some.inj h
  exact ⟨⟨_, rfl, (.t (.agg (.cons .r (.cons .r (.cons (.nil _) (.cons .r .nil))))))⟩, trivial, rfl⟩
 refine c_f h5 rfl ?_
 refine c_skip (c_sr ?_)
 refine o_of (e := [(16, .t (.hpt (cd 3 i2) 0))]) (g0 rfl) (h_mv mR (.inl rfl) ((cpO_pt rfl).trans (pt_eq_some h1)) rfl rfl) rfl ?_
 refine o_of (e := [(17, .t (.hpt (cd 3 i2) 0))]) (g0 rfl) (h_nc mR rfl rfl rfl rfl rfl) rfl ?_
 refine o_of (e := [(18, .t (.hpt (cd 3 i2) 0))]) (g0 rfl) (h_fd mR rfl rfl rfl rfl rfl rfl) rfl ?_
 refine o_of (e := [(19, .t ((ptT 1 x3.d_)))]) (g0 rfl) (h_ld mR rfl rfl rfl rfl (gl_lg h4) rfl (norH_pt _ _) rfl rfl) rfl ?_
 refine o_m2 (.i p1) (.i (wi (2 + p1))) rfl ?_
 obtain ⟨x6, h7, h⟩ := bind_some h
 refine o_of (e := [(22, .tup [.y x6.1, .i x6.2])]) (g0 rfl) (h_callR mR rfl (σ := []) (fr := []) rfl rfl rfl rfl rfl rfl rfl (fch_disk_Disk_Read _ _ w0 _ h7) (pure_hpA _) rfl rfl rfl rfl (.cons (argPt rfl) (.cons (.plain .r rfl) .nil)) rfl (.tup (.cons (.flat rfl) (.cons (.flat rfl) .nil)))) rfl ?_
 refine o_m5 (.tup [.y x6.1, .i x6.2]) (.y x6.1) (.i x6.2) (.y x6.1) (.i x6.2) rfl ?_
 refine o_nil (c_seq (c_sr ?_))
 refine o_m2 (.i x6.2) (.b (x6.2 != 0)) rfl ?_
 refine o_nil ?_
 rcases bif_some h with ⟨h8, h⟩ | ⟨h8, h⟩
 ·
  refine c_t h8 rfl ?_
  refine c_sr ?_
  refine o_1 (.t (.agg [.i 0, .i 0, .n, .b false])) rfl ?_
  refine o_st (.box [.i 0, .i 0, .n, .b false]) (g0 rfl) rfl rfl rfl ?_
  refine o_nil (c_ret ?_)
  obtain rfl := Option.some.inj h
  exact ⟨⟨_, rfl, (.t (.agg (.cons .r (.cons .r (.cons (.nil _) (.cons .r .nil))))))⟩, trivial, rfl⟩
 refine c_f h8 rfl ?_
 refine c_skip (c_seq ?_)
 refine c_draw mixed (by kernel_rfl) ?_
 refine d_s (.y x6.1) rfl (dg0 rfl) rfl rfl rfl rfl ?_
 obtain ⟨x9, h10, h⟩ := bind_some h
 refine d_c rfl (dg0 rfl) rfl rfl rfl rfl (idxE h10) (idxC h10) ?_
 refine d_s (.t (.d (.lit (.int .u8 (x9.toNat : Int))))) rfl (dg0 rfl) rfl rfl rfl rfl ?_
 refine d_c rfl (dg0 rfl) rfl rfl rfl rfl (congrArg (fun z => A.i z) (i64_u8 _)) trivial ?_
 refine d_s (.y x6.1) rfl (dg0 rfl) rfl rfl rfl rfl ?_
 obtain ⟨x11, h12, h⟩ := bind_some h
 refine d_c rfl (dg0 rfl) rfl rfl rfl rfl (cutE (c := cU8) h12) (cutC (c := cU8) h12) ?_
 refine d_s (.t (.agg [.i (x9.toNat : Int), .i 0, .y x11, .b false])) rfl (dg0 rfl) rfl rfl rfl rfl ?_
 refine d_s (.box [.i 0, .i 0, .n, .b false]) rfl (dg0 rfl) rfl rfl rfl rfl ?_
 refine d_st (.box [.i (x9.toNat : Int), .i 0, .y x11, .b false]) rfl (dg0 rfl) rfl rfl rfl rfl ?_
 refine d_nil (by kernel_rfl) ?_
 refine c_sr ?_
 refine o_1 (.y x6.1) rfl ?_
 obtain ⟨x13, h14, h⟩ := bind_some h
 refine o_c (g0 rfl) rfl rfl rfl (cutE (c := cU8) h14) (cutC (c := cU8) h14) ?_
 obtain ⟨x15, h16, h⟩ := bind_some h
 refine o_ca (fc_word_Get _ _ h16) (g0 rfl) rfl rfl rfl rfl rfl rfl rfl (.cons .r .nil) rfl rfl ?_
 refine o_m4 (.tup [.i x15.1, .i x15.2]) (.i x15.1) (.i x15.2) (.ref 7 1) rfl ?_
 refine o_st (.box [.i (x9.toNat : Int), .i x15.1, .y x11, .b false]) (g0 rfl) rfl rfl rfl ?_
 refine o_nil (c_seq ?_)
 refine c_draw mixed (by kernel_rfl) ?_
 refine d_s (.y x6.1) rfl (dg0 rfl) rfl rfl rfl rfl ?_
 refine d_s (.t (.agg [.i (x9.toNat : Int), .i x15.1, .y x11, .b false])) rfl (dg0 rfl) rfl rfl rfl rfl ?_
 refine d_h0 [] (e := [(44, .t (.hpt (cd 3 i2) 0))]) (ks := [44]) rfl (dg0 rfl) rfl rfl (fun S' hM hok => h_mv hM (.inl rfl) ((cpO_pt rfl).trans (pt_eq_some h1)) rfl (hok _ rfl rfl)) rfl ?_
 refine d_h0 [] (e := [(45, .t (.hpt (cd 3 i2) 0))]) (ks := [45]) rfl (dg0 rfl) rfl rfl (fun S' hM hok => h_nc hM rfl rfl rfl rfl (hok _ rfl rfl)) rfl ?_
 refine d_h0 [] (e := [(46, .t (.hpt (cd 3 i2) 2))]) (ks := [46]) rfl (dg0 rfl) rfl rfl (fun S' hM hok => h_fd hM rfl rfl rfl rfl rfl (hok _ rfl rfl)) rfl ?_
 refine d_h (e := [(47, .i x3.base_)]) (ks := [47]) rfl (dg0 rfl) rfl rfl (fun S' hM hk hok => h_ld hM hk rfl rfl rfl (gl_lg h4) rfl rfl rfl (hok _ rfl rfl)) rfl ?_
 refine d_s (.i p1) rfl (dg0 rfl) rfl rfl rfl rfl ?_
 refine d_s (.i (wi (x3.base_ + p1))) rfl (dg0 rfl) rfl rfl rfl rfl ?_
 obtain ⟨x17, h18, h⟩ := bind_some h
 refine d_h (e := [(50, .y x17)]) (ks := [50]) rfl (dg0 rfl) rfl rfl (fun S' hM hk hok => h_callR hM hk (σ := []) (fr := []) rfl rfl rfl (hok _ rfl rfl) rfl rfl rfl (fch_wal_entry_bytes _ _ w0 _ h18) (pure_hpA _) rfl rfl rfl rfl (.cons (.plain .r rfl) (.cons (.plain .r rfl) .nil)) rfl (.t (.flat rfl))) rfl ?_
 obtain ⟨x19, h20, h⟩ := bind_some h
 refine d_ca (fc_slices_Equal_byte _ _ _ h20) rfl (dg0 rfl) rfl rfl rfl rfl rfl rfl rfl rfl (.cons .r (.cons .r .nil)) rfl rfl ?_
 refine d_s (.ref 7 3) rfl (dg0 rfl) rfl rfl rfl rfl ?_
 refine d_st (.box [.i (x9.toNat : Int), .i x15.1, .y x11, .b x19]) rfl (dg0 rfl) rfl rfl rfl rfl ?_
 refine d_nil (by kernel_rfl) ?_
 refine c_sr ?_
 refine o_1 (.t (.agg [.i (x9.toNat : Int), .i x15.1, .y x11, .b x19])) rfl ?_
 refine o_st (.box [.i (x9.toNat : Int), .i x15.1, .y x11, .b x19]) (g0 rfl) rfl rfl rfl ?_
 refine o_nil (c_ret ?_)
 obtain rfl := Option.some.inj h
 exact ⟨⟨_, rfl, .r⟩, trivial, rfl⟩
end Go.Proofs.Ytjomnccladjpgaa
