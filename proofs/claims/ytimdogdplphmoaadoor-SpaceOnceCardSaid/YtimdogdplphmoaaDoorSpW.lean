/-
  Walks of functions: each function does what its model tells. Printed by a program of this claim's own (gen.py) off the given translation.
-/
import Derived.Test.YtimdogdplphmoaaDoorSpM
import Derived.Test.YtimdogdplphmoaaDoorTab
import Derived.Test.YtimdogdplphmoaaDoorHg
import Derived.Test.YtimdogdplphmoaaDoorGrv
namespace Go.Proofs.YtimdogdplphmoaaDoor
open Go Go.RowKit
set_option linter.unusedVariables false
set_option maxHeartbeats 4000000
set_option maxRecDepth 20000
theorem fch_space_New (p0 : Int) (w0 : Hp) (r : ((Option Nat) × Int × Hp)) (h : m_space_New p0 w0 = some r) : FCH Tryd.prog 7 [.t (.d (.lit (.int .i64 p0)))] [] [] (hpA w0) (hpA r.2.2) (.tup [(ptT 1 r.1), .d (.lit (.int .i64 r.2.1))]) := by
  refine fch_mk (rs := [.tmp 2, .tmp 3]) (n := 19) [0] Tryd.func7 rfl rfl (Nat.le_of_ble_eq_true rfl) rfl (pins := []) rfl (L := [(HK, .hp (hpA w0)), (OB + 0, .free), (0, .t (.d (.lit (.int .i64 p0))))]) rfl ?_
  refine c_seq ?_
  refine c_region ?_
  refine o_of (e := [(2, .t (.d (.lit (.pointer none))))]) (g0 rfl) (h_mv (Mk.refl _) (.inr rfl) rfl rfl rfl) rfl ?_
  refine o_s (.t (.d (.lit (.int .i64 0)))) (g0 rfl) rfl rfl rfl ?_
  refine o_nil ?_
  repeat (first | refine then_normal ?_ | refine then_exit ?_ | refine then_ret ?_ | refine block_normal ?_ | refine block_ret ?_ | refine block_exit ?_ | refine block_pass rfl ?_)
  refine c_seq ?_
  refine c_seq ?_
  refine c_region ?_
  refine o_s (.t (.d (.lit (.int .i64 p0)))) (g0 rfl) rfl rfl rfl ?_
  refine o_s (.t (.d (.lit (.bool (decide (p0 < 0)))))) (g0 rfl) rfl rfl rfl ?_
  refine o_s (.t (.d (.lit (.bool (decide (p0 < 0)))))) (g0 rfl) rfl rfl rfl ?_
  rcases bif_some h with ⟨h1, h⟩ | ⟨h1, h⟩
  · refine o_skip rfl rfl rfl h1 rfl rfl ?_
    refine o_skip rfl rfl rfl h1 rfl rfl ?_
    refine o_pk (.t (.d (.lit (.bool true)))) (b := true) h1 (g0 rfl) rfl rfl rfl rfl rfl ?_
    refine o_nil ?_
    repeat (first | refine then_normal ?_ | refine then_exit ?_ | refine then_ret ?_ | refine block_normal ?_ | refine block_ret ?_ | refine block_exit ?_ | refine block_pass rfl ?_)
    refine c_t rfl rfl ?_
    refine c_seq ?_
    refine c_region ?_
    refine o_of (e := [(2, .t (.d (.lit (.pointer none))))]) (g0 rfl) (h_mv (Mk.refl _) (.inr rfl) rfl rfl rfl) rfl ?_
    refine o_s (.t (.d (.lit (.int .i64 2)))) (g0 rfl) rfl rfl rfl ?_
    refine o_nil ?_
    repeat (first | refine then_normal ?_ | refine then_exit ?_ | refine then_ret ?_ | refine block_normal ?_ | refine block_ret ?_ | refine block_exit ?_ | refine block_pass rfl ?_)
    refine c_ret ?_
    repeat (first | refine then_normal ?_ | refine then_exit ?_ | refine then_ret ?_ | refine block_normal ?_ | refine block_ret ?_ | refine block_exit ?_ | refine block_pass rfl ?_)
    obtain rfl := Option.some.inj h
    exact ⟨⟨_, rfl, (.tup (.cons (.refl _) (.cons (.refl _) .nil)))⟩, trivial, rfl⟩
  · refine o_s (.t (.d (.lit (.int .i64 p0)))) (gy rfl rfl rfl h1) rfl rfl rfl ?_
    refine o_s (.t (.d (.lit (.bool (decide (p0 > 16384)))))) (gy rfl rfl rfl h1) rfl rfl rfl ?_
    refine o_pk (.t (.d (.lit (.bool (decide (p0 > 16384)))))) (b := false) h1 (g0 rfl) rfl rfl rfl rfl rfl ?_
    refine o_nil ?_
    repeat (first | refine then_normal ?_ | refine then_exit ?_ | refine then_ret ?_ | refine block_normal ?_ | refine block_ret ?_ | refine block_exit ?_ | refine block_pass rfl ?_)
    rcases bif_some h with ⟨h2, h⟩ | ⟨h2, h⟩
    · refine c_t h2 rfl ?_
      refine c_seq ?_
      refine c_region ?_
      refine o_of (e := [(2, .t (.d (.lit (.pointer none))))]) (g0 rfl) (h_mv (Mk.refl _) (.inr rfl) rfl rfl rfl) rfl ?_
      refine o_s (.t (.d (.lit (.int .i64 2)))) (g0 rfl) rfl rfl rfl ?_
      refine o_nil ?_
      repeat (first | refine then_normal ?_ | refine then_exit ?_ | refine then_ret ?_ | refine block_normal ?_ | refine block_ret ?_ | refine block_exit ?_ | refine block_pass rfl ?_)
      refine c_ret ?_
      repeat (first | refine then_normal ?_ | refine then_exit ?_ | refine then_ret ?_ | refine block_normal ?_ | refine block_ret ?_ | refine block_exit ?_ | refine block_pass rfl ?_)
      obtain rfl := Option.some.inj h
      exact ⟨⟨_, rfl, (.tup (.cons (.refl _) (.cons (.refl _) .nil)))⟩, trivial, rfl⟩
    · refine c_f h2 rfl ?_
      refine c_skip ?_
      repeat (first | refine then_normal ?_ | refine then_exit ?_ | refine then_ret ?_ | refine block_normal ?_ | refine block_ret ?_ | refine block_exit ?_ | refine block_pass rfl ?_)
      refine c_seq ?_
      refine c_region ?_
      refine o_s (.t (.d (.lit (.int .i64 p0)))) (g0 rfl) rfl rfl rfl ?_
      refine o_s (.t (.d (.lit (.int .i64 p0)))) (g0 rfl) rfl rfl rfl ?_
      refine o_s (.t (.d (.lit (.int .i64 p0)))) (g0 rfl) rfl rfl rfl ?_
      refine o_s (.t (.d (.lit (.int .i64 (wi (p0 + 64)))))) (g0 rfl) rfl rfl rfl ?_
      refine o_s (.t (.d (.lit (.int .i64 (wi ((wi (p0 + 64)) - 1)))))) (g0 rfl) rfl rfl rfl ?_
      refine o_s (.t (.d (.lit (.int .i64 (wi (Int.tdiv (wi ((wi (p0 + 64)) - 1)) 64)))))) (g0 rfl) rfl rfl rfl ?_
      obtain ⟨x3, h4, h⟩ := bind_some h
      refine o_of (e := [((OB + 0), .box (fl (dT (cInt .u64)) (List.replicate x3 (0 : Int)))), (16, .t (.view 0 0 62 1 x3))]) (g0 rfl) (h_mkl (Mk.refl _) rfl rfl rfl rfl rfl rfl rfl rfl rfl h4 (fl_rep (c := (cInt .u64)) (z := (0 : Int)) rfl x3) rfl rfl rfl rfl) rfl ?_
      refine o_of (e := [(17, .ag [.d (.lit (.int .i64 p0)), .d (.lit (.int .i64 p0)), .view 0 0 62 1 x3, .d (.lit (.bool true))])]) (g0 rfl) (h_bd (Mk.refl _) rfl rfl rfl rfl) rfl ?_
      refine o_p (g0 rfl) (OpH.pub (j := 0) (f2 := hpA (w0.nw_space (S_space_Space.mk p0 p0 (List.replicate x3 (0 : Int)) true))) (opH_list (e := [(HK, .hp (updF (hpA w0) (cd 1 w0.ln_space) (.box [.d (.lit (.int .i64 p0)), .d (.lit (.int .i64 p0)), .view 0 0 62 1 x3, .d (.lit (.bool true))]))), (18, .t (.hpt (cd 1 w0.ln_space) 0))]) (h_box (Mk.refl _) rfl rfl rfl rfl rfl (fr_space _) rfl)) rfl rfl rfl (fl_noPt _ _) ((if_neg (cd_ne (by decide) (by decide) (by decide))).trans (fr_space_l _)) (pb1 (fun k => rn_hpA _ _ _ k) (congrArg A.box (by simp [rnT, hc_space])) (cd_ne (by decide) (by decide) (by decide)) (nw_space _ (S_space_Space.mk p0 p0 (List.replicate x3 (0 : Int)) true)))) ?_
      refine o_of (e := [(2, .t (.hpt (cd 1 w0.ln_space) 0))]) (g0 rfl) (h_mv (Mk.refl _) (.inr rfl) rfl rfl rfl) rfl ?_
      refine o_s (.t (.d (.lit (.int .i64 0)))) (g0 rfl) rfl rfl rfl ?_
      refine o_nil ?_
      repeat (first | refine then_normal ?_ | refine then_exit ?_ | refine then_ret ?_ | refine block_normal ?_ | refine block_ret ?_ | refine block_exit ?_ | refine block_pass rfl ?_)
      refine c_ret ?_
      repeat (first | refine then_normal ?_ | refine then_exit ?_ | refine then_ret ?_ | refine block_normal ?_ | refine block_ret ?_ | refine block_exit ?_ | refine block_pass rfl ?_)
      obtain rfl := Option.some.inj h
      exact ⟨⟨_, rfl, (.tup (.cons (.refl _) (.cons (.refl _) .nil)))⟩, trivial, rfl⟩

theorem fc_math_bits_TrailingZeros64 (p0 : Int) (r : Int) (h : m_math_bits_TrailingZeros64 p0 = some r) : FC Tryd.prog 26 [.t (.d (.lit (.int .u64 p0)))] [] (.t (.d (.lit (.int .i64 r)))) := by
  refine fc_mk (rs := [.tmp 2]) (n := 14) Tryd.func26 rfl rfl (Nat.le_of_ble_eq_true rfl) rfl (pins := []) rfl (L := [(0, .t (.d (.lit (.int .u64 p0))))]) rfl ?_
  refine c_seq ?_
  refine c_region ?_
  refine o_s (.t (.d (.lit (.int .i64 0)))) (g0 rfl) rfl rfl rfl ?_
  refine o_nil ?_
  repeat (first | refine then_normal ?_ | refine then_exit ?_ | refine then_ret ?_ | refine block_normal ?_ | refine block_ret ?_ | refine block_exit ?_ | refine block_pass rfl ?_)
  refine c_seq ?_
  refine c_seq ?_
  refine c_region ?_
  refine o_s (.t (.d (.lit (.int .u64 p0)))) (g0 rfl) rfl rfl rfl ?_
  refine o_s (.t (.d (.lit (.bool (p0 == 0))))) (g0 rfl) rfl rfl rfl ?_
  refine o_nil ?_
  repeat (first | refine then_normal ?_ | refine then_exit ?_ | refine then_ret ?_ | refine block_normal ?_ | refine block_ret ?_ | refine block_exit ?_ | refine block_pass rfl ?_)
  rcases bif_some h with ⟨h1, h⟩ | ⟨h1, h⟩
  · refine c_t h1 rfl ?_
    refine c_seq ?_
    refine c_region ?_
    refine o_s (.t (.d (.lit (.int .i64 64)))) (g0 rfl) rfl rfl rfl ?_
    refine o_nil ?_
    repeat (first | refine then_normal ?_ | refine then_exit ?_ | refine then_ret ?_ | refine block_normal ?_ | refine block_ret ?_ | refine block_exit ?_ | refine block_pass rfl ?_)
    refine c_ret ?_
    repeat (first | refine then_normal ?_ | refine then_exit ?_ | refine then_ret ?_ | refine block_normal ?_ | refine block_ret ?_ | refine block_exit ?_ | refine block_pass rfl ?_)
    obtain rfl := Option.some.inj h
    exact end0 rfl (.refl _)
  · refine c_f h1 rfl ?_
    refine c_skip ?_
    repeat (first | refine then_normal ?_ | refine then_exit ?_ | refine then_ret ?_ | refine block_normal ?_ | refine block_ret ?_ | refine block_exit ?_ | refine block_pass rfl ?_)
    refine c_seq ?_
    refine c_region ?_
    refine o_s (.t (.d (.lit (.int .u64 p0)))) (g0 rfl) rfl rfl rfl ?_
    refine o_s (.t (.d (.lit (.int .u64 p0)))) (g0 rfl) rfl rfl rfl ?_
    refine o_s (.t (.d (.lit (.int .u64 (IntKind.u64.wrap (0 - p0)))))) (g0 rfl) rfl rfl rfl ?_
    refine o_s (.t (.d (.lit (.int .u64 (IntKind.u64.wrap ((((BitVec.ofInt IntKind.u64.bits p0) &&& (BitVec.ofInt IntKind.u64.bits (IntKind.u64.wrap (0 - p0)))).toNat : Nat) : Int)))))) (g0 rfl) rfl rfl rfl ?_
    refine o_s (.t (.d (.lit (.int .u64 (IntKind.u64.wrap ((IntKind.u64.wrap ((((BitVec.ofInt IntKind.u64.bits p0) &&& (BitVec.ofInt IntKind.u64.bits (IntKind.u64.wrap (0 - p0)))).toNat : Nat) : Int)) * 285870213051353865)))))) (g0 rfl) rfl rfl rfl ?_
    refine o_s (.t (.d (.lit (.int .u64 (Int.fdiv (IntKind.u64.wrap ((IntKind.u64.wrap ((((BitVec.ofInt IntKind.u64.bits p0) &&& (BitVec.ofInt IntKind.u64.bits (IntKind.u64.wrap (0 - p0)))).toNat : Nat) : Int)) * 285870213051353865)) (2 ^ 58)))))) (g0 rfl) rfl rfl rfl ?_
    obtain ⟨x2, h3, h⟩ := bind_some h
    refine o_gix (k := .u8) (l := tbl_db64) h3 (g0 rfl) rfl rfl rfl rfl rfl (by kernel_rfl) ?_
    refine o_s (.t (.d (.lit (.int .u8 x2)))) (g0 rfl) rfl rfl rfl ?_
    refine o_s (.t (.d (.lit (.int .i64 (wi x2))))) (g0 rfl) rfl rfl rfl ?_
    refine o_s (.t (.d (.lit (.int .i64 (wi x2))))) (g0 rfl) rfl rfl rfl ?_
    refine o_nil ?_
    repeat (first | refine then_normal ?_ | refine then_exit ?_ | refine then_ret ?_ | refine block_normal ?_ | refine block_ret ?_ | refine block_exit ?_ | refine block_pass rfl ?_)
    refine c_ret ?_
    repeat (first | refine then_normal ?_ | refine then_exit ?_ | refine then_ret ?_ | refine block_normal ?_ | refine block_ret ?_ | refine block_exit ?_ | refine block_pass rfl ?_)
    obtain rfl := Option.some.inj h
    exact end0 rfl (.refl _)

theorem fch_space_Space_Has (p0 : (Option Nat)) (p1 : Int) (w0 : Hp) (r : (Bool × Hp)) (h : m_space_Space_Has p0 p1 w0 = some r) : FCH Tryd.prog 20 [.t ((ptT 1 p0)), .t (.d (.lit (.int .i64 p1)))] [] [] (hpA w0) (hpA r.2) (.t (.d (.lit (.bool r.1)))) := by
  refine fch_mk (rs := [.tmp 4]) (n := 35) [] Tryd.func20 rfl rfl (Nat.le_of_ble_eq_true rfl) rfl (pins := []) rfl (L := [(HK, .hp (hpA w0)), (0, .t ((ptT 1 p0))), (1, .t (.d (.lit (.int .i64 p1))))]) rfl ?_
  refine c_seq ?_
  refine c_region ?_
  refine o_s (.t (.d (.lit (.bool false)))) (g0 rfl) rfl rfl rfl ?_
  refine o_nil ?_
  repeat (first | refine then_normal ?_ | refine then_exit ?_ | refine then_ret ?_ | refine block_normal ?_ | refine block_ret ?_ | refine block_exit ?_ | refine block_pass rfl ?_)
  refine c_seq ?_
  refine c_region ?_
  refine o_of (e := [(5, .t ((ptT 1 p0)))]) (g0 rfl) (h_mv (Mk.refl _) (.inl rfl) (cpO_pt rfl) rfl rfl) rfl ?_
  rcases ptM_some h with ⟨h1, h⟩ | ⟨i2, h1, h⟩
  · refine o_of (e := [(6, .t (.d (.lit (.bool false))))]) (g0 rfl) (h_pn (Mk.refl _) (ng := true) rfl rfl rfl (pn_none rfl h1) rfl rfl) rfl ?_
    refine o_s (.t (.d (.lit (.bool false)))) (g0 rfl) rfl rfl rfl ?_
    refine o_skip rfl rfl rfl rfl rfl rfl ?_
    refine o_skip rfl rfl rfl rfl rfl rfl ?_
    refine o_pk (.t (.d (.lit (.bool false)))) (b := false) rfl (g0 rfl) rfl rfl rfl rfl rfl ?_
    refine o_s (.t (.d (.lit (.bool false)))) (g0 rfl) rfl rfl rfl ?_
    refine o_skip rfl rfl rfl rfl rfl rfl ?_
    refine o_skip rfl rfl rfl rfl rfl rfl ?_
    refine o_skip rfl rfl rfl rfl rfl rfl ?_
    refine o_skip rfl rfl rfl rfl rfl rfl ?_
    refine o_skip rfl rfl rfl rfl rfl rfl ?_
    refine o_skip rfl rfl rfl rfl rfl rfl ?_
    refine o_pk (.t (.d (.lit (.bool false)))) (b := false) rfl (g0 rfl) rfl rfl rfl rfl rfl ?_
    refine o_s (.t (.d (.lit (.bool false)))) (g0 rfl) rfl rfl rfl ?_
    refine o_skip rfl rfl rfl rfl rfl rfl ?_
    refine o_skip rfl rfl rfl rfl rfl rfl ?_
    refine o_skip rfl rfl rfl rfl rfl rfl ?_
    refine o_skip rfl rfl rfl rfl rfl rfl ?_
    refine o_skip rfl rfl rfl rfl rfl rfl ?_
    refine o_skip rfl rfl rfl rfl rfl rfl ?_
    refine o_skip rfl rfl rfl rfl rfl rfl ?_
    refine o_skip rfl rfl rfl rfl rfl rfl ?_
    refine o_skip rfl rfl rfl rfl rfl rfl ?_
    refine o_skip rfl rfl rfl rfl rfl rfl ?_
    refine o_skip rfl rfl rfl rfl rfl rfl ?_
    refine o_skip rfl rfl rfl rfl rfl rfl ?_
    refine o_skip rfl rfl rfl rfl rfl rfl ?_
    refine o_skip rfl rfl rfl rfl rfl rfl ?_
    refine o_pk (.t (.d (.lit (.bool false)))) (b := false) rfl (g0 rfl) rfl rfl rfl rfl rfl ?_
    refine o_s (.t (.d (.lit (.bool false)))) (g0 rfl) rfl rfl rfl ?_
    refine o_nil ?_
    repeat (first | refine then_normal ?_ | refine then_exit ?_ | refine then_ret ?_ | refine block_normal ?_ | refine block_ret ?_ | refine block_exit ?_ | refine block_pass rfl ?_)
    refine c_ret ?_
    repeat (first | refine then_normal ?_ | refine then_exit ?_ | refine then_ret ?_ | refine block_normal ?_ | refine block_ret ?_ | refine block_exit ?_ | refine block_pass rfl ?_)
    obtain rfl := Option.some.inj h
    exact ⟨⟨_, rfl, (.refl _)⟩, trivial, rfl⟩
  · refine o_of (e := [(6, .t (.d (.lit (.bool true))))]) (g0 rfl) (h_pn (Mk.refl _) (ng := true) rfl rfl rfl (pn_some rfl h1) rfl rfl) rfl ?_
    refine o_s (.t (.d (.lit (.bool true)))) (g0 rfl) rfl rfl rfl ?_
    refine o_s (.t (.d (.lit (.int .i64 p1)))) (gy rfl rfl rfl rfl) rfl rfl rfl ?_
    refine o_s (.t (.d (.lit (.bool (decide (p1 ≥ 0)))))) (gy rfl rfl rfl rfl) rfl rfl rfl ?_
    refine o_pk (.t (.d (.lit (.bool (decide (p1 ≥ 0)))))) (b := true) rfl (g0 rfl) rfl rfl rfl rfl rfl ?_
    refine o_s (.t (.d (.lit (.bool (decide (p1 ≥ 0)))))) (g0 rfl) rfl rfl rfl ?_
    rcases bif_some h with ⟨h3, h⟩ | ⟨h3, h⟩
    · refine o_s (.t (.d (.lit (.int .i64 p1)))) (gy rfl rfl rfl h3) rfl rfl rfl ?_
      refine o_of (e := [(13, .t (.hpt (cd 1 i2) 0))]) (gy rfl rfl rfl h3) (h_mv (Mk.refl _) (.inl rfl) ((cpO_pt rfl).trans (pt_eq_some h1)) rfl rfl) rfl ?_
      refine o_of (e := [(14, .t (.hpt (cd 1 i2) 0))]) (gy rfl rfl rfl h3) (h_nc (Mk.refl _) rfl rfl rfl rfl rfl) rfl ?_
      refine o_of (e := [(15, .t (.hpt (cd 1 i2) 0))]) (gy rfl rfl rfl h3) (h_fd (Mk.refl _) rfl rfl rfl rfl rfl rfl) rfl ?_
      obtain ⟨x4, h5, h⟩ := bind_some h
      refine o_of (e := [(16, .t (.d (.lit (.int .i64 x4.n_))))]) (gy rfl rfl rfl h3) (h_ld (Mk.refl _) rfl rfl rfl rfl (gl_space h5) rfl rfl rfl rfl) rfl ?_
      refine o_s (.t (.d (.lit (.bool (decide (p1 < x4.n_)))))) (gy rfl rfl rfl h3) rfl rfl rfl ?_
      refine o_pk (.t (.d (.lit (.bool (decide (p1 < x4.n_)))))) (b := true) h3 (g0 rfl) rfl rfl rfl rfl rfl ?_
      refine o_s (.t (.d (.lit (.bool (decide (p1 < x4.n_)))))) (g0 rfl) rfl rfl rfl ?_
      rcases bif_some h with ⟨h6, h⟩ | ⟨h6, h⟩
      · refine o_of (e := [(20, .t (.hpt (cd 1 i2) 0))]) (gy rfl rfl rfl h6) (h_mv (Mk.refl _) (.inl rfl) ((cpO_pt rfl).trans (pt_eq_some h1)) rfl rfl) rfl ?_
        refine o_of (e := [(21, .t (.hpt (cd 1 i2) 0))]) (gy rfl rfl rfl h6) (h_nc (Mk.refl _) rfl rfl rfl rfl rfl) rfl ?_
        refine o_of (e := [(22, .t (.hpt (cd 1 i2) 2))]) (gy rfl rfl rfl h6) (h_fd (Mk.refl _) rfl rfl rfl rfl rfl rfl) rfl ?_
        refine o_of (e := [(23, .t (.hvw (cd 2 i2) 0 62 1 x4.l_.length))]) (gy rfl rfl rfl h6) (h_ld (Mk.refl _) rfl rfl rfl rfl (gl_space h5) rfl rfl rfl rfl) rfl ?_
        refine o_s (.t (.d (.lit (.int .i64 p1)))) (gy rfl rfl rfl h6) rfl rfl rfl ?_
        refine o_s (.t (.d (.lit (.int .i64 (wi (Int.tdiv p1 64)))))) (gy rfl rfl rfl h6) rfl rfl rfl ?_
        obtain ⟨x7, h8, h⟩ := bind_some h
        refine o_of (e := [(26, .t (.hpt (cd 2 i2) (0 + Int.toNat (wi (Int.tdiv p1 64)) * 1)))]) (gy rfl rfl rfl h6) (h_ix (Mk.refl _) rfl rfl rfl rfl (idxV rfl h8) rfl rfl rfl) rfl ?_
        refine o_of (e := [(27, .t (.d (.lit (.int .u64 x7))))]) (gy rfl rfl rfl h6) (h_ld (Mk.refl _) rfl rfl rfl rfl (gl_space_l h5) (fl_at h8 rfl (fun _ => rfl)) rfl rfl rfl) rfl ?_
        refine o_s (.t (.d (.lit (.int .i64 p1)))) (gy rfl rfl rfl h6) rfl rfl rfl ?_
        refine o_s (.t (.d (.lit (.int .i64 (Int.tmod p1 64))))) (gy rfl rfl rfl h6) rfl rfl rfl ?_
        refine o_s (.t (.d (.lit (.int .u64 (IntKind.u64.wrap (Int.tmod p1 64)))))) (gy rfl rfl rfl h6) rfl rfl rfl ?_
        obtain ⟨x9, h10, h⟩ := bind_some h
        refine o_b (.t (.d (.lit (.int .u64 x9)))) (shrIE h10) (gy rfl rfl rfl h6) rfl rfl rfl rfl rfl rfl rfl ?_
        refine o_s (.t (.d (.lit (.int .u64 (IntKind.u64.wrap ((((BitVec.ofInt IntKind.u64.bits x9) &&& (BitVec.ofInt IntKind.u64.bits 1)).toNat : Nat) : Int)))))) (gy rfl rfl rfl h6) rfl rfl rfl ?_
        refine o_s (.t (.d (.lit (.bool ((IntKind.u64.wrap ((((BitVec.ofInt IntKind.u64.bits x9) &&& (BitVec.ofInt IntKind.u64.bits 1)).toNat : Nat) : Int)) == 0))))) (gy rfl rfl rfl h6) rfl rfl rfl ?_
        refine o_pk (.t (.d (.lit (.bool ((IntKind.u64.wrap ((((BitVec.ofInt IntKind.u64.bits x9) &&& (BitVec.ofInt IntKind.u64.bits 1)).toNat : Nat) : Int)) == 0))))) (b := true) h6 (g0 rfl) rfl rfl rfl rfl rfl ?_
        refine o_s (.t (.d (.lit (.bool ((IntKind.u64.wrap ((((BitVec.ofInt IntKind.u64.bits x9) &&& (BitVec.ofInt IntKind.u64.bits 1)).toNat : Nat) : Int)) == 0))))) (g0 rfl) rfl rfl rfl ?_
        refine o_nil ?_
        repeat (first | refine then_normal ?_ | refine then_exit ?_ | refine then_ret ?_ | refine block_normal ?_ | refine block_ret ?_ | refine block_exit ?_ | refine block_pass rfl ?_)
        refine c_ret ?_
        repeat (first | refine then_normal ?_ | refine then_exit ?_ | refine then_ret ?_ | refine block_normal ?_ | refine block_ret ?_ | refine block_exit ?_ | refine block_pass rfl ?_)
        obtain rfl := Option.some.inj h
        exact ⟨⟨_, rfl, (.refl _)⟩, trivial, rfl⟩
      · refine o_skip rfl rfl rfl h6 rfl rfl ?_
        refine o_skip rfl rfl rfl h6 rfl rfl ?_
        refine o_skip rfl rfl rfl h6 rfl rfl ?_
        refine o_skip rfl rfl rfl h6 rfl rfl ?_
        refine o_skip rfl rfl rfl h6 rfl rfl ?_
        refine o_skip rfl rfl rfl h6 rfl rfl ?_
        refine o_skip rfl rfl rfl h6 rfl rfl ?_
        refine o_skip rfl rfl rfl h6 rfl rfl ?_
        refine o_skip rfl rfl rfl h6 rfl rfl ?_
        refine o_skip rfl rfl rfl h6 rfl rfl ?_
        refine o_skip rfl rfl rfl h6 rfl rfl ?_
        refine o_skip rfl rfl rfl h6 rfl rfl ?_
        refine o_skip rfl rfl rfl h6 rfl rfl ?_
        refine o_skip rfl rfl rfl h6 rfl rfl ?_
        refine o_pk (.t (.d (.lit (.bool false)))) (b := false) h6 (g0 rfl) rfl rfl rfl rfl rfl ?_
        refine o_s (.t (.d (.lit (.bool false)))) (g0 rfl) rfl rfl rfl ?_
        refine o_nil ?_
        repeat (first | refine then_normal ?_ | refine then_exit ?_ | refine then_ret ?_ | refine block_normal ?_ | refine block_ret ?_ | refine block_exit ?_ | refine block_pass rfl ?_)
        refine c_ret ?_
        repeat (first | refine then_normal ?_ | refine then_exit ?_ | refine then_ret ?_ | refine block_normal ?_ | refine block_ret ?_ | refine block_exit ?_ | refine block_pass rfl ?_)
        obtain rfl := Option.some.inj h
        exact ⟨⟨_, rfl, (.refl _)⟩, trivial, rfl⟩
    · refine o_skip rfl rfl rfl h3 rfl rfl ?_
      refine o_skip rfl rfl rfl h3 rfl rfl ?_
      refine o_skip rfl rfl rfl h3 rfl rfl ?_
      refine o_skip rfl rfl rfl h3 rfl rfl ?_
      refine o_skip rfl rfl rfl h3 rfl rfl ?_
      refine o_skip rfl rfl rfl h3 rfl rfl ?_
      refine o_pk (.t (.d (.lit (.bool false)))) (b := false) h3 (g0 rfl) rfl rfl rfl rfl rfl ?_
      refine o_s (.t (.d (.lit (.bool false)))) (g0 rfl) rfl rfl rfl ?_
      refine o_skip rfl rfl rfl rfl rfl rfl ?_
      refine o_skip rfl rfl rfl rfl rfl rfl ?_
      refine o_skip rfl rfl rfl rfl rfl rfl ?_
      refine o_skip rfl rfl rfl rfl rfl rfl ?_
      refine o_skip rfl rfl rfl rfl rfl rfl ?_
      refine o_skip rfl rfl rfl rfl rfl rfl ?_
      refine o_skip rfl rfl rfl rfl rfl rfl ?_
      refine o_skip rfl rfl rfl rfl rfl rfl ?_
      refine o_skip rfl rfl rfl rfl rfl rfl ?_
      refine o_skip rfl rfl rfl rfl rfl rfl ?_
      refine o_skip rfl rfl rfl rfl rfl rfl ?_
      refine o_skip rfl rfl rfl rfl rfl rfl ?_
      refine o_skip rfl rfl rfl rfl rfl rfl ?_
      refine o_skip rfl rfl rfl rfl rfl rfl ?_
      refine o_pk (.t (.d (.lit (.bool false)))) (b := false) rfl (g0 rfl) rfl rfl rfl rfl rfl ?_
      refine o_s (.t (.d (.lit (.bool false)))) (g0 rfl) rfl rfl rfl ?_
      refine o_nil ?_
      repeat (first | refine then_normal ?_ | refine then_exit ?_ | refine then_ret ?_ | refine block_normal ?_ | refine block_ret ?_ | refine block_exit ?_ | refine block_pass rfl ?_)
      refine c_ret ?_
      repeat (first | refine then_normal ?_ | refine then_exit ?_ | refine then_ret ?_ | refine block_normal ?_ | refine block_ret ?_ | refine block_exit ?_ | refine block_pass rfl ?_)
      obtain rfl := Option.some.inj h
      exact ⟨⟨_, rfl, (.refl _)⟩, trivial, rfl⟩

theorem fch_space_Space_turn (p0 : (Option Nat)) (p1 : Int) (w0 : Hp) (r : Hp) (h : m_space_Space_turn p0 p1 w0 = some r) : FCH Tryd.prog 27 [.t ((ptT 1 p0)), .t (.d (.lit (.int .i64 p1)))] [] [] (hpA w0) (hpA r) (.tup []) := by
  refine fch_mk (rs := []) (n := 35) [] Tryd.func27 rfl rfl (Nat.le_of_ble_eq_true rfl) rfl (pins := []) rfl (L := [(HK, .hp (hpA w0)), (0, .t ((ptT 1 p0))), (1, .t (.d (.lit (.int .i64 p1))))]) rfl ?_
  refine c_seq ?_
  refine c_region ?_
  refine o_of (e := [(4, .t ((ptT 1 p0)))]) (g0 rfl) (h_mv (Mk.refl _) (.inl rfl) (cpO_pt rfl) rfl rfl) rfl ?_
  rcases ptM_some h with ⟨h1, h⟩ | ⟨i2, h1, h⟩
  · exact none_ne h
  · refine o_of (e := [(5, .t (.hpt (cd 1 i2) 0))]) (g0 rfl) (h_nc (Mk.refl _) rfl (cpO_pt rfl) (ptT_some h1) rfl rfl) rfl ?_
    refine o_of (e := [(6, .t (.hpt (cd 1 i2) 2))]) (g0 rfl) (h_fd (Mk.refl _) rfl rfl rfl rfl rfl rfl) rfl ?_
    obtain ⟨x3, h4, h⟩ := bind_some h
    refine o_of (e := [(7, .t (.hvw (cd 2 i2) 0 62 1 x3.l_.length))]) (g0 rfl) (h_ld (Mk.refl _) rfl rfl rfl rfl (gl_space h4) rfl rfl rfl rfl) rfl ?_
    refine o_s (.t (.d (.lit (.int .i64 p1)))) (g0 rfl) rfl rfl rfl ?_
    refine o_s (.t (.d (.lit (.int .i64 (wi (Int.tdiv p1 64)))))) (g0 rfl) rfl rfl rfl ?_
    obtain ⟨x5, h6, h⟩ := bind_some h
    refine o_of (e := [(10, .t (.hpt (cd 2 i2) (0 + Int.toNat (wi (Int.tdiv p1 64)) * 1)))]) (g0 rfl) (h_ix (Mk.refl _) rfl rfl rfl rfl (idxV rfl h6) rfl rfl rfl) rfl ?_
    refine o_of (e := [(11, .t (.d (.lit (.int .u64 x5))))]) (g0 rfl) (h_ld (Mk.refl _) rfl rfl rfl rfl (gl_space_l h4) (fl_at h6 rfl (fun _ => rfl)) rfl rfl rfl) rfl ?_
    refine o_s (.t (.d (.lit (.int .i64 p1)))) (g0 rfl) rfl rfl rfl ?_
    refine o_s (.t (.d (.lit (.int .i64 (Int.tmod p1 64))))) (g0 rfl) rfl rfl rfl ?_
    refine o_s (.t (.d (.lit (.int .u64 (IntKind.u64.wrap (Int.tmod p1 64)))))) (g0 rfl) rfl rfl rfl ?_
    obtain ⟨x7, h8, h⟩ := bind_some h
    refine o_b (.t (.d (.lit (.int .u64 x7)))) (shlIE h8) (g0 rfl) rfl rfl rfl rfl rfl rfl rfl ?_
    refine o_s (.t (.d (.lit (.int .u64 (IntKind.u64.wrap ((((BitVec.ofInt IntKind.u64.bits x5) ^^^ (BitVec.ofInt IntKind.u64.bits x7)).toNat : Nat) : Int)))))) (g0 rfl) rfl rfl rfl ?_
    obtain ⟨x9, h10, h⟩ := bind_some h
    refine o_of (e := [(17, .t (.hpt (cd 2 i2) (0 + Int.toNat (wi (Int.tdiv p1 64)) * 1)))]) (g0 rfl) (h_ix (Mk.refl _) rfl rfl rfl rfl (idxV rfl h10) rfl rfl rfl) rfl ?_
    refine o_of (e := [(HK, .hp (hpA (w0.st_space i2 (S_space_Space.mk x3.n_ x3.free_ (x3.l_.set (Int.toNat (wi (Int.tdiv p1 64))) (IntKind.u64.wrap ((((BitVec.ofInt IntKind.u64.bits x5) ^^^ (BitVec.ofInt IntKind.u64.bits x7)).toNat : Nat) : Int))) x3.is_))))]) (g0 rfl) (h_st (Mk.refl _) rfl rfl rfl rfl rfl (gl_space_l h4) rfl rfl (fl_room h10 (fun _ => rfl)) (fl_put h10 (IntKind.u64.wrap ((((BitVec.ofInt IntKind.u64.bits x5) ^^^ (BitVec.ofInt IntKind.u64.bits x7)).toNat : Nat) : Int)) (fun _ => rfl) rfl) (su_space_l (x' := (S_space_Space.mk x3.n_ x3.free_ (x3.l_.set (Int.toNat (wi (Int.tdiv p1 64))) (IntKind.u64.wrap ((((BitVec.ofInt IntKind.u64.bits x5) ^^^ (BitVec.ofInt IntKind.u64.bits x7)).toNat : Nat) : Int))) x3.is_)) h4 (by simp [hc_space]))) rfl ?_
    refine o_nil ?_
    repeat (first | refine then_normal ?_ | refine then_exit ?_ | refine then_ret ?_ | refine block_normal ?_ | refine block_ret ?_ | refine block_exit ?_ | refine block_pass rfl ?_)
    refine c_seq ?_
    refine c_region ?_
    refine o_of (e := [(18, .t (.hpt (cd 1 i2) 0))]) (g0 rfl) (h_mv (Mk.refl _) (.inl rfl) ((cpO_pt rfl).trans (pt_eq_some h1)) rfl rfl) rfl ?_
    refine o_s (.t (.d (.lit (.int .i64 p1)))) (g0 rfl) rfl rfl rfl ?_
    obtain ⟨x11, h12, h⟩ := bind_some h
    refine o_of (e := [(HK, .hp (hpA x11.2)), (20, .t (.d (.lit (.bool x11.1))))]) (g0 rfl) (h_call (Mk.refl _) rfl (σ := []) (fr := []) rfl rfl rfl rfl rfl rfl rfl (fch_space_Space_Has _ _ (w0.st_space i2 (S_space_Space.mk x3.n_ x3.free_ (x3.l_.set (Int.toNat (wi (Int.tdiv p1 64))) (IntKind.u64.wrap ((((BitVec.ofInt IntKind.u64.bits x5) ^^^ (BitVec.ofInt IntKind.u64.bits x7)).toNat : Nat) : Int))) x3.is_)) _ h12) (pure_hpA _) (pure_hpA _) rfl rfl rfl rfl (.cons (.hpt _ _) (.cons (.plain (.refl _) rfl) .nil)) rfl (.t (.flat rfl))) rfl ?_
    refine o_nil ?_
    repeat (first | refine then_normal ?_ | refine then_exit ?_ | refine then_ret ?_ | refine block_normal ?_ | refine block_ret ?_ | refine block_exit ?_ | refine block_pass rfl ?_)
    rcases bif_some h with ⟨h13, h⟩ | ⟨h13, h⟩
    · refine c_t h13 rfl ?_
      refine c_region ?_
      refine o_of (e := [(21, .t (.hpt (cd 1 i2) 0))]) (g0 rfl) (h_mv (Mk.refl _) (.inl rfl) ((cpO_pt rfl).trans (pt_eq_some h1)) rfl rfl) rfl ?_
      refine o_of (e := [(22, .t (.hpt (cd 1 i2) 0))]) (g0 rfl) (h_nc (Mk.refl _) rfl rfl rfl rfl rfl) rfl ?_
      refine o_of (e := [(23, .t (.hpt (cd 1 i2) 1))]) (g0 rfl) (h_fd (Mk.refl _) rfl rfl rfl rfl rfl rfl) rfl ?_
      obtain ⟨x14, h15, h⟩ := bind_some h
      refine o_of (e := [(24, .t (.d (.lit (.int .i64 x14.free_))))]) (g0 rfl) (h_ld (Mk.refl _) rfl rfl rfl rfl (gl_space h15) rfl rfl rfl rfl) rfl ?_
      refine o_s (.t (.d (.lit (.int .i64 (wi (x14.free_ + 1)))))) (g0 rfl) rfl rfl rfl ?_
      refine o_of (e := [(26, .t (.hpt (cd 1 i2) 0))]) (g0 rfl) (h_nc (Mk.refl _) rfl rfl rfl rfl rfl) rfl ?_
      refine o_of (e := [(27, .t (.hpt (cd 1 i2) 1))]) (g0 rfl) (h_fd (Mk.refl _) rfl rfl rfl rfl rfl rfl) rfl ?_
      refine o_of (e := [(HK, .hp (hpA (x11.2.st_space i2 (S_space_Space.mk x14.n_ (wi (x14.free_ + 1)) x14.l_ x14.is_))))]) (g0 rfl) (h_st (Mk.refl _) rfl rfl rfl rfl rfl (gl_space h15) rfl rfl (Nat.le_of_ble_eq_true rfl) rfl (su_space (x' := (S_space_Space.mk x14.n_ (wi (x14.free_ + 1)) x14.l_ x14.is_)) h15 rfl)) rfl ?_
      refine o_nil ?_
      repeat (first | refine then_normal ?_ | refine then_exit ?_ | refine then_ret ?_ | refine block_normal ?_ | refine block_ret ?_ | refine block_exit ?_ | refine block_pass rfl ?_)
      obtain rfl := Option.some.inj h
      exact ⟨⟨_, rfl, (.refl _)⟩, trivial, rfl⟩
    · refine c_f h13 rfl ?_
      refine c_region ?_
      refine o_of (e := [(28, .t (.hpt (cd 1 i2) 0))]) (g0 rfl) (h_mv (Mk.refl _) (.inl rfl) ((cpO_pt rfl).trans (pt_eq_some h1)) rfl rfl) rfl ?_
      refine o_of (e := [(29, .t (.hpt (cd 1 i2) 0))]) (g0 rfl) (h_nc (Mk.refl _) rfl rfl rfl rfl rfl) rfl ?_
      refine o_of (e := [(30, .t (.hpt (cd 1 i2) 1))]) (g0 rfl) (h_fd (Mk.refl _) rfl rfl rfl rfl rfl rfl) rfl ?_
      obtain ⟨x16, h17, h⟩ := bind_some h
      refine o_of (e := [(31, .t (.d (.lit (.int .i64 x16.free_))))]) (g0 rfl) (h_ld (Mk.refl _) rfl rfl rfl rfl (gl_space h17) rfl rfl rfl rfl) rfl ?_
      refine o_s (.t (.d (.lit (.int .i64 (wi (x16.free_ - 1)))))) (g0 rfl) rfl rfl rfl ?_
      refine o_of (e := [(33, .t (.hpt (cd 1 i2) 0))]) (g0 rfl) (h_nc (Mk.refl _) rfl rfl rfl rfl rfl) rfl ?_
      refine o_of (e := [(34, .t (.hpt (cd 1 i2) 1))]) (g0 rfl) (h_fd (Mk.refl _) rfl rfl rfl rfl rfl rfl) rfl ?_
      refine o_of (e := [(HK, .hp (hpA (x11.2.st_space i2 (S_space_Space.mk x16.n_ (wi (x16.free_ - 1)) x16.l_ x16.is_))))]) (g0 rfl) (h_st (Mk.refl _) rfl rfl rfl rfl rfl (gl_space h17) rfl rfl (Nat.le_of_ble_eq_true rfl) rfl (su_space (x' := (S_space_Space.mk x16.n_ (wi (x16.free_ - 1)) x16.l_ x16.is_)) h17 rfl)) rfl ?_
      refine o_nil ?_
      repeat (first | refine then_normal ?_ | refine then_exit ?_ | refine then_ret ?_ | refine block_normal ?_ | refine block_ret ?_ | refine block_exit ?_ | refine block_pass rfl ?_)
      obtain rfl := Option.some.inj h
      exact ⟨⟨_, rfl, (.refl _)⟩, trivial, rfl⟩

theorem fch_space_Space_Take (p0 : (Option Nat)) (p1 : Int) (w0 : Hp) (r : ((List Int) × Int × Hp)) (h : m_space_Space_Take p0 p1 w0 = some r) : FCH Tryd.prog 11 [.t ((ptT 1 p0)), .t (.d (.lit (.int .i64 p1)))] [] [] (hpA w0) (hpA r.2.2) (.tup [.d (.seq 1 (List.map cI64 r.1)), .d (.lit (.int .i64 r.2.1))]) := by
  refine fch_mk (rs := [.tmp 4, .tmp 5]) (n := 59) [] Tryd.func11 rfl rfl (Nat.le_of_ble_eq_true rfl) rfl (pins := []) rfl (L := [(HK, .hp (hpA w0)), (0, .t ((ptT 1 p0))), (1, .t (.d (.lit (.int .i64 p1))))]) rfl ?_
  refine c_seq ?_
  refine c_region ?_
  refine o_s (.t (.d (.lit (.slice none 0 0)))) (g0 rfl) rfl rfl rfl ?_
  refine o_s (.t (.d (.lit (.int .i64 0)))) (g0 rfl) rfl rfl rfl ?_
  refine o_nil ?_
  repeat (first | refine then_normal ?_ | refine then_exit ?_ | refine then_ret ?_ | refine block_normal ?_ | refine block_ret ?_ | refine block_exit ?_ | refine block_pass rfl ?_)
  refine c_seq ?_
  refine c_block ?_
  refine c_cutH (fun (y1 : Bool) => [(0, .t ((ptT 1 p0))), (1, .t (.d (.lit (.int .i64 p1)))), (10, .t (.d (.lit (.bool y1)))), (HK, .hp (hpA w0))]) (fun (y1 : Bool) => m_space_Space_Take_j1 w0 p1 p0 y1 = some r) ?_ ?_
  · refine c_region ?_
    refine o_of (e := [(11, .t ((ptT 1 p0)))]) (g0 rfl) (h_mv (Mk.refl _) (.inl rfl) (cpO_pt rfl) rfl rfl) rfl ?_
    rcases ptM_some h with ⟨h26, h⟩ | ⟨i27, h26, h⟩
    · refine o_of (e := [(12, .t (.d (.lit (.bool true))))]) (g0 rfl) (h_pn (Mk.refl _) (ng := false) rfl rfl rfl (pn_none rfl h26) rfl rfl) rfl ?_
      refine o_s (.t (.d (.lit (.bool true)))) (g0 rfl) rfl rfl rfl ?_
      refine o_skip rfl rfl rfl rfl rfl rfl ?_
      refine o_skip rfl rfl rfl rfl rfl rfl ?_
      refine o_skip rfl rfl rfl rfl rfl rfl ?_
      refine o_skip rfl rfl rfl rfl rfl rfl ?_
      refine o_skip rfl rfl rfl rfl rfl rfl ?_
      refine o_pk (.t (.d (.lit (.bool true)))) (b := true) rfl (g0 rfl) rfl rfl rfl rfl rfl ?_
      refine o_s (.t (.d (.lit (.bool true)))) (g0 rfl) rfl rfl rfl ?_
      refine o_nil ?_
      repeat (first | refine then_normal ?_ | refine then_exit ?_ | refine then_ret ?_ | refine block_normal ?_ | refine block_ret ?_ | refine block_exit ?_ | refine block_pass rfl ?_)
      exact ⟨true, [], h, rfl, ⟨.inr ⟨_, rfl, pure_hpA _⟩, by (repeat (first | exact ObP.nil | refine ObP.cons (.inl rfl) ?_ | refine ObP.cons (.inr (fun _ => rfl)) ?_ | refine ObP.cons (.inr (ob_box (fl_noPt _ _))) ?_ | refine ObP.cons (.inr (ob_gb _ _)) ?_))⟩, ⟨(.refl _), ⟨(.refl _), ⟨(.refl _), ⟨(.refl _), trivial⟩⟩⟩⟩, rfl⟩
    · refine o_of (e := [(12, .t (.d (.lit (.bool false))))]) (g0 rfl) (h_pn (Mk.refl _) (ng := false) rfl rfl rfl (pn_some rfl h26) rfl rfl) rfl ?_
      refine o_s (.t (.d (.lit (.bool false)))) (g0 rfl) rfl rfl rfl ?_
      refine o_of (e := [(14, .t (.hpt (cd 1 i27) 0))]) (gy rfl rfl rfl rfl) (h_mv (Mk.refl _) (.inl rfl) ((cpO_pt rfl).trans (pt_eq_some h26)) rfl rfl) rfl ?_
      refine o_of (e := [(15, .t (.hpt (cd 1 i27) 0))]) (gy rfl rfl rfl rfl) (h_nc (Mk.refl _) rfl rfl rfl rfl rfl) rfl ?_
      refine o_of (e := [(16, .t (.hpt (cd 1 i27) 3))]) (gy rfl rfl rfl rfl) (h_fd (Mk.refl _) rfl rfl rfl rfl rfl rfl) rfl ?_
      obtain ⟨x28, h29, h⟩ := bind_some h
      refine o_of (e := [(17, .t (.d (.lit (.bool x28.is_))))]) (gy rfl rfl rfl rfl) (h_ld (Mk.refl _) rfl rfl rfl rfl (gl_space h29) rfl rfl rfl rfl) rfl ?_
      refine o_s (.t (.d (.lit (.bool (!x28.is_))))) (gy rfl rfl rfl rfl) rfl rfl rfl ?_
      refine o_pk (.t (.d (.lit (.bool (!x28.is_))))) (b := false) rfl (g0 rfl) rfl rfl rfl rfl rfl ?_
      refine o_s (.t (.d (.lit (.bool (!x28.is_))))) (g0 rfl) rfl rfl rfl ?_
      refine o_nil ?_
      repeat (first | refine then_normal ?_ | refine then_exit ?_ | refine then_ret ?_ | refine block_normal ?_ | refine block_ret ?_ | refine block_exit ?_ | refine block_pass rfl ?_)
      exact ⟨(!x28.is_), [], h, rfl, ⟨.inr ⟨_, rfl, pure_hpA _⟩, by (repeat (first | exact ObP.nil | refine ObP.cons (.inl rfl) ?_ | refine ObP.cons (.inr (fun _ => rfl)) ?_ | refine ObP.cons (.inr (ob_box (fl_noPt _ _))) ?_ | refine ObP.cons (.inr (ob_gb _ _)) ?_))⟩, ⟨(.refl _), ⟨(.refl _), ⟨(.refl _), ⟨(.refl _), trivial⟩⟩⟩⟩, rfl⟩
  · rintro y1 h
    rcases bif_some h with ⟨h2, h⟩ | ⟨h2, h⟩
    · refine c_t h2 rfl ?_
      refine c_seq ?_
      refine c_region ?_
      refine o_s (.t (.d (.lit (.slice none 0 0)))) (g0 rfl) rfl rfl rfl ?_
      refine o_s (.t (.d (.lit (.int .i64 1)))) (g0 rfl) rfl rfl rfl ?_
      refine o_nil ?_
      repeat (first | refine then_normal ?_ | refine then_exit ?_ | refine then_ret ?_ | refine block_normal ?_ | refine block_ret ?_ | refine block_exit ?_ | refine block_pass rfl ?_)
      refine c_ret ?_
      repeat (first | refine then_normal ?_ | refine then_exit ?_ | refine then_ret ?_ | refine block_normal ?_ | refine block_ret ?_ | refine block_exit ?_ | refine block_pass rfl ?_)
      obtain rfl := Option.some.inj h
      exact ⟨⟨_, rfl, (.tup (.cons (.d (.nil _)) (.cons (.refl _) .nil)))⟩, trivial, rfl⟩
    · refine c_f h2 rfl ?_
      refine c_seq ?_
      refine c_region ?_
      refine o_s (.t (.d (.lit (.int .i64 p1)))) (g0 rfl) rfl rfl rfl ?_
      refine o_s (.t (.d (.lit (.bool (decide (p1 < 0)))))) (g0 rfl) rfl rfl rfl ?_
      refine o_s (.t (.d (.lit (.bool (decide (p1 < 0)))))) (g0 rfl) rfl rfl rfl ?_
      refine o_nil ?_
      repeat (first | refine then_normal ?_ | refine then_exit ?_ | refine then_ret ?_ | refine block_normal ?_ | refine block_ret ?_ | refine block_exit ?_ | refine block_pass rfl ?_)
      rcases bif_some h with ⟨h3, h⟩ | ⟨h3, h⟩
      · refine c_t h3 rfl ?_
        refine c_seq ?_
        refine c_region ?_
        refine o_s (.t (.d (.lit (.slice none 0 0)))) (g0 rfl) rfl rfl rfl ?_
        refine o_s (.t (.d (.lit (.int .i64 2)))) (g0 rfl) rfl rfl rfl ?_
        refine o_nil ?_
        repeat (first | refine then_normal ?_ | refine then_exit ?_ | refine then_ret ?_ | refine block_normal ?_ | refine block_ret ?_ | refine block_exit ?_ | refine block_pass rfl ?_)
        refine c_ret ?_
        repeat (first | refine then_normal ?_ | refine then_exit ?_ | refine then_ret ?_ | refine block_normal ?_ | refine block_ret ?_ | refine block_exit ?_ | refine block_pass rfl ?_)
        obtain rfl := Option.some.inj h
        exact ⟨⟨_, rfl, (.tup (.cons (.d (.nil _)) (.cons (.refl _) .nil)))⟩, trivial, rfl⟩
      · refine c_f h3 rfl ?_
        refine c_seq ?_
        refine c_region ?_
        refine o_s (.t (.d (.lit (.int .i64 p1)))) (g0 rfl) rfl rfl rfl ?_
        refine o_of (e := [(25, .t ((ptT 1 p0)))]) (g0 rfl) (h_mv (Mk.refl _) (.inl rfl) (cpO_pt rfl) rfl rfl) rfl ?_
        rcases ptM_some h with ⟨h4, h⟩ | ⟨i5, h4, h⟩
        · exact none_ne h
        · refine o_of (e := [(26, .t (.hpt (cd 1 i5) 0))]) (g0 rfl) (h_nc (Mk.refl _) rfl (cpO_pt rfl) (ptT_some h4) rfl rfl) rfl ?_
          refine o_of (e := [(27, .t (.hpt (cd 1 i5) 1))]) (g0 rfl) (h_fd (Mk.refl _) rfl rfl rfl rfl rfl rfl) rfl ?_
          obtain ⟨x6, h7, h⟩ := bind_some h
          refine o_of (e := [(28, .t (.d (.lit (.int .i64 x6.free_))))]) (g0 rfl) (h_ld (Mk.refl _) rfl rfl rfl rfl (gl_space h7) rfl rfl rfl rfl) rfl ?_
          refine o_s (.t (.d (.lit (.bool (decide (p1 > x6.free_)))))) (g0 rfl) rfl rfl rfl ?_
          refine o_s (.t (.d (.lit (.bool (decide (p1 > x6.free_)))))) (g0 rfl) rfl rfl rfl ?_
          refine o_nil ?_
          repeat (first | refine then_normal ?_ | refine then_exit ?_ | refine then_ret ?_ | refine block_normal ?_ | refine block_ret ?_ | refine block_exit ?_ | refine block_pass rfl ?_)
          rcases bif_some h with ⟨h8, h⟩ | ⟨h8, h⟩
          · refine c_t h8 rfl ?_
            refine c_seq ?_
            refine c_region ?_
            refine o_s (.t (.d (.lit (.slice none 0 0)))) (g0 rfl) rfl rfl rfl ?_
            refine o_s (.t (.d (.lit (.int .i64 32)))) (g0 rfl) rfl rfl rfl ?_
            refine o_nil ?_
            repeat (first | refine then_normal ?_ | refine then_exit ?_ | refine then_ret ?_ | refine block_normal ?_ | refine block_ret ?_ | refine block_exit ?_ | refine block_pass rfl ?_)
            refine c_ret ?_
            repeat (first | refine then_normal ?_ | refine then_exit ?_ | refine then_ret ?_ | refine block_normal ?_ | refine block_ret ?_ | refine block_exit ?_ | refine block_pass rfl ?_)
            obtain rfl := Option.some.inj h
            exact ⟨⟨_, rfl, (.tup (.cons (.d (.nil _)) (.cons (.refl _) .nil)))⟩, trivial, rfl⟩
          · refine c_f h8 rfl ?_
            refine c_skip ?_
            repeat (first | refine then_normal ?_ | refine then_exit ?_ | refine then_ret ?_ | refine block_normal ?_ | refine block_ret ?_ | refine block_exit ?_ | refine block_pass rfl ?_)
            refine c_seq ?_
            refine c_region ?_
            refine o_s (.t (.d (.lit (.slice none 0 0)))) (g0 rfl) rfl rfl rfl ?_
            refine o_nil ?_
            repeat (first | refine then_normal ?_ | refine then_exit ?_ | refine then_ret ?_ | refine block_normal ?_ | refine block_ret ?_ | refine block_exit ?_ | refine block_pass rfl ?_)
            refine c_cutH (fun (q : (List Int) × Hp) => [(6, .t (.own 3 1 (List.map cI64 q.1))), (HK, .hp (hpA q.2))]) (fun (q : (List Int) × Hp) => m_space_Space_Take_j2 q.1 q.2 = some r) ?_ ?_
            · refine c_seq ?_
              refine c_region ?_
              refine o_s (.t (.d (.lit (.int .i64 0)))) (g0 rfl) rfl rfl rfl ?_
              refine o_nil ?_
              repeat (first | refine then_normal ?_ | refine then_exit ?_ | refine then_ret ?_ | refine block_normal ?_ | refine block_ret ?_ | refine block_exit ?_ | refine block_pass rfl ?_)
              refine c_block ?_
              refine c_fuelH (fun (q : (List Int) × Int × Hp) => [(0, .t ((ptT 1 p0))), (1, .t (.d (.lit (.int .i64 p1)))), (6, .t (.own 3 1 (List.map cI64 q.1))), (7, .t (.d (.lit (.int .i64 q.2.1)))), (HK, .hp (hpA q.2.2))]) (fun nl3 => (fun (q : (List Int) × Int × Hp) => m_space_Space_Take_l3 p1 i5 nl3 q.1 q.2.1 q.2.2 = some r)) (Int.toNat p1 + 300) ([], 0, w0) [] h rfl ⟨.inr ⟨_, rfl, pure_hpA _⟩, by (repeat (first | exact ObP.nil | refine ObP.cons (.inl rfl) ?_ | refine ObP.cons (.inr (fun _ => rfl)) ?_ | refine ObP.cons (.inr (ob_box (fl_noPt _ _))) ?_ | refine ObP.cons (.inr (ob_gb _ _)) ?_))⟩ ⟨(.refl _), ⟨(.refl _), ⟨(.t (.nilOwn _ _)), ⟨(.refl _), ⟨(.refl _), trivial⟩⟩⟩⟩⟩ rfl ?_
              rintro nl3 ⟨z11, z12, z13⟩ h
              cases nl3 with
              | zero => exact none_ne h
              | succ nl3 =>
                refine c_seq ?_
                refine c_seq ?_
                refine c_region ?_
                refine o_s (.t (.d (.seq 1 (List.map cI64 z11)))) (g0 rfl) rfl rfl rfl ?_
                refine o_c (g0 rfl) rfl rfl rfl (lenE _ _) trivial ?_
                refine o_s (.t (.d (.lit (.int .i64 p1)))) (g0 rfl) rfl rfl rfl ?_
                refine o_s (.t (.d (.lit (.bool (decide ((z11.length : Int) < p1)))))) (g0 rfl) rfl rfl rfl ?_
                refine o_nil ?_
                repeat (first | refine then_normal ?_ | refine then_exit ?_ | refine then_ret ?_ | refine block_normal ?_ | refine block_ret ?_ | refine block_exit ?_ | refine block_pass rfl ?_)
                rcases bif_some h with ⟨h14, h⟩ | ⟨h14, h⟩
                · refine c_t h14 rfl ?_
                  refine c_skip ?_
                  repeat (first | refine then_normal ?_ | refine then_exit ?_ | refine then_ret ?_ | refine block_normal ?_ | refine block_ret ?_ | refine block_exit ?_ | refine block_pass rfl ?_)
                  refine c_block ?_
                  refine c_seq ?_
                  refine c_seq ?_
                  refine c_region ?_
                  refine o_of (e := [(34, .t (.hpt (cd 1 i5) 0))]) (g0 rfl) (h_mv (Mk.refl _) (.inl rfl) ((cpO_pt rfl).trans (pt_eq_some h4)) rfl rfl) rfl ?_
                  refine o_of (e := [(35, .t (.hpt (cd 1 i5) 0))]) (g0 rfl) (h_nc (Mk.refl _) rfl rfl rfl rfl rfl) rfl ?_
                  refine o_of (e := [(36, .t (.hpt (cd 1 i5) 2))]) (g0 rfl) (h_fd (Mk.refl _) rfl rfl rfl rfl rfl rfl) rfl ?_
                  obtain ⟨x15, h16, h⟩ := bind_some h
                  refine o_of (e := [(37, .t (.hvw (cd 2 i5) 0 62 1 x15.l_.length))]) (g0 rfl) (h_ld (Mk.refl _) rfl rfl rfl rfl (gl_space h16) rfl rfl rfl rfl) rfl ?_
                  refine o_s (.t (.d (.lit (.int .i64 z12)))) (g0 rfl) rfl rfl rfl ?_
                  obtain ⟨x17, h18, h⟩ := bind_some h
                  refine o_of (e := [(39, .t (.hpt (cd 2 i5) (0 + Int.toNat z12 * 1)))]) (g0 rfl) (h_ix (Mk.refl _) rfl rfl rfl rfl (idxV rfl h18) rfl rfl rfl) rfl ?_
                  refine o_of (e := [(40, .t (.d (.lit (.int .u64 x17))))]) (g0 rfl) (h_ld (Mk.refl _) rfl rfl rfl rfl (gl_space_l h16) (fl_at h18 rfl (fun _ => rfl)) rfl rfl rfl) rfl ?_
                  refine o_s (.t (.d (.lit (.int .u64 (IntKind.u64.wrap ((((BitVec.ofInt IntKind.u64.bits 18446744073709551615) ^^^ (BitVec.ofInt IntKind.u64.bits x17)).toNat : Nat) : Int)))))) (g0 rfl) rfl rfl rfl ?_
                  refine o_s (.t (.d (.lit (.int .u64 (IntKind.u64.wrap ((((BitVec.ofInt IntKind.u64.bits 18446744073709551615) ^^^ (BitVec.ofInt IntKind.u64.bits x17)).toNat : Nat) : Int)))))) (g0 rfl) rfl rfl rfl ?_
                  refine o_nil ?_
                  repeat (first | refine then_normal ?_ | refine then_exit ?_ | refine then_ret ?_ | refine block_normal ?_ | refine block_ret ?_ | refine block_exit ?_ | refine block_pass rfl ?_)
                  refine c_seq ?_
                  refine c_region ?_
                  refine o_s (.t (.d (.lit (.int .u64 (IntKind.u64.wrap ((((BitVec.ofInt IntKind.u64.bits 18446744073709551615) ^^^ (BitVec.ofInt IntKind.u64.bits x17)).toNat : Nat) : Int)))))) (g0 rfl) rfl rfl rfl ?_
                  refine o_s (.t (.d (.lit (.bool ((IntKind.u64.wrap ((((BitVec.ofInt IntKind.u64.bits 18446744073709551615) ^^^ (BitVec.ofInt IntKind.u64.bits x17)).toNat : Nat) : Int)) != 0))))) (g0 rfl) rfl rfl rfl ?_
                  refine o_nil ?_
                  repeat (first | refine then_normal ?_ | refine then_exit ?_ | refine then_ret ?_ | refine block_normal ?_ | refine block_ret ?_ | refine block_exit ?_ | refine block_pass rfl ?_)
                  rcases bif_some h with ⟨h19, h⟩ | ⟨h19, h⟩
                  · refine c_t h19 rfl ?_
                    refine c_seq ?_
                    refine c_region ?_
                    refine o_s (.t (.d (.lit (.int .i64 z12)))) (g0 rfl) rfl rfl rfl ?_
                    refine o_s (.t (.d (.lit (.int .i64 (wi (64 * z12)))))) (g0 rfl) rfl rfl rfl ?_
                    refine o_s (.t (.d (.lit (.int .u64 (IntKind.u64.wrap ((((BitVec.ofInt IntKind.u64.bits 18446744073709551615) ^^^ (BitVec.ofInt IntKind.u64.bits x17)).toNat : Nat) : Int)))))) (g0 rfl) rfl rfl rfl ?_
                    obtain ⟨x20, h21, h⟩ := bind_some h
                    refine o_ca (fc_math_bits_TrailingZeros64 _ _ h21) (g0 rfl) rfl rfl rfl rfl rfl rfl rfl (.cons (.refl _) .nil) rfl rfl ?_
                    refine o_s (.t (.d (.lit (.int .i64 (wi ((wi (64 * z12)) + x20)))))) (g0 rfl) rfl rfl rfl ?_
                    refine o_s (.t (.d (.lit (.int .i64 (wi ((wi (64 * z12)) + x20)))))) (g0 rfl) rfl rfl rfl ?_
                    refine o_nil ?_
                    repeat (first | refine then_normal ?_ | refine then_exit ?_ | refine then_ret ?_ | refine block_normal ?_ | refine block_ret ?_ | refine block_exit ?_ | refine block_pass rfl ?_)
                    refine c_seq ?_
                    refine c_region ?_
                    refine o_of (e := [(49, .t (.hpt (cd 1 i5) 0))]) (g0 rfl) (h_mv (Mk.refl _) (.inl rfl) ((cpO_pt rfl).trans (pt_eq_some h4)) rfl rfl) rfl ?_
                    refine o_s (.t (.d (.lit (.int .i64 (wi ((wi (64 * z12)) + x20)))))) (g0 rfl) rfl rfl rfl ?_
                    obtain ⟨x22, h23, h⟩ := bind_some h
                    refine o_of (e := [(HK, .hp (hpA x22)), (51, .tup [])]) (g0 rfl) (h_call (Mk.refl _) rfl (σ := []) (fr := []) rfl rfl rfl rfl rfl rfl rfl (fch_space_Space_turn _ _ z13 _ h23) (pure_hpA _) (pure_hpA _) rfl rfl rfl rfl (.cons (.hpt _ _) (.cons (.plain (.refl _) rfl) .nil)) rfl (.tup .nil)) rfl ?_
                    refine o_nil ?_
                    repeat (first | refine then_normal ?_ | refine then_exit ?_ | refine then_ret ?_ | refine block_normal ?_ | refine block_ret ?_ | refine block_exit ?_ | refine block_pass rfl ?_)
                    refine c_seq ?_
                    refine c_region ?_
                    refine o_2 (.t (.d (.seq 1 (List.map cI64 z11)))) (.t (.own 3 1 (List.map cI64 z11))) (g0 rfl) rfl rfl rfl ?_
                    refine o_s (.t (.d (.lit (.int .i64 (wi ((wi (64 * z12)) + x20)))))) (g0 rfl) rfl rfl rfl ?_
                    refine o_s (.t (.own 3 1 (List.map cI64 [(wi ((wi (64 * z12)) + x20))]))) (g0 rfl) rfl rfl rfl ?_
                    obtain ⟨x24, h25, h⟩ := bind_some h
                    refine o_2c (g0 rfl) rfl rfl rfl (appE (c := cI64) h25) (appC (c := cI64) h25) ?_
                    refine o_2 (.t (.d (.seq 1 (List.map cI64 x24)))) (.t (.own 3 1 (List.map cI64 x24))) (g0 rfl) rfl rfl rfl ?_
                    refine o_nil ?_
                    repeat (first | refine then_normal ?_ | refine then_exit ?_ | refine then_ret ?_ | refine block_normal ?_ | refine block_ret ?_ | refine block_exit ?_ | refine block_pass rfl ?_)
                    refine c_exit ?_
                    repeat (first | refine then_normal ?_ | refine then_exit ?_ | refine then_ret ?_ | refine block_normal ?_ | refine block_ret ?_ | refine block_exit ?_ | refine block_pass rfl ?_)
                    exact ⟨nl3, (x24, z12, x22), [], Nat.lt_succ_self nl3, h, rfl, ⟨.inr ⟨_, rfl, pure_hpA _⟩, by (repeat (first | exact ObP.nil | refine ObP.cons (.inl rfl) ?_ | refine ObP.cons (.inr (fun _ => rfl)) ?_ | refine ObP.cons (.inr (ob_box (fl_noPt _ _))) ?_ | refine ObP.cons (.inr (ob_gb _ _)) ?_))⟩, ⟨(.refl _), ⟨(.refl _), ⟨(.refl _), ⟨(.refl _), ⟨(.refl _), trivial⟩⟩⟩⟩⟩, rfl⟩
                  · refine c_f h19 rfl ?_
                    refine c_skip ?_
                    repeat (first | refine then_normal ?_ | refine then_exit ?_ | refine then_ret ?_ | refine block_normal ?_ | refine block_ret ?_ | refine block_exit ?_ | refine block_pass rfl ?_)
                    refine c_region ?_
                    refine o_s (.t (.d (.lit (.int .i64 z12)))) (g0 rfl) rfl rfl rfl ?_
                    refine o_s (.t (.d (.lit (.int .i64 (wi (z12 + 1)))))) (g0 rfl) rfl rfl rfl ?_
                    refine o_s (.t (.d (.lit (.int .i64 (wi (z12 + 1)))))) (g0 rfl) rfl rfl rfl ?_
                    refine o_nil ?_
                    repeat (first | refine then_normal ?_ | refine then_exit ?_ | refine then_ret ?_ | refine block_normal ?_ | refine block_ret ?_ | refine block_exit ?_ | refine block_pass rfl ?_)
                    exact ⟨nl3, (z11, (wi (z12 + 1)), z13), [], Nat.lt_succ_self nl3, h, rfl, ⟨.inr ⟨_, rfl, pure_hpA _⟩, by (repeat (first | exact ObP.nil | refine ObP.cons (.inl rfl) ?_ | refine ObP.cons (.inr (fun _ => rfl)) ?_ | refine ObP.cons (.inr (ob_box (fl_noPt _ _))) ?_ | refine ObP.cons (.inr (ob_gb _ _)) ?_))⟩, ⟨(.refl _), ⟨(.refl _), ⟨(.refl _), ⟨(.refl _), ⟨(.refl _), trivial⟩⟩⟩⟩⟩, rfl⟩
                · refine c_f h14 rfl ?_
                  refine c_exit ?_
                  repeat (first | refine then_normal ?_ | refine then_exit ?_ | refine then_ret ?_ | refine block_normal ?_ | refine block_ret ?_ | refine block_exit ?_ | refine block_pass rfl ?_)
                  exact ⟨(z11, z13), [], h, rfl, ⟨.inr ⟨_, rfl, pure_hpA _⟩, by (repeat (first | exact ObP.nil | refine ObP.cons (.inl rfl) ?_ | refine ObP.cons (.inr (fun _ => rfl)) ?_ | refine ObP.cons (.inr (ob_box (fl_noPt _ _))) ?_ | refine ObP.cons (.inr (ob_gb _ _)) ?_))⟩, ⟨(.refl _), ⟨(.refl _), trivial⟩⟩, rfl⟩
            · rintro ⟨y9, y10⟩ h
              refine c_seq ?_
              refine c_region ?_
              refine o_2 (.t (.d (.seq 1 (List.map cI64 y9)))) (.t (.own 3 1 (List.map cI64 y9))) (g0 rfl) rfl rfl rfl ?_
              refine o_2 (.t (.d (.seq 1 (List.map cI64 y9)))) (.t (.own 3 1 (List.map cI64 y9))) (g0 rfl) rfl rfl rfl ?_
              refine o_s (.t (.d (.lit (.int .i64 0)))) (g0 rfl) rfl rfl rfl ?_
              refine o_nil ?_
              repeat (first | refine then_normal ?_ | refine then_exit ?_ | refine then_ret ?_ | refine block_normal ?_ | refine block_ret ?_ | refine block_exit ?_ | refine block_pass rfl ?_)
              refine c_ret ?_
              repeat (first | refine then_normal ?_ | refine then_exit ?_ | refine then_ret ?_ | refine block_normal ?_ | refine block_ret ?_ | refine block_exit ?_ | refine block_pass rfl ?_)
              obtain rfl := Option.some.inj h
              exact ⟨⟨_, rfl, (.tup (.cons (.refl _) (.cons (.refl _) .nil)))⟩, trivial, rfl⟩

theorem fch_space_Space_all (p0 : (Option Nat)) (p1 : (List Int)) (p2 : Bool) (w0 : Hp) (r : (Int × Hp)) (h : m_space_Space_all p0 p1 p2 w0 = some r) : FCH Tryd.prog 29 [.t ((ptT 1 p0)), .t (.d (.seq 1 (List.map cI64 p1))), .t (.d (.lit (.bool p2)))] [] [] (hpA w0) (hpA r.2) (.t (.d (.lit (.int .i64 r.1)))) := by
  refine fch_mk (rs := [.tmp 6]) (n := 60) [] Tryd.func29 rfl rfl (Nat.le_of_ble_eq_true rfl) rfl (pins := []) rfl (L := [(HK, .hp (hpA w0)), (0, .t ((ptT 1 p0))), (1, .t (.d (.seq 1 (List.map cI64 p1)))), (2, .t (.d (.lit (.bool p2))))]) rfl ?_
  refine c_seq ?_
  refine c_region ?_
  refine o_s (.t (.d (.lit (.int .i64 0)))) (g0 rfl) rfl rfl rfl ?_
  refine o_nil ?_
  repeat (first | refine then_normal ?_ | refine then_exit ?_ | refine then_ret ?_ | refine block_normal ?_ | refine block_ret ?_ | refine block_exit ?_ | refine block_pass rfl ?_)
  refine c_seq ?_
  refine c_seq ?_
  refine c_region ?_
  refine o_of (e := [(11, .t ((ptT 1 p0)))]) (g0 rfl) (h_mv (Mk.refl _) (.inl rfl) (cpO_pt rfl) rfl rfl) rfl ?_
  rcases ptM_some h with ⟨h1, h⟩ | ⟨i2, h1, h⟩
  · refine o_of (e := [(12, .t (.d (.lit (.bool true))))]) (g0 rfl) (h_pn (Mk.refl _) (ng := false) rfl rfl rfl (pn_none rfl h1) rfl rfl) rfl ?_
    refine o_s (.t (.d (.lit (.bool true)))) (g0 rfl) rfl rfl rfl ?_
    refine o_skip rfl rfl rfl rfl rfl rfl ?_
    refine o_skip rfl rfl rfl rfl rfl rfl ?_
    refine o_skip rfl rfl rfl rfl rfl rfl ?_
    refine o_skip rfl rfl rfl rfl rfl rfl ?_
    refine o_skip rfl rfl rfl rfl rfl rfl ?_
    refine o_pk (.t (.d (.lit (.bool true)))) (b := true) rfl (g0 rfl) rfl rfl rfl rfl rfl ?_
    refine o_nil ?_
    repeat (first | refine then_normal ?_ | refine then_exit ?_ | refine then_ret ?_ | refine block_normal ?_ | refine block_ret ?_ | refine block_exit ?_ | refine block_pass rfl ?_)
    refine c_t rfl rfl ?_
    refine c_seq ?_
    refine c_region ?_
    refine o_s (.t (.d (.lit (.int .i64 1)))) (g0 rfl) rfl rfl rfl ?_
    refine o_nil ?_
    repeat (first | refine then_normal ?_ | refine then_exit ?_ | refine then_ret ?_ | refine block_normal ?_ | refine block_ret ?_ | refine block_exit ?_ | refine block_pass rfl ?_)
    refine c_ret ?_
    repeat (first | refine then_normal ?_ | refine then_exit ?_ | refine then_ret ?_ | refine block_normal ?_ | refine block_ret ?_ | refine block_exit ?_ | refine block_pass rfl ?_)
    obtain rfl := Option.some.inj h
    exact ⟨⟨_, rfl, (.refl _)⟩, trivial, rfl⟩
  · refine o_of (e := [(12, .t (.d (.lit (.bool false))))]) (g0 rfl) (h_pn (Mk.refl _) (ng := false) rfl rfl rfl (pn_some rfl h1) rfl rfl) rfl ?_
    refine o_s (.t (.d (.lit (.bool false)))) (g0 rfl) rfl rfl rfl ?_
    refine o_of (e := [(14, .t (.hpt (cd 1 i2) 0))]) (gy rfl rfl rfl rfl) (h_mv (Mk.refl _) (.inl rfl) ((cpO_pt rfl).trans (pt_eq_some h1)) rfl rfl) rfl ?_
    refine o_of (e := [(15, .t (.hpt (cd 1 i2) 0))]) (gy rfl rfl rfl rfl) (h_nc (Mk.refl _) rfl rfl rfl rfl rfl) rfl ?_
    refine o_of (e := [(16, .t (.hpt (cd 1 i2) 3))]) (gy rfl rfl rfl rfl) (h_fd (Mk.refl _) rfl rfl rfl rfl rfl rfl) rfl ?_
    obtain ⟨x3, h4, h⟩ := bind_some h
    refine o_of (e := [(17, .t (.d (.lit (.bool x3.is_))))]) (gy rfl rfl rfl rfl) (h_ld (Mk.refl _) rfl rfl rfl rfl (gl_space h4) rfl rfl rfl rfl) rfl ?_
    refine o_s (.t (.d (.lit (.bool (!x3.is_))))) (gy rfl rfl rfl rfl) rfl rfl rfl ?_
    refine o_pk (.t (.d (.lit (.bool (!x3.is_))))) (b := false) rfl (g0 rfl) rfl rfl rfl rfl rfl ?_
    refine o_nil ?_
    repeat (first | refine then_normal ?_ | refine then_exit ?_ | refine then_ret ?_ | refine block_normal ?_ | refine block_ret ?_ | refine block_exit ?_ | refine block_pass rfl ?_)
    rcases bif_some h with ⟨h5, h⟩ | ⟨h5, h⟩
    · refine c_t h5 rfl ?_
      refine c_seq ?_
      refine c_region ?_
      refine o_s (.t (.d (.lit (.int .i64 1)))) (g0 rfl) rfl rfl rfl ?_
      refine o_nil ?_
      repeat (first | refine then_normal ?_ | refine then_exit ?_ | refine then_ret ?_ | refine block_normal ?_ | refine block_ret ?_ | refine block_exit ?_ | refine block_pass rfl ?_)
      refine c_ret ?_
      repeat (first | refine then_normal ?_ | refine then_exit ?_ | refine then_ret ?_ | refine block_normal ?_ | refine block_ret ?_ | refine block_exit ?_ | refine block_pass rfl ?_)
      obtain rfl := Option.some.inj h
      exact ⟨⟨_, rfl, (.refl _)⟩, trivial, rfl⟩
    · refine c_f h5 rfl ?_
      refine c_skip ?_
      repeat (first | refine then_normal ?_ | refine then_exit ?_ | refine then_ret ?_ | refine block_normal ?_ | refine block_ret ?_ | refine block_exit ?_ | refine block_pass rfl ?_)
      refine c_seq ?_
      refine c_seq ?_
      refine c_region ?_
      refine o_s (.t (.d (.seq 1 (List.map cI64 p1)))) (g0 rfl) rfl rfl rfl ?_
      refine o_c (g0 rfl) rfl rfl rfl (lenE _ _) trivial ?_
      refine o_s (.t (.d (.lit (.int .i64 0)))) (g0 rfl) rfl rfl rfl ?_
      refine o_nil ?_
      repeat (first | refine then_normal ?_ | refine then_exit ?_ | refine then_ret ?_ | refine block_normal ?_ | refine block_ret ?_ | refine block_exit ?_ | refine block_pass rfl ?_)
      refine c_block ?_
      refine c_fuelH (fun (q : Int × Hp) => [(0, .t ((ptT 1 p0))), (1, .t (.d (.seq 1 (List.map cI64 p1)))), (2, .t (.d (.lit (.bool p2)))), (20, .t (.d (.seq 1 (List.map cI64 p1)))), (21, .t (.d (.lit (.int .i64 (p1.length : Int))))), (22, .t (.d (.lit (.int .i64 q.1)))), (HK, .hp (hpA q.2))]) (fun nl1 => (fun (q : Int × Hp) => m_space_Space_all_l1 p1 i2 p2 nl1 q.1 q.2 = some r)) (p1.length + 1) (0, w0) [] h rfl ⟨.inr ⟨_, rfl, pure_hpA _⟩, by (repeat (first | exact ObP.nil | refine ObP.cons (.inl rfl) ?_ | refine ObP.cons (.inr (fun _ => rfl)) ?_ | refine ObP.cons (.inr (ob_box (fl_noPt _ _))) ?_ | refine ObP.cons (.inr (ob_gb _ _)) ?_))⟩ ⟨(.refl _), ⟨(.refl _), ⟨(.refl _), ⟨(.refl _), ⟨(.refl _), ⟨(.refl _), ⟨(.refl _), trivial⟩⟩⟩⟩⟩⟩⟩ rfl ?_
      rintro nl1 ⟨z6, z7⟩ h
      cases nl1 with
      | zero => exact none_ne h
      | succ nl1 =>
        refine c_seq ?_
        refine c_region ?_
        refine o_s (.t (.d (.lit (.bool (decide (z6 < (p1.length : Int))))))) (g0 rfl) rfl rfl rfl ?_
        refine o_nil ?_
        repeat (first | refine then_normal ?_ | refine then_exit ?_ | refine then_ret ?_ | refine block_normal ?_ | refine block_ret ?_ | refine block_exit ?_ | refine block_pass rfl ?_)
        refine c_seq ?_
        rcases bif_some h with ⟨h8, h⟩ | ⟨h8, h⟩
        · refine c_t h8 rfl ?_
          refine c_skip ?_
          repeat (first | refine then_normal ?_ | refine then_exit ?_ | refine then_ret ?_ | refine block_normal ?_ | refine block_ret ?_ | refine block_exit ?_ | refine block_pass rfl ?_)
          refine c_seq ?_
          refine c_block ?_
          refine c_seq ?_
          refine c_region ?_
          refine o_s (.t (.d (.lit (.int .i64 z6)))) (g0 rfl) rfl rfl rfl ?_
          obtain ⟨x9, h10, h⟩ := bind_some h
          refine o_c (g0 rfl) rfl rfl rfl (idxE h10) (idxC h10) ?_
          refine o_s (.t (.d (.lit (.int .i64 x9)))) (g0 rfl) rfl rfl rfl ?_
          refine o_s (.t (.d (.lit (.int .i64 z6)))) (g0 rfl) rfl rfl rfl ?_
          refine o_s (.t (.d (.lit (.int .i64 x9)))) (g0 rfl) rfl rfl rfl ?_
          refine o_nil ?_
          repeat (first | refine then_normal ?_ | refine then_exit ?_ | refine then_ret ?_ | refine block_normal ?_ | refine block_ret ?_ | refine block_exit ?_ | refine block_pass rfl ?_)
          refine c_seq ?_
          refine c_cutH (fun (q : Bool × Hp) => [(0, .t ((ptT 1 p0))), (1, .t (.d (.seq 1 (List.map cI64 p1)))), (2, .t (.d (.lit (.bool p2)))), (7, .t (.d (.lit (.int .i64 z6)))), (8, .t (.d (.lit (.int .i64 x9)))), (20, .t (.d (.seq 1 (List.map cI64 p1)))), (21, .t (.d (.lit (.int .i64 (p1.length : Int))))), (22, .t (.d (.lit (.int .i64 z6)))), (43, .t (.d (.lit (.bool q.1)))), (HK, .hp (hpA q.2))]) (fun (q : Bool × Hp) => m_space_Space_all_j2 (m_space_Space_all_l1 p1 i2 p2 nl1) p1 z6 i2 x9 q.1 q.2 = some r) ?_ ?_
          · refine c_region ?_
            refine o_s (.t (.d (.lit (.int .i64 x9)))) (g0 rfl) rfl rfl rfl ?_
            refine o_s (.t (.d (.lit (.bool (decide (x9 < 0)))))) (g0 rfl) rfl rfl rfl ?_
            refine o_s (.t (.d (.lit (.bool (decide (x9 < 0)))))) (g0 rfl) rfl rfl rfl ?_
            rcases bif_some h with ⟨h25, h⟩ | ⟨h25, h⟩
            · refine o_skip rfl rfl rfl h25 rfl rfl ?_
              refine o_skip rfl rfl rfl h25 rfl rfl ?_
              refine o_skip rfl rfl rfl h25 rfl rfl ?_
              refine o_skip rfl rfl rfl h25 rfl rfl ?_
              refine o_skip rfl rfl rfl h25 rfl rfl ?_
              refine o_skip rfl rfl rfl h25 rfl rfl ?_
              refine o_pk (.t (.d (.lit (.bool true)))) (b := true) h25 (g0 rfl) rfl rfl rfl rfl rfl ?_
              refine o_s (.t (.d (.lit (.bool true)))) (g0 rfl) rfl rfl rfl ?_
              refine o_skip rfl rfl rfl rfl rfl rfl ?_
              refine o_skip rfl rfl rfl rfl rfl rfl ?_
              refine o_skip rfl rfl rfl rfl rfl rfl ?_
              refine o_skip rfl rfl rfl rfl rfl rfl ?_
              refine o_skip rfl rfl rfl rfl rfl rfl ?_
              refine o_pk (.t (.d (.lit (.bool true)))) (b := true) rfl (g0 rfl) rfl rfl rfl rfl rfl ?_
              refine o_nil ?_
              repeat (first | refine then_normal ?_ | refine then_exit ?_ | refine then_ret ?_ | refine block_normal ?_ | refine block_ret ?_ | refine block_exit ?_ | refine block_pass rfl ?_)
              exact ⟨(true, z7), [], h, rfl, ⟨.inr ⟨_, rfl, pure_hpA _⟩, by (repeat (first | exact ObP.nil | refine ObP.cons (.inl rfl) ?_ | refine ObP.cons (.inr (fun _ => rfl)) ?_ | refine ObP.cons (.inr (ob_box (fl_noPt _ _))) ?_ | refine ObP.cons (.inr (ob_gb _ _)) ?_))⟩, ⟨(.refl _), ⟨(.refl _), ⟨(.refl _), ⟨(.refl _), ⟨(.refl _), ⟨(.refl _), ⟨(.refl _), ⟨(.refl _), ⟨(.refl _), ⟨(.refl _), trivial⟩⟩⟩⟩⟩⟩⟩⟩⟩⟩, rfl⟩
            · refine o_s (.t (.d (.lit (.int .i64 x9)))) (gy rfl rfl rfl h25) rfl rfl rfl ?_
              refine o_of (e := [(31, .t (.hpt (cd 1 i2) 0))]) (gy rfl rfl rfl h25) (h_mv (Mk.refl _) (.inl rfl) ((cpO_pt rfl).trans (pt_eq_some h1)) rfl rfl) rfl ?_
              refine o_of (e := [(32, .t (.hpt (cd 1 i2) 0))]) (gy rfl rfl rfl h25) (h_nc (Mk.refl _) rfl rfl rfl rfl rfl) rfl ?_
              refine o_of (e := [(33, .t (.hpt (cd 1 i2) 0))]) (gy rfl rfl rfl h25) (h_fd (Mk.refl _) rfl rfl rfl rfl rfl rfl) rfl ?_
              obtain ⟨x26, h27, h⟩ := bind_some h
              refine o_of (e := [(34, .t (.d (.lit (.int .i64 x26.n_))))]) (gy rfl rfl rfl h25) (h_ld (Mk.refl _) rfl rfl rfl rfl (gl_space h27) rfl rfl rfl rfl) rfl ?_
              refine o_s (.t (.d (.lit (.bool (decide (x9 ≥ x26.n_)))))) (gy rfl rfl rfl h25) rfl rfl rfl ?_
              refine o_pk (.t (.d (.lit (.bool (decide (x9 ≥ x26.n_)))))) (b := false) h25 (g0 rfl) rfl rfl rfl rfl rfl ?_
              refine o_s (.t (.d (.lit (.bool (decide (x9 ≥ x26.n_)))))) (g0 rfl) rfl rfl rfl ?_
              rcases bif_some h with ⟨h28, h⟩ | ⟨h28, h⟩
              · refine o_skip rfl rfl rfl h28 rfl rfl ?_
                refine o_skip rfl rfl rfl h28 rfl rfl ?_
                refine o_skip rfl rfl rfl h28 rfl rfl ?_
                refine o_skip rfl rfl rfl h28 rfl rfl ?_
                refine o_skip rfl rfl rfl h28 rfl rfl ?_
                refine o_pk (.t (.d (.lit (.bool true)))) (b := true) h28 (g0 rfl) rfl rfl rfl rfl rfl ?_
                refine o_nil ?_
                repeat (first | refine then_normal ?_ | refine then_exit ?_ | refine then_ret ?_ | refine block_normal ?_ | refine block_ret ?_ | refine block_exit ?_ | refine block_pass rfl ?_)
                exact ⟨(true, z7), [], h, rfl, ⟨.inr ⟨_, rfl, pure_hpA _⟩, by (repeat (first | exact ObP.nil | refine ObP.cons (.inl rfl) ?_ | refine ObP.cons (.inr (fun _ => rfl)) ?_ | refine ObP.cons (.inr (ob_box (fl_noPt _ _))) ?_ | refine ObP.cons (.inr (ob_gb _ _)) ?_))⟩, ⟨(.refl _), ⟨(.refl _), ⟨(.refl _), ⟨(.refl _), ⟨(.refl _), ⟨(.refl _), ⟨(.refl _), ⟨(.refl _), ⟨(.refl _), ⟨(.refl _), trivial⟩⟩⟩⟩⟩⟩⟩⟩⟩⟩, rfl⟩
              · refine o_of (e := [(38, .t (.hpt (cd 1 i2) 0))]) (gy rfl rfl rfl h28) (h_mv (Mk.refl _) (.inl rfl) ((cpO_pt rfl).trans (pt_eq_some h1)) rfl rfl) rfl ?_
                refine o_s (.t (.d (.lit (.int .i64 x9)))) (gy rfl rfl rfl h28) rfl rfl rfl ?_
                obtain ⟨x29, h30, h⟩ := bind_some h
                refine o_of (e := [(HK, .hp (hpA x29.2)), (40, .t (.d (.lit (.bool x29.1))))]) (gy rfl rfl rfl h28) (h_call (Mk.refl _) rfl (σ := []) (fr := []) rfl rfl rfl rfl rfl rfl rfl (fch_space_Space_Has _ _ z7 _ h30) (pure_hpA _) (pure_hpA _) rfl rfl rfl rfl (.cons (.hpt _ _) (.cons (.plain (.refl _) rfl) .nil)) rfl (.t (.flat rfl))) rfl ?_
                refine o_s (.t (.d (.lit (.bool p2)))) (gy rfl rfl rfl h28) rfl rfl rfl ?_
                refine o_s (.t (.d (.lit (.bool (!(x29.1 == p2)))))) (gy rfl rfl rfl h28) rfl rfl rfl ?_
                refine o_pk (.t (.d (.lit (.bool (!(x29.1 == p2)))))) (b := false) h28 (g0 rfl) rfl rfl rfl rfl rfl ?_
                refine o_nil ?_
                repeat (first | refine then_normal ?_ | refine then_exit ?_ | refine then_ret ?_ | refine block_normal ?_ | refine block_ret ?_ | refine block_exit ?_ | refine block_pass rfl ?_)
                exact ⟨((!(x29.1 == p2)), x29.2), [], h, rfl, ⟨.inr ⟨_, rfl, pure_hpA _⟩, by (repeat (first | exact ObP.nil | refine ObP.cons (.inl rfl) ?_ | refine ObP.cons (.inr (fun _ => rfl)) ?_ | refine ObP.cons (.inr (ob_box (fl_noPt _ _))) ?_ | refine ObP.cons (.inr (ob_gb _ _)) ?_))⟩, ⟨(.refl _), ⟨(.refl _), ⟨(.refl _), ⟨(.refl _), ⟨(.refl _), ⟨(.refl _), ⟨(.refl _), ⟨(.refl _), ⟨(.refl _), ⟨(.refl _), trivial⟩⟩⟩⟩⟩⟩⟩⟩⟩⟩, rfl⟩
          · rintro ⟨y11, y12⟩ h
            rcases bif_some h with ⟨h13, h⟩ | ⟨h13, h⟩
            · refine c_t h13 rfl ?_
              refine c_seq ?_
              refine c_seq ?_
              refine c_region ?_
              refine o_s (.t (.d (.seq 1 (List.map cI64 p1)))) (g0 rfl) rfl rfl rfl ?_
              refine o_s (.t (.d (.lit (.int .i64 z6)))) (g0 rfl) rfl rfl rfl ?_
              obtain ⟨x14, h15, h⟩ := bind_some h
              refine o_c (g0 rfl) rfl rfl rfl (cutEh (c := cI64) h15) (cutCh (c := cI64) h15) ?_
              refine o_c (g0 rfl) rfl rfl rfl (lenE _ _) trivial ?_
              refine o_s (.t (.d (.lit (.int .i64 0)))) (g0 rfl) rfl rfl rfl ?_
              refine o_nil ?_
              repeat (first | refine then_normal ?_ | refine then_exit ?_ | refine then_ret ?_ | refine block_normal ?_ | refine block_ret ?_ | refine block_exit ?_ | refine block_pass rfl ?_)
              refine c_block ?_
              refine c_fuelH (fun (q : Int × Hp) => [(0, .t ((ptT 1 p0))), (46, .t (.d (.seq 1 (List.map cI64 x14)))), (47, .t (.d (.lit (.int .i64 (x14.length : Int))))), (48, .t (.d (.lit (.int .i64 q.1)))), (HK, .hp (hpA q.2))]) (fun nl3 => (fun (q : Int × Hp) => m_space_Space_all_l3 x14 i2 nl3 q.1 q.2 = some r)) (x14.length + 1) (0, y12) [] h rfl ⟨.inr ⟨_, rfl, pure_hpA _⟩, by (repeat (first | exact ObP.nil | refine ObP.cons (.inl rfl) ?_ | refine ObP.cons (.inr (fun _ => rfl)) ?_ | refine ObP.cons (.inr (ob_box (fl_noPt _ _))) ?_ | refine ObP.cons (.inr (ob_gb _ _)) ?_))⟩ ⟨(.refl _), ⟨(.refl _), ⟨(.refl _), ⟨(.refl _), ⟨(.refl _), trivial⟩⟩⟩⟩⟩ rfl ?_
              rintro nl3 ⟨z16, z17⟩ h
              cases nl3 with
              | zero => exact none_ne h
              | succ nl3 =>
                refine c_seq ?_
                refine c_region ?_
                refine o_s (.t (.d (.lit (.bool (decide (z16 < (x14.length : Int))))))) (g0 rfl) rfl rfl rfl ?_
                refine o_nil ?_
                repeat (first | refine then_normal ?_ | refine then_exit ?_ | refine then_ret ?_ | refine block_normal ?_ | refine block_ret ?_ | refine block_exit ?_ | refine block_pass rfl ?_)
                refine c_seq ?_
                rcases bif_some h with ⟨h18, h⟩ | ⟨h18, h⟩
                · refine c_t h18 rfl ?_
                  refine c_skip ?_
                  repeat (first | refine then_normal ?_ | refine then_exit ?_ | refine then_ret ?_ | refine block_normal ?_ | refine block_ret ?_ | refine block_exit ?_ | refine block_pass rfl ?_)
                  refine c_seq ?_
                  refine c_block ?_
                  refine c_seq ?_
                  refine c_region ?_
                  obtain ⟨x19, h20, h⟩ := bind_some h
                  refine o_c (g0 rfl) rfl rfl rfl (idxE h20) (idxC h20) ?_
                  refine o_s (.t (.d (.lit (.int .i64 x19)))) (g0 rfl) rfl rfl rfl ?_
                  refine o_s (.t (.d (.lit (.int .i64 x19)))) (g0 rfl) rfl rfl rfl ?_
                  refine o_nil ?_
                  repeat (first | refine then_normal ?_ | refine then_exit ?_ | refine then_ret ?_ | refine block_normal ?_ | refine block_ret ?_ | refine block_exit ?_ | refine block_pass rfl ?_)
                  refine c_region ?_
                  refine o_of (e := [(52, .t (.hpt (cd 1 i2) 0))]) (g0 rfl) (h_mv (Mk.refl _) (.inl rfl) ((cpO_pt rfl).trans (pt_eq_some h1)) rfl rfl) rfl ?_
                  refine o_s (.t (.d (.lit (.int .i64 x19)))) (g0 rfl) rfl rfl rfl ?_
                  obtain ⟨x21, h22, h⟩ := bind_some h
                  refine o_of (e := [(HK, .hp (hpA x21)), (54, .tup [])]) (g0 rfl) (h_call (Mk.refl _) rfl (σ := []) (fr := []) rfl rfl rfl rfl rfl rfl rfl (fch_space_Space_turn _ _ z17 _ h22) (pure_hpA _) (pure_hpA _) rfl rfl rfl rfl (.cons (.hpt _ _) (.cons (.plain (.refl _) rfl) .nil)) rfl (.tup .nil)) rfl ?_
                  refine o_nil ?_
                  repeat (first | refine then_normal ?_ | refine then_exit ?_ | refine then_ret ?_ | refine block_normal ?_ | refine block_ret ?_ | refine block_exit ?_ | refine block_pass rfl ?_)
                  refine c_region ?_
                  refine o_s (.t (.d (.lit (.int .i64 (wi (z16 + 1)))))) (g0 rfl) rfl rfl rfl ?_
                  refine o_s (.t (.d (.lit (.int .i64 (wi (z16 + 1)))))) (g0 rfl) rfl rfl rfl ?_
                  refine o_nil ?_
                  repeat (first | refine then_normal ?_ | refine then_exit ?_ | refine then_ret ?_ | refine block_normal ?_ | refine block_ret ?_ | refine block_exit ?_ | refine block_pass rfl ?_)
                  exact ⟨nl3, ((wi (z16 + 1)), x21), [], Nat.lt_succ_self nl3, h, rfl, ⟨.inr ⟨_, rfl, pure_hpA _⟩, by (repeat (first | exact ObP.nil | refine ObP.cons (.inl rfl) ?_ | refine ObP.cons (.inr (fun _ => rfl)) ?_ | refine ObP.cons (.inr (ob_box (fl_noPt _ _))) ?_ | refine ObP.cons (.inr (ob_gb _ _)) ?_))⟩, ⟨(.refl _), ⟨(.refl _), ⟨(.refl _), ⟨(.refl _), ⟨(.refl _), trivial⟩⟩⟩⟩⟩, rfl⟩
                · refine c_f h18 rfl ?_
                  refine c_exit ?_
                  repeat (first | refine then_normal ?_ | refine then_exit ?_ | refine then_ret ?_ | refine block_normal ?_ | refine block_ret ?_ | refine block_exit ?_ | refine block_pass rfl ?_)
                  refine c_seq ?_
                  refine c_region ?_
                  refine o_s (.t (.d (.lit (.int .i64 2)))) (g0 rfl) rfl rfl rfl ?_
                  refine o_nil ?_
                  repeat (first | refine then_normal ?_ | refine then_exit ?_ | refine then_ret ?_ | refine block_normal ?_ | refine block_ret ?_ | refine block_exit ?_ | refine block_pass rfl ?_)
                  refine c_ret ?_
                  repeat (first | refine then_normal ?_ | refine then_exit ?_ | refine then_ret ?_ | refine block_normal ?_ | refine block_ret ?_ | refine block_exit ?_ | refine block_pass rfl ?_)
                  obtain rfl := Option.some.inj h
                  exact ⟨⟨_, rfl, (.refl _)⟩, trivial, rfl⟩
            · refine c_f h13 rfl ?_
              refine c_skip ?_
              repeat (first | refine then_normal ?_ | refine then_exit ?_ | refine then_ret ?_ | refine block_normal ?_ | refine block_ret ?_ | refine block_exit ?_ | refine block_pass rfl ?_)
              refine c_region ?_
              refine o_of (e := [(56, .t (.hpt (cd 1 i2) 0))]) (g0 rfl) (h_mv (Mk.refl _) (.inl rfl) ((cpO_pt rfl).trans (pt_eq_some h1)) rfl rfl) rfl ?_
              refine o_s (.t (.d (.lit (.int .i64 x9)))) (g0 rfl) rfl rfl rfl ?_
              obtain ⟨x23, h24, h⟩ := bind_some h
              refine o_of (e := [(HK, .hp (hpA x23)), (58, .tup [])]) (g0 rfl) (h_call (Mk.refl _) rfl (σ := []) (fr := []) rfl rfl rfl rfl rfl rfl rfl (fch_space_Space_turn _ _ y12 _ h24) (pure_hpA _) (pure_hpA _) rfl rfl rfl rfl (.cons (.hpt _ _) (.cons (.plain (.refl _) rfl) .nil)) rfl (.tup .nil)) rfl ?_
              refine o_nil ?_
              repeat (first | refine then_normal ?_ | refine then_exit ?_ | refine then_ret ?_ | refine block_normal ?_ | refine block_ret ?_ | refine block_exit ?_ | refine block_pass rfl ?_)
              refine c_region ?_
              refine o_s (.t (.d (.lit (.int .i64 (wi (z6 + 1)))))) (g0 rfl) rfl rfl rfl ?_
              refine o_s (.t (.d (.lit (.int .i64 (wi (z6 + 1)))))) (g0 rfl) rfl rfl rfl ?_
              refine o_nil ?_
              repeat (first | refine then_normal ?_ | refine then_exit ?_ | refine then_ret ?_ | refine block_normal ?_ | refine block_ret ?_ | refine block_exit ?_ | refine block_pass rfl ?_)
              exact ⟨nl1, ((wi (z6 + 1)), x23), [], Nat.lt_succ_self nl1, h, rfl, ⟨.inr ⟨_, rfl, pure_hpA _⟩, by (repeat (first | exact ObP.nil | refine ObP.cons (.inl rfl) ?_ | refine ObP.cons (.inr (fun _ => rfl)) ?_ | refine ObP.cons (.inr (ob_box (fl_noPt _ _))) ?_ | refine ObP.cons (.inr (ob_gb _ _)) ?_))⟩, ⟨(.refl _), ⟨(.refl _), ⟨(.refl _), ⟨(.refl _), ⟨(.refl _), ⟨(.refl _), ⟨(.refl _), trivial⟩⟩⟩⟩⟩⟩⟩, rfl⟩
        · refine c_f h8 rfl ?_
          refine c_exit ?_
          repeat (first | refine then_normal ?_ | refine then_exit ?_ | refine then_ret ?_ | refine block_normal ?_ | refine block_ret ?_ | refine block_exit ?_ | refine block_pass rfl ?_)
          refine c_seq ?_
          refine c_region ?_
          refine o_s (.t (.d (.lit (.int .i64 0)))) (g0 rfl) rfl rfl rfl ?_
          refine o_nil ?_
          repeat (first | refine then_normal ?_ | refine then_exit ?_ | refine then_ret ?_ | refine block_normal ?_ | refine block_ret ?_ | refine block_exit ?_ | refine block_pass rfl ?_)
          refine c_ret ?_
          repeat (first | refine then_normal ?_ | refine then_exit ?_ | refine then_ret ?_ | refine block_normal ?_ | refine block_ret ?_ | refine block_exit ?_ | refine block_pass rfl ?_)
          obtain rfl := Option.some.inj h
          exact ⟨⟨_, rfl, (.refl _)⟩, trivial, rfl⟩

theorem fch_space_Space_Claim (p0 : (Option Nat)) (p1 : (List Int)) (w0 : Hp) (r : (Int × Hp)) (h : m_space_Space_Claim p0 p1 w0 = some r) : FCH Tryd.prog 14 [.t ((ptT 1 p0)), .t (.d (.seq 1 (List.map cI64 p1)))] [] [] (hpA w0) (hpA r.2) (.t (.d (.lit (.int .i64 r.1)))) := by
  refine fch_mk (rs := [.tmp 4]) (n := 8) [] Tryd.func14 rfl rfl (Nat.le_of_ble_eq_true rfl) rfl (pins := []) rfl (L := [(HK, .hp (hpA w0)), (0, .t ((ptT 1 p0))), (1, .t (.d (.seq 1 (List.map cI64 p1))))]) rfl ?_
  refine c_seq ?_
  refine c_region ?_
  refine o_s (.t (.d (.lit (.int .i64 0)))) (g0 rfl) rfl rfl rfl ?_
  refine o_nil ?_
  repeat (first | refine then_normal ?_ | refine then_exit ?_ | refine then_ret ?_ | refine block_normal ?_ | refine block_ret ?_ | refine block_exit ?_ | refine block_pass rfl ?_)
  refine c_seq ?_
  refine c_region ?_
  refine o_of (e := [(5, .t ((ptT 1 p0)))]) (g0 rfl) (h_mv (Mk.refl _) (.inl rfl) (cpO_pt rfl) rfl rfl) rfl ?_
  refine o_s (.t (.d (.seq 1 (List.map cI64 p1)))) (g0 rfl) rfl rfl rfl ?_
  obtain ⟨x1, h2, h⟩ := bind_some h
  refine o_of (e := [(HK, .hp (hpA x1.2)), (7, .t (.d (.lit (.int .i64 x1.1))))]) (g0 rfl) (h_call (Mk.refl _) rfl (σ := []) (fr := []) rfl rfl rfl rfl rfl rfl rfl (fch_space_Space_all _ _ _ w0 _ h2) (pure_hpA _) (pure_hpA _) rfl rfl rfl rfl (.cons (argPt rfl) (.cons (.plain (.refl _) rfl) (.cons (.plain (.refl _) rfl) .nil))) rfl (.t (.flat rfl))) rfl ?_
  refine o_s (.t (.d (.lit (.int .i64 x1.1)))) (g0 rfl) rfl rfl rfl ?_
  refine o_nil ?_
  repeat (first | refine then_normal ?_ | refine then_exit ?_ | refine then_ret ?_ | refine block_normal ?_ | refine block_ret ?_ | refine block_exit ?_ | refine block_pass rfl ?_)
  refine c_ret ?_
  repeat (first | refine then_normal ?_ | refine then_exit ?_ | refine then_ret ?_ | refine block_normal ?_ | refine block_ret ?_ | refine block_exit ?_ | refine block_pass rfl ?_)
  obtain rfl := Option.some.inj h
  exact ⟨⟨_, rfl, (.refl _)⟩, trivial, rfl⟩

theorem fch_space_Space_Give (p0 : (Option Nat)) (p1 : (List Int)) (w0 : Hp) (r : (Int × Hp)) (h : m_space_Space_Give p0 p1 w0 = some r) : FCH Tryd.prog 16 [.t ((ptT 1 p0)), .t (.d (.seq 1 (List.map cI64 p1)))] [] [] (hpA w0) (hpA r.2) (.t (.d (.lit (.int .i64 r.1)))) := by
  refine fch_mk (rs := [.tmp 4]) (n := 8) [] Tryd.func16 rfl rfl (Nat.le_of_ble_eq_true rfl) rfl (pins := []) rfl (L := [(HK, .hp (hpA w0)), (0, .t ((ptT 1 p0))), (1, .t (.d (.seq 1 (List.map cI64 p1))))]) rfl ?_
  refine c_seq ?_
  refine c_region ?_
  refine o_s (.t (.d (.lit (.int .i64 0)))) (g0 rfl) rfl rfl rfl ?_
  refine o_nil ?_
  repeat (first | refine then_normal ?_ | refine then_exit ?_ | refine then_ret ?_ | refine block_normal ?_ | refine block_ret ?_ | refine block_exit ?_ | refine block_pass rfl ?_)
  refine c_seq ?_
  refine c_region ?_
  refine o_of (e := [(5, .t ((ptT 1 p0)))]) (g0 rfl) (h_mv (Mk.refl _) (.inl rfl) (cpO_pt rfl) rfl rfl) rfl ?_
  refine o_s (.t (.d (.seq 1 (List.map cI64 p1)))) (g0 rfl) rfl rfl rfl ?_
  obtain ⟨x1, h2, h⟩ := bind_some h
  refine o_of (e := [(HK, .hp (hpA x1.2)), (7, .t (.d (.lit (.int .i64 x1.1))))]) (g0 rfl) (h_call (Mk.refl _) rfl (σ := []) (fr := []) rfl rfl rfl rfl rfl rfl rfl (fch_space_Space_all _ _ _ w0 _ h2) (pure_hpA _) (pure_hpA _) rfl rfl rfl rfl (.cons (argPt rfl) (.cons (.plain (.refl _) rfl) (.cons (.plain (.refl _) rfl) .nil))) rfl (.t (.flat rfl))) rfl ?_
  refine o_s (.t (.d (.lit (.int .i64 x1.1)))) (g0 rfl) rfl rfl rfl ?_
  refine o_nil ?_
  repeat (first | refine then_normal ?_ | refine then_exit ?_ | refine then_ret ?_ | refine block_normal ?_ | refine block_ret ?_ | refine block_exit ?_ | refine block_pass rfl ?_)
  refine c_ret ?_
  repeat (first | refine then_normal ?_ | refine then_exit ?_ | refine then_ret ?_ | refine block_normal ?_ | refine block_ret ?_ | refine block_exit ?_ | refine block_pass rfl ?_)
  obtain rfl := Option.some.inj h
  exact ⟨⟨_, rfl, (.refl _)⟩, trivial, rfl⟩

theorem fch_space_Space_Free (p0 : (Option Nat)) (w0 : Hp) (r : (Int × Hp)) (h : m_space_Space_Free p0 w0 = some r) : FCH Tryd.prog 8 [.t ((ptT 1 p0))] [] [] (hpA w0) (hpA r.2) (.t (.d (.lit (.int .i64 r.1)))) := by
  refine fch_mk (rs := [.tmp 2]) (n := 9) [] Tryd.func8 rfl rfl (Nat.le_of_ble_eq_true rfl) rfl (pins := []) rfl (L := [(HK, .hp (hpA w0)), (0, .t ((ptT 1 p0)))]) rfl ?_
  refine c_seq ?_
  refine c_region ?_
  refine o_s (.t (.d (.lit (.int .i64 0)))) (g0 rfl) rfl rfl rfl ?_
  refine o_nil ?_
  repeat (first | refine then_normal ?_ | refine then_exit ?_ | refine then_ret ?_ | refine block_normal ?_ | refine block_ret ?_ | refine block_exit ?_ | refine block_pass rfl ?_)
  refine c_seq ?_
  refine c_seq ?_
  refine c_region ?_
  refine o_of (e := [(3, .t ((ptT 1 p0)))]) (g0 rfl) (h_mv (Mk.refl _) (.inl rfl) (cpO_pt rfl) rfl rfl) rfl ?_
  rcases ptM_some h with ⟨h1, h⟩ | ⟨i2, h1, h⟩
  · refine o_of (e := [(4, .t (.d (.lit (.bool true))))]) (g0 rfl) (h_pn (Mk.refl _) (ng := false) rfl rfl rfl (pn_none rfl h1) rfl rfl) rfl ?_
    refine o_nil ?_
    repeat (first | refine then_normal ?_ | refine then_exit ?_ | refine then_ret ?_ | refine block_normal ?_ | refine block_ret ?_ | refine block_exit ?_ | refine block_pass rfl ?_)
    refine c_t rfl rfl ?_
    refine c_seq ?_
    refine c_region ?_
    refine o_s (.t (.d (.lit (.int .i64 0)))) (g0 rfl) rfl rfl rfl ?_
    refine o_nil ?_
    repeat (first | refine then_normal ?_ | refine then_exit ?_ | refine then_ret ?_ | refine block_normal ?_ | refine block_ret ?_ | refine block_exit ?_ | refine block_pass rfl ?_)
    refine c_ret ?_
    repeat (first | refine then_normal ?_ | refine then_exit ?_ | refine then_ret ?_ | refine block_normal ?_ | refine block_ret ?_ | refine block_exit ?_ | refine block_pass rfl ?_)
    obtain rfl := Option.some.inj h
    exact ⟨⟨_, rfl, (.refl _)⟩, trivial, rfl⟩
  · refine o_of (e := [(4, .t (.d (.lit (.bool false))))]) (g0 rfl) (h_pn (Mk.refl _) (ng := false) rfl rfl rfl (pn_some rfl h1) rfl rfl) rfl ?_
    refine o_nil ?_
    repeat (first | refine then_normal ?_ | refine then_exit ?_ | refine then_ret ?_ | refine block_normal ?_ | refine block_ret ?_ | refine block_exit ?_ | refine block_pass rfl ?_)
    refine c_f rfl rfl ?_
    refine c_skip ?_
    repeat (first | refine then_normal ?_ | refine then_exit ?_ | refine then_ret ?_ | refine block_normal ?_ | refine block_ret ?_ | refine block_exit ?_ | refine block_pass rfl ?_)
    refine c_seq ?_
    refine c_region ?_
    refine o_of (e := [(5, .t (.hpt (cd 1 i2) 0))]) (g0 rfl) (h_mv (Mk.refl _) (.inl rfl) ((cpO_pt rfl).trans (pt_eq_some h1)) rfl rfl) rfl ?_
    refine o_of (e := [(6, .t (.hpt (cd 1 i2) 0))]) (g0 rfl) (h_nc (Mk.refl _) rfl rfl rfl rfl rfl) rfl ?_
    refine o_of (e := [(7, .t (.hpt (cd 1 i2) 1))]) (g0 rfl) (h_fd (Mk.refl _) rfl rfl rfl rfl rfl rfl) rfl ?_
    obtain ⟨x3, h4, h⟩ := bind_some h
    refine o_of (e := [(8, .t (.d (.lit (.int .i64 x3.free_))))]) (g0 rfl) (h_ld (Mk.refl _) rfl rfl rfl rfl (gl_space h4) rfl rfl rfl rfl) rfl ?_
    refine o_s (.t (.d (.lit (.int .i64 x3.free_)))) (g0 rfl) rfl rfl rfl ?_
    refine o_nil ?_
    repeat (first | refine then_normal ?_ | refine then_exit ?_ | refine then_ret ?_ | refine block_normal ?_ | refine block_ret ?_ | refine block_exit ?_ | refine block_pass rfl ?_)
    refine c_ret ?_
    repeat (first | refine then_normal ?_ | refine then_exit ?_ | refine then_ret ?_ | refine block_normal ?_ | refine block_ret ?_ | refine block_exit ?_ | refine block_pass rfl ?_)
    obtain rfl := Option.some.inj h
    exact ⟨⟨_, rfl, (.refl _)⟩, trivial, rfl⟩

theorem fch_space_Space_Runs (p0 : (Option Nat)) (w0 : Hp) (r : ((List S_api_Run) × Hp)) (h : m_space_Space_Runs p0 w0 = some r) : FCH Tryd.prog 19 [.t ((ptT 1 p0))] [] [] (hpA w0) (hpA r.2) (.t (.d (.seq 2 (List.map cS_api_Run r.1)))) := by
  refine fch_mk (rs := [.tmp 2]) (n := 59) [0] Tryd.func19 rfl rfl (Nat.le_of_ble_eq_true rfl) rfl (pins := []) rfl (L := [(HK, .hp (hpA w0)), (OB + 0, .free), (0, .t ((ptT 1 p0)))]) rfl ?_
  refine c_seq ?_
  refine c_region ?_
  refine o_s (.t (.d (.lit (.slice none 0 0)))) (g0 rfl) rfl rfl rfl ?_
  refine o_nil ?_
  repeat (first | refine then_normal ?_ | refine then_exit ?_ | refine then_ret ?_ | refine block_normal ?_ | refine block_ret ?_ | refine block_exit ?_ | refine block_pass rfl ?_)
  refine c_seq ?_
  refine c_region ?_
  refine o_of (e := [(3, .t (.view 0 0 68 2 0))]) (g0 rfl) (h_nilv (.inr rfl) rfl rfl rfl) rfl ?_
  refine o_nil ?_
  repeat (first | refine then_normal ?_ | refine then_exit ?_ | refine then_ret ?_ | refine block_normal ?_ | refine block_ret ?_ | refine block_exit ?_ | refine block_pass rfl ?_)
  refine c_seq ?_
  refine c_seq ?_
  refine c_region ?_
  refine o_of (e := [(6, .t ((ptT 1 p0)))]) (g0 rfl) (h_mv (Mk.refl _) (.inl rfl) (cpO_pt rfl) rfl rfl) rfl ?_
  rcases ptM_some h with ⟨h1, h⟩ | ⟨i2, h1, h⟩
  · refine o_of (e := [(7, .t (.d (.lit (.bool true))))]) (g0 rfl) (h_pn (Mk.refl _) (ng := false) rfl rfl rfl (pn_none rfl h1) rfl rfl) rfl ?_
    refine o_nil ?_
    repeat (first | refine then_normal ?_ | refine then_exit ?_ | refine then_ret ?_ | refine block_normal ?_ | refine block_ret ?_ | refine block_exit ?_ | refine block_pass rfl ?_)
    refine c_t rfl rfl ?_
    refine c_seq ?_
    refine c_region ?_
    refine o_s (.t (.view 0 0 68 2 0)) (g0 rfl) rfl rfl rfl ?_
    refine o_s (.t (.view 0 0 68 2 0)) (g0 rfl) rfl rfl rfl ?_
    refine o_nil ?_
    repeat (first | refine then_normal ?_ | refine then_exit ?_ | refine then_ret ?_ | refine block_normal ?_ | refine block_ret ?_ | refine block_exit ?_ | refine block_pass rfl ?_)
    refine c_frzG (cc := cS_api_Run) (y := ([] : List S_api_Run)) (k := 2) 2 0 rfl rfl (fun _ => rfl) rfl ⟨.inr ⟨_, rfl, pure_hpA _⟩, by (repeat (first | exact ObP.nil | refine ObP.cons (.inl rfl) ?_ | refine ObP.cons (.inr (fun _ => rfl)) ?_ | refine ObP.cons (.inr (ob_box (fl_noPt _ _))) ?_ | refine ObP.cons (.inr (ob_gb _ _)) ?_))⟩ rfl ?_
    refine c_ret ?_
    repeat (first | refine then_normal ?_ | refine then_exit ?_ | refine then_ret ?_ | refine block_normal ?_ | refine block_ret ?_ | refine block_exit ?_ | refine block_pass rfl ?_)
    obtain rfl := Option.some.inj h
    exact ⟨⟨_, rfl, (.refl _)⟩, trivial, rfl⟩
  · refine o_of (e := [(7, .t (.d (.lit (.bool false))))]) (g0 rfl) (h_pn (Mk.refl _) (ng := false) rfl rfl rfl (pn_some rfl h1) rfl rfl) rfl ?_
    refine o_nil ?_
    repeat (first | refine then_normal ?_ | refine then_exit ?_ | refine then_ret ?_ | refine block_normal ?_ | refine block_ret ?_ | refine block_exit ?_ | refine block_pass rfl ?_)
    refine c_f rfl rfl ?_
    refine c_skip ?_
    repeat (first | refine then_normal ?_ | refine then_exit ?_ | refine then_ret ?_ | refine block_normal ?_ | refine block_ret ?_ | refine block_exit ?_ | refine block_pass rfl ?_)
    refine c_seq ?_
    refine c_seq ?_
    refine c_region ?_
    refine o_of (e := [(9, .t (.hpt (cd 1 i2) 0))]) (g0 rfl) (h_mv (Mk.refl _) (.inl rfl) ((cpO_pt rfl).trans (pt_eq_some h1)) rfl rfl) rfl ?_
    refine o_of (e := [(10, .t (.hpt (cd 1 i2) 0))]) (g0 rfl) (h_nc (Mk.refl _) rfl rfl rfl rfl rfl) rfl ?_
    refine o_of (e := [(11, .t (.hpt (cd 1 i2) 0))]) (g0 rfl) (h_fd (Mk.refl _) rfl rfl rfl rfl rfl rfl) rfl ?_
    obtain ⟨x3, h4, h⟩ := bind_some h
    refine o_of (e := [(12, .t (.d (.lit (.int .i64 x3.n_))))]) (g0 rfl) (h_ld (Mk.refl _) rfl rfl rfl rfl (gl_space h4) rfl rfl rfl rfl) rfl ?_
    refine o_s (.t (.d (.lit (.int .i64 0)))) (g0 rfl) rfl rfl rfl ?_
    refine o_nil ?_
    repeat (first | refine then_normal ?_ | refine then_exit ?_ | refine then_ret ?_ | refine block_normal ?_ | refine block_ret ?_ | refine block_exit ?_ | refine block_pass rfl ?_)
    refine c_block ?_
    refine c_fuelH (fun (q : Int × (List S_api_Run) × Hp) => [(0, .t ((ptT 1 p0))), (3, .t (.view 0 0 68 2 q.2.1.length)), (12, .t (.d (.lit (.int .i64 x3.n_)))), (13, .t (.d (.lit (.int .i64 q.1)))), ((OB + 0), gbA cS_api_Run q.2.1), (HK, .hp (hpA q.2.2))]) (fun nl1 => (fun (q : Int × (List S_api_Run) × Hp) => m_space_Space_Runs_l1 x3 i2 nl1 q.1 q.2.1 q.2.2 = some r)) (Int.toNat x3.n_ + 1) (0, [], w0) [] h rfl ⟨.inr ⟨_, rfl, pure_hpA _⟩, by (repeat (first | exact ObP.nil | refine ObP.cons (.inl rfl) ?_ | refine ObP.cons (.inr (fun _ => rfl)) ?_ | refine ObP.cons (.inr (ob_box (fl_noPt _ _))) ?_ | refine ObP.cons (.inr (ob_gb _ _)) ?_))⟩ ⟨(.refl _), ⟨(.vwn (by simp)), ⟨(.refl _), ⟨(.refl _), ⟨(.refl _), ⟨(.refl _), trivial⟩⟩⟩⟩⟩⟩ (by ((refine nr_of ?_; repeat (first | exact nr_nil | refine nr_cons rfl ?_ | refine nr_cons (nr_gb _ _ _) ?_)))) ?_
    rintro nl1 ⟨z5, z6, z7⟩ h
    cases nl1 with
    | zero => exact none_ne h
    | succ nl1 =>
      refine c_seq ?_
      refine c_region ?_
      refine o_s (.t (.d (.lit (.bool (decide (z5 < x3.n_)))))) (g0 rfl) rfl rfl rfl ?_
      refine o_nil ?_
      repeat (first | refine then_normal ?_ | refine then_exit ?_ | refine then_ret ?_ | refine block_normal ?_ | refine block_ret ?_ | refine block_exit ?_ | refine block_pass rfl ?_)
      refine c_seq ?_
      rcases bif_some h with ⟨h8, h⟩ | ⟨h8, h⟩
      · refine c_t h8 rfl ?_
        refine c_skip ?_
        repeat (first | refine then_normal ?_ | refine then_exit ?_ | refine then_ret ?_ | refine block_normal ?_ | refine block_ret ?_ | refine block_exit ?_ | refine block_pass rfl ?_)
        refine c_seq ?_
        refine c_block ?_
        refine c_seq ?_
        refine c_region ?_
        refine o_s (.t (.d (.lit (.int .i64 z5)))) (g0 rfl) rfl rfl rfl ?_
        refine o_s (.t (.d (.lit (.int .i64 z5)))) (g0 rfl) rfl rfl rfl ?_
        refine o_nil ?_
        repeat (first | refine then_normal ?_ | refine then_exit ?_ | refine then_ret ?_ | refine block_normal ?_ | refine block_ret ?_ | refine block_exit ?_ | refine block_pass rfl ?_)
        refine c_seq ?_
        refine c_region ?_
        refine o_s (.t (.view 0 0 68 2 z6.length)) (g0 rfl) rfl rfl rfl ?_
        refine o_of (e := [(17, .t (.d (.lit (.int .i64 (z6.length : Int)))))]) (g0 rfl) (h_lln (Mk.refl _) rfl rfl rfl rfl rfl rfl) rfl ?_
        refine o_s (.t (.d (.lit (.int .i64 (z6.length : Int))))) (g0 rfl) rfl rfl rfl ?_
        refine o_nil ?_
        repeat (first | refine then_normal ?_ | refine then_exit ?_ | refine then_ret ?_ | refine block_normal ?_ | refine block_ret ?_ | refine block_exit ?_ | refine block_pass rfl ?_)
        refine c_block ?_
        refine c_seq ?_
        refine c_region ?_
        refine o_of (e := [(24, .t (.hpt (cd 1 i2) 0))]) (g0 rfl) (h_mv (Mk.refl _) (.inl rfl) ((cpO_pt rfl).trans (pt_eq_some h1)) rfl rfl) rfl ?_
        refine o_s (.t (.d (.lit (.int .i64 z5)))) (g0 rfl) rfl rfl rfl ?_
        obtain ⟨x9, h10, h⟩ := bind_some h
        refine o_of (e := [(HK, .hp (hpA x9.2)), (26, .t (.d (.lit (.bool x9.1))))]) (g0 rfl) (h_call (Mk.refl _) rfl (σ := []) (fr := []) rfl rfl rfl rfl rfl rfl rfl (fch_space_Space_Has _ _ z7 _ h10) (pure_hpA _) (pure_hpA _) rfl rfl rfl rfl (.cons (.hpt _ _) (.cons (.plain (.refl _) rfl) .nil)) rfl (.t (.flat rfl))) rfl ?_
        refine o_s (.t (.d (.lit (.bool (!x9.1))))) (g0 rfl) rfl rfl rfl ?_
        refine o_s (.t (.d (.lit (.bool (!x9.1))))) (g0 rfl) rfl rfl rfl ?_
        refine o_nil ?_
        repeat (first | refine then_normal ?_ | refine then_exit ?_ | refine then_ret ?_ | refine block_normal ?_ | refine block_ret ?_ | refine block_exit ?_ | refine block_pass rfl ?_)
        rcases bif_some h with ⟨h11, h⟩ | ⟨h11, h⟩
        · refine c_t h11 rfl ?_
          refine c_skip ?_
          repeat (first | refine then_normal ?_ | refine then_exit ?_ | refine then_ret ?_ | refine block_normal ?_ | refine block_ret ?_ | refine block_exit ?_ | refine block_pass rfl ?_)
          refine c_region ?_
          refine o_s (.t (.d (.lit (.int .i64 (wi (z5 + 1)))))) (g0 rfl) rfl rfl rfl ?_
          refine o_s (.t (.d (.lit (.int .i64 (wi (z5 + 1)))))) (g0 rfl) rfl rfl rfl ?_
          refine o_nil ?_
          repeat (first | refine then_normal ?_ | refine then_exit ?_ | refine then_ret ?_ | refine block_normal ?_ | refine block_ret ?_ | refine block_exit ?_ | refine block_pass rfl ?_)
          exact ⟨nl1, ((wi (z5 + 1)), z6, x9.2), [], Nat.lt_succ_self nl1, h, rfl, ⟨.inr ⟨_, rfl, pure_hpA _⟩, by (repeat (first | exact ObP.nil | refine ObP.cons (.inl rfl) ?_ | refine ObP.cons (.inr (fun _ => rfl)) ?_ | refine ObP.cons (.inr (ob_box (fl_noPt _ _))) ?_ | refine ObP.cons (.inr (ob_gb _ _)) ?_))⟩, ⟨(.refl _), ⟨(.refl _), ⟨(.refl _), ⟨(.refl _), ⟨(.refl _), ⟨(.refl _), trivial⟩⟩⟩⟩⟩⟩, (by ((refine nr_of ?_; repeat (first | exact nr_nil | refine nr_cons rfl ?_ | refine nr_cons (nr_gb _ _ _) ?_))))⟩
        · refine c_f h11 rfl ?_
          refine c_cutH (fun (y12 : Bool) => [(0, .t ((ptT 1 p0))), (3, .t (.view 0 0 68 2 z6.length)), (4, .t (.d (.lit (.int .i64 z5)))), (5, .t (.d (.lit (.int .i64 (z6.length : Int))))), (12, .t (.d (.lit (.int .i64 x3.n_)))), (13, .t (.d (.lit (.int .i64 z5)))), (28, .t (.d (.lit (.bool y12)))), ((OB + 0), gbA cS_api_Run z6), (HK, .hp (hpA x9.2))]) (fun (y12 : Bool) => m_space_Space_Runs_j2 (m_space_Space_Runs_l1 x3 i2 nl1) z6 z5 x9 y12 = some r) ?_ ?_
          · refine c_draw mixed (by kernel_rfl) ?_
            refine d_s (.t (.d (.lit (.int .i64 (z6.length : Int))))) rfl (dg0 rfl) rfl rfl rfl rfl ?_
            refine d_s (.t (.d (.lit (.bool (decide ((z6.length : Int) > 0)))))) rfl (dg0 rfl) rfl rfl rfl rfl ?_
            refine d_s (.t (.d (.lit (.bool (decide ((z6.length : Int) > 0)))))) rfl (dg0 rfl) rfl rfl rfl rfl ?_
            rcases bif_some h with ⟨h20, h⟩ | ⟨h20, h⟩
            · refine d_s (.t (.view 0 0 68 2 z6.length)) rfl (dgy rfl rfl rfl rfl h20) rfl rfl rfl rfl ?_
              refine d_s (.t (.d (.lit (.int .i64 (z6.length : Int))))) rfl (dgy rfl rfl rfl rfl h20) rfl rfl rfl rfl ?_
              refine d_s (.t (.d (.lit (.int .i64 (wi ((z6.length : Int) - 1)))))) rfl (dgy rfl rfl rfl rfl h20) rfl rfl rfl rfl ?_
              obtain ⟨x21, h22, h⟩ := bind_some h
              refine d_h (e := [(35, .ref (OB + 0) (0 + Int.toNat (wi ((z6.length : Int) - 1)) * 2))]) (ks := [35]) rfl (dgy rfl rfl rfl rfl h20) rfl rfl (fun S' hM hk hok => h_lix hM rfl rfl rfl rfl rfl (idxV rfl h22) rfl rfl (hok _ rfl rfl)) rfl ?_
              refine d_s (.ref (OB + 0) (0 + Int.toNat (wi ((z6.length : Int) - 1)) * 2 + 0)) rfl (dgy rfl rfl rfl rfl h20) rfl rfl rfl rfl ?_
              refine d_h (e := [(37, .t (.d (.lit (.int .i64 x21.From))))]) (ks := [37]) rfl (dgy rfl rfl rfl rfl h20) rfl rfl (fun S' hM hk hok => h_lld hM rfl rfl rfl (gb_box h22) (fl_at2 h22 rfl (fun _ => rfl)) rfl rfl (hok _ rfl rfl)) rfl ?_
              refine d_s (.t (.view 0 0 68 2 z6.length)) rfl (dgy rfl rfl rfl rfl h20) rfl rfl rfl rfl ?_
              refine d_s (.t (.d (.lit (.int .i64 (z6.length : Int))))) rfl (dgy rfl rfl rfl rfl h20) rfl rfl rfl rfl ?_
              refine d_s (.t (.d (.lit (.int .i64 (wi ((z6.length : Int) - 1)))))) rfl (dgy rfl rfl rfl rfl h20) rfl rfl rfl rfl ?_
              obtain ⟨x23, h24, h⟩ := bind_some h
              refine d_h (e := [(41, .ref (OB + 0) (0 + Int.toNat (wi ((z6.length : Int) - 1)) * 2))]) (ks := [41]) rfl (dgy rfl rfl rfl rfl h20) rfl rfl (fun S' hM hk hok => h_lix hM rfl rfl rfl rfl rfl (idxV rfl h24) rfl rfl (hok _ rfl rfl)) rfl ?_
              refine d_s (.ref (OB + 0) (0 + Int.toNat (wi ((z6.length : Int) - 1)) * 2 + 1)) rfl (dgy rfl rfl rfl rfl h20) rfl rfl rfl rfl ?_
              refine d_h (e := [(43, .t (.d (.lit (.int .i64 x23.Len))))]) (ks := [43]) rfl (dgy rfl rfl rfl rfl h20) rfl rfl (fun S' hM hk hok => h_lld hM rfl rfl rfl (gb_box h24) (fl_at2 h24 rfl (fun _ => rfl)) rfl rfl (hok _ rfl rfl)) rfl ?_
              refine d_s (.t (.d (.lit (.int .i64 (wi (x21.From + x23.Len)))))) rfl (dgy rfl rfl rfl rfl h20) rfl rfl rfl rfl ?_
              refine d_s (.t (.d (.lit (.int .i64 z5)))) rfl (dgy rfl rfl rfl rfl h20) rfl rfl rfl rfl ?_
              refine d_s (.t (.d (.lit (.bool ((wi (x21.From + x23.Len)) == z5))))) rfl (dgy rfl rfl rfl rfl h20) rfl rfl rfl rfl ?_
              refine d_pk (.t (.d (.lit (.bool ((wi (x21.From + x23.Len)) == z5))))) (b := true) h20 rfl (dg0 rfl) rfl rfl rfl rfl rfl rfl ?_
              refine d_s (.t (.d (.lit (.bool ((wi (x21.From + x23.Len)) == z5))))) rfl (dg0 rfl) rfl rfl rfl rfl ?_
              refine d_nil (by kernel_rfl) ?_
              repeat (first | refine then_normal ?_ | refine then_exit ?_ | refine then_ret ?_ | refine block_normal ?_ | refine block_ret ?_ | refine block_exit ?_ | refine block_pass rfl ?_)
              exact ⟨((wi (x21.From + x23.Len)) == z5), [], h, rfl, ⟨.inr ⟨_, rfl, pure_hpA _⟩, by (repeat (first | exact ObP.nil | refine ObP.cons (.inl rfl) ?_ | refine ObP.cons (.inr (fun _ => rfl)) ?_ | refine ObP.cons (.inr (ob_box (fl_noPt _ _))) ?_ | refine ObP.cons (.inr (ob_gb _ _)) ?_))⟩, ⟨(.refl _), ⟨(.refl _), ⟨(.refl _), ⟨(.refl _), ⟨(.refl _), ⟨(.refl _), ⟨(.refl _), ⟨(.refl _), ⟨(.refl _), trivial⟩⟩⟩⟩⟩⟩⟩⟩⟩, (by ((refine nr_of ?_; repeat (first | exact nr_nil | refine nr_cons rfl ?_ | refine nr_cons (nr_gb _ _ _) ?_))))⟩
            · refine d_skip rfl rfl rfl rfl rfl h20 rfl rfl rfl ?_
              refine d_skip rfl rfl rfl rfl rfl h20 rfl rfl rfl ?_
              refine d_skip rfl rfl rfl rfl rfl h20 rfl rfl rfl ?_
              refine d_skip rfl rfl rfl rfl rfl h20 rfl rfl rfl ?_
              refine d_skip rfl rfl rfl rfl rfl h20 rfl rfl rfl ?_
              refine d_skip rfl rfl rfl rfl rfl h20 rfl rfl rfl ?_
              refine d_skip rfl rfl rfl rfl rfl h20 rfl rfl rfl ?_
              refine d_skip rfl rfl rfl rfl rfl h20 rfl rfl rfl ?_
              refine d_skip rfl rfl rfl rfl rfl h20 rfl rfl rfl ?_
              refine d_skip rfl rfl rfl rfl rfl h20 rfl rfl rfl ?_
              refine d_skip rfl rfl rfl rfl rfl h20 rfl rfl rfl ?_
              refine d_skip rfl rfl rfl rfl rfl h20 rfl rfl rfl ?_
              refine d_skip rfl rfl rfl rfl rfl h20 rfl rfl rfl ?_
              refine d_skip rfl rfl rfl rfl rfl h20 rfl rfl rfl ?_
              refine d_skip rfl rfl rfl rfl rfl h20 rfl rfl rfl ?_
              refine d_pk (.t (.d (.lit (.bool false)))) (b := false) h20 rfl (dg0 rfl) rfl rfl rfl rfl rfl rfl ?_
              refine d_s (.t (.d (.lit (.bool false)))) rfl (dg0 rfl) rfl rfl rfl rfl ?_
              refine d_nil (by kernel_rfl) ?_
              repeat (first | refine then_normal ?_ | refine then_exit ?_ | refine then_ret ?_ | refine block_normal ?_ | refine block_ret ?_ | refine block_exit ?_ | refine block_pass rfl ?_)
              exact ⟨false, [], h, rfl, ⟨.inr ⟨_, rfl, pure_hpA _⟩, by (repeat (first | exact ObP.nil | refine ObP.cons (.inl rfl) ?_ | refine ObP.cons (.inr (fun _ => rfl)) ?_ | refine ObP.cons (.inr (ob_box (fl_noPt _ _))) ?_ | refine ObP.cons (.inr (ob_gb _ _)) ?_))⟩, ⟨(.refl _), ⟨(.refl _), ⟨(.refl _), ⟨(.refl _), ⟨(.refl _), ⟨(.refl _), ⟨(.refl _), ⟨(.refl _), ⟨(.refl _), trivial⟩⟩⟩⟩⟩⟩⟩⟩⟩, (by ((refine nr_of ?_; repeat (first | exact nr_nil | refine nr_cons rfl ?_ | refine nr_cons (nr_gb _ _ _) ?_))))⟩
          · rintro y12 h
            rcases bif_some h with ⟨h13, h⟩ | ⟨h13, h⟩
            · refine c_t h13 rfl ?_
              refine c_region ?_
              refine o_s (.t (.view 0 0 68 2 z6.length)) (g0 rfl) rfl rfl rfl ?_
              refine o_s (.t (.d (.lit (.int .i64 (z6.length : Int))))) (g0 rfl) rfl rfl rfl ?_
              refine o_s (.t (.d (.lit (.int .i64 (wi ((z6.length : Int) - 1)))))) (g0 rfl) rfl rfl rfl ?_
              obtain ⟨x14, h15, h⟩ := bind_some h
              refine o_of (e := [(51, .ref (OB + 0) (0 + Int.toNat (wi ((z6.length : Int) - 1)) * 2))]) (g0 rfl) (h_lix (Mk.refl _) rfl rfl rfl rfl rfl (idxV rfl h15) rfl rfl rfl) rfl ?_
              refine o_s (.ref (OB + 0) (0 + Int.toNat (wi ((z6.length : Int) - 1)) * 2 + 1)) (g0 rfl) rfl rfl rfl ?_
              refine o_of (e := [(53, .t (.d (.lit (.int .i64 x14.Len))))]) (g0 rfl) (h_lld (Mk.refl _) rfl rfl rfl (gb_box h15) (fl_at2 h15 rfl (fun _ => rfl)) rfl rfl rfl) rfl ?_
              refine o_s (.t (.d (.lit (.int .i64 (wi (x14.Len + 1)))))) (g0 rfl) rfl rfl rfl ?_
              obtain ⟨x16, h17, h⟩ := bind_some h
              refine o_of (e := [(55, .ref (OB + 0) (0 + Int.toNat (wi ((z6.length : Int) - 1)) * 2))]) (g0 rfl) (h_lix (Mk.refl _) rfl rfl rfl rfl rfl (idxV rfl h17) rfl rfl rfl) rfl ?_
              refine o_s (.ref (OB + 0) (0 + Int.toNat (wi ((z6.length : Int) - 1)) * 2 + 1)) (g0 rfl) rfl rfl rfl ?_
              refine o_of (e := [((OB + 0), gbA cS_api_Run (z6.set (Int.toNat (wi ((z6.length : Int) - 1))) (S_api_Run.mk x16.From (wi (x14.Len + 1)))))]) (g0 rfl) (OpH.ob (h_lst (Mk.refl _) rfl rfl rfl rfl (gb_box h17) rfl rfl (fl_room2 (c := cS_api_Run) (k := 2) h17 (fun _ => rfl) rfl) (fl_put2 (c := cS_api_Run) (k := 2) h17 (S_api_Run.mk x16.From (wi (x14.Len + 1))) (fun _ => rfl) rfl rfl)) (gb_set h17)) rfl ?_
              refine o_nil ?_
              repeat (first | refine then_normal ?_ | refine then_exit ?_ | refine then_ret ?_ | refine block_normal ?_ | refine block_ret ?_ | refine block_exit ?_ | refine block_pass rfl ?_)
              refine c_region ?_
              refine o_s (.t (.d (.lit (.int .i64 (wi (z5 + 1)))))) (g0 rfl) rfl rfl rfl ?_
              refine o_s (.t (.d (.lit (.int .i64 (wi (z5 + 1)))))) (g0 rfl) rfl rfl rfl ?_
              refine o_nil ?_
              repeat (first | refine then_normal ?_ | refine then_exit ?_ | refine then_ret ?_ | refine block_normal ?_ | refine block_ret ?_ | refine block_exit ?_ | refine block_pass rfl ?_)
              exact ⟨nl1, ((wi (z5 + 1)), (z6.set (Int.toNat (wi ((z6.length : Int) - 1))) (S_api_Run.mk x16.From (wi (x14.Len + 1)))), x9.2), [], Nat.lt_succ_self nl1, h, rfl, ⟨.inr ⟨_, rfl, pure_hpA _⟩, by (repeat (first | exact ObP.nil | refine ObP.cons (.inl rfl) ?_ | refine ObP.cons (.inr (fun _ => rfl)) ?_ | refine ObP.cons (.inr (ob_box (fl_noPt _ _))) ?_ | refine ObP.cons (.inr (ob_gb _ _)) ?_))⟩, ⟨(.refl _), ⟨(.vwn (by simp)), ⟨(.refl _), ⟨(.refl _), ⟨(.refl _), ⟨(.refl _), trivial⟩⟩⟩⟩⟩⟩, (by ((refine nr_of ?_; repeat (first | exact nr_nil | refine nr_cons rfl ?_ | refine nr_cons (nr_gb _ _ _) ?_))))⟩
            · refine c_f h13 rfl ?_
              refine c_region ?_
              refine o_s (.t (.view 0 0 68 2 z6.length)) (g0 rfl) rfl rfl rfl ?_
              refine o_s (.t (.d (.lit (.int .i64 z5)))) (g0 rfl) rfl rfl rfl ?_
              refine o_s (.t (.agg [.lit (.int .i64 z5), .lit (.int .i64 1)])) (g0 rfl) rfl rfl rfl ?_
              refine o_s (.t (.own 68 2 (List.map cS_api_Run [(S_api_Run.mk z5 1)]))) (g0 rfl) rfl rfl rfl ?_
              obtain ⟨x18, h19, h⟩ := bind_some h
              refine o_of (e := [(3, .any), (18, .any), ((OB + 0), gbA cS_api_Run x18), (22, .t (.view 0 0 68 2 x18.length))]) (g0 rfl) (h_apgI (c := cS_api_Run) (Mk.refl _) [3, 18] h19 rfl rfl rfl rfl (fun _ => rfl) rfl (by simp) rfl rfl rfl (NoM.get (by (repeat (first | exact NoM.nil | refine NoM.skip rfl ?_ | refine NoM.cons rfl ?_ | refine NoM.cons (ptT_ment _ _ _) ?_ | refine NoM.cons (ob_box (fl_noPt _ _) _) ?_ | refine NoM.cons (ob_gb _ _ _) ?_)))) (.inr ⟨_, rfl, pure_hpA _⟩) rfl) rfl ?_
              refine o_s (.t (.view 0 0 68 2 x18.length)) (g0 rfl) rfl rfl rfl ?_
              refine o_nil ?_
              repeat (first | refine then_normal ?_ | refine then_exit ?_ | refine then_ret ?_ | refine block_normal ?_ | refine block_ret ?_ | refine block_exit ?_ | refine block_pass rfl ?_)
              refine c_region ?_
              refine o_s (.t (.d (.lit (.int .i64 (wi (z5 + 1)))))) (g0 rfl) rfl rfl rfl ?_
              refine o_s (.t (.d (.lit (.int .i64 (wi (z5 + 1)))))) (g0 rfl) rfl rfl rfl ?_
              refine o_nil ?_
              repeat (first | refine then_normal ?_ | refine then_exit ?_ | refine then_ret ?_ | refine block_normal ?_ | refine block_ret ?_ | refine block_exit ?_ | refine block_pass rfl ?_)
              exact ⟨nl1, ((wi (z5 + 1)), x18, x9.2), [], Nat.lt_succ_self nl1, h, rfl, ⟨.inr ⟨_, rfl, pure_hpA _⟩, by (repeat (first | exact ObP.nil | refine ObP.cons (.inl rfl) ?_ | refine ObP.cons (.inr (fun _ => rfl)) ?_ | refine ObP.cons (.inr (ob_box (fl_noPt _ _))) ?_ | refine ObP.cons (.inr (ob_gb _ _)) ?_))⟩, ⟨(.refl _), ⟨(.refl _), ⟨(.refl _), ⟨(.refl _), ⟨(.refl _), ⟨(.refl _), trivial⟩⟩⟩⟩⟩⟩, (by ((refine nr_of ?_; repeat (first | exact nr_nil | refine nr_cons rfl ?_ | refine nr_cons (nr_gb _ _ _) ?_))))⟩
      · refine c_f h8 rfl ?_
        refine c_exit ?_
        repeat (first | refine then_normal ?_ | refine then_exit ?_ | refine then_ret ?_ | refine block_normal ?_ | refine block_ret ?_ | refine block_exit ?_ | refine block_pass rfl ?_)
        refine c_seq ?_
        refine c_region ?_
        refine o_s (.t (.view 0 0 68 2 z6.length)) (g0 rfl) rfl rfl rfl ?_
        refine o_s (.t (.view 0 0 68 2 z6.length)) (g0 rfl) rfl rfl rfl ?_
        refine o_nil ?_
        repeat (first | refine then_normal ?_ | refine then_exit ?_ | refine then_ret ?_ | refine block_normal ?_ | refine block_ret ?_ | refine block_exit ?_ | refine block_pass rfl ?_)
        refine c_frzG (cc := cS_api_Run) (y := (z6 : List S_api_Run)) (k := 2) 2 0 rfl rfl (fun _ => rfl) rfl ⟨.inr ⟨_, rfl, pure_hpA _⟩, by (repeat (first | exact ObP.nil | refine ObP.cons (.inl rfl) ?_ | refine ObP.cons (.inr (fun _ => rfl)) ?_ | refine ObP.cons (.inr (ob_box (fl_noPt _ _))) ?_ | refine ObP.cons (.inr (ob_gb _ _)) ?_))⟩ rfl ?_
        refine c_ret ?_
        repeat (first | refine then_normal ?_ | refine then_exit ?_ | refine then_ret ?_ | refine block_normal ?_ | refine block_ret ?_ | refine block_exit ?_ | refine block_pass rfl ?_)
        obtain rfl := Option.some.inj h
        exact ⟨⟨_, rfl, (.refl _)⟩, trivial, rfl⟩

theorem fch_space_Space_Bytes (p0 : (Option Nat)) (w0 : Hp) (r : ((List UInt8) × Hp)) (h : m_space_Space_Bytes p0 w0 = some r) : FCH Tryd.prog 18 [.t ((ptT 1 p0))] [] [] (hpA w0) (hpA r.2) (.t (.d (.seq 1 (bytesD r.1)))) := by
  refine fch_mk (rs := [.tmp 2]) (n := 38) [0] Tryd.func18 rfl rfl (Nat.le_of_ble_eq_true rfl) rfl (pins := []) rfl (L := [(HK, .hp (hpA w0)), (OB + 0, .free), (0, .t ((ptT 1 p0)))]) rfl ?_
  refine c_seq ?_
  refine c_region ?_
  refine o_s (.t (.d (.lit (.slice none 0 0)))) (g0 rfl) rfl rfl rfl ?_
  refine o_nil ?_
  repeat (first | refine then_normal ?_ | refine then_exit ?_ | refine then_ret ?_ | refine block_normal ?_ | refine block_ret ?_ | refine block_exit ?_ | refine block_pass rfl ?_)
  refine c_seq ?_
  refine c_seq ?_
  refine c_region ?_
  refine o_of (e := [(5, .t ((ptT 1 p0)))]) (g0 rfl) (h_mv (Mk.refl _) (.inl rfl) (cpO_pt rfl) rfl rfl) rfl ?_
  rcases ptM_some h with ⟨h1, h⟩ | ⟨i2, h1, h⟩
  · refine o_of (e := [(6, .t (.d (.lit (.bool true))))]) (g0 rfl) (h_pn (Mk.refl _) (ng := false) rfl rfl rfl (pn_none rfl h1) rfl rfl) rfl ?_
    refine o_nil ?_
    repeat (first | refine then_normal ?_ | refine then_exit ?_ | refine then_ret ?_ | refine block_normal ?_ | refine block_ret ?_ | refine block_exit ?_ | refine block_pass rfl ?_)
    refine c_t rfl rfl ?_
    refine c_seq ?_
    refine c_region ?_
    refine o_s (.t (.d (.lit (.slice none 0 0)))) (g0 rfl) rfl rfl rfl ?_
    refine o_nil ?_
    repeat (first | refine then_normal ?_ | refine then_exit ?_ | refine then_ret ?_ | refine block_normal ?_ | refine block_ret ?_ | refine block_exit ?_ | refine block_pass rfl ?_)
    refine c_ret ?_
    repeat (first | refine then_normal ?_ | refine then_exit ?_ | refine then_ret ?_ | refine block_normal ?_ | refine block_ret ?_ | refine block_exit ?_ | refine block_pass rfl ?_)
    obtain rfl := Option.some.inj h
    exact ⟨⟨_, rfl, (.t (.d (.nil _)))⟩, trivial, rfl⟩
  · refine o_of (e := [(6, .t (.d (.lit (.bool false))))]) (g0 rfl) (h_pn (Mk.refl _) (ng := false) rfl rfl rfl (pn_some rfl h1) rfl rfl) rfl ?_
    refine o_nil ?_
    repeat (first | refine then_normal ?_ | refine then_exit ?_ | refine then_ret ?_ | refine block_normal ?_ | refine block_ret ?_ | refine block_exit ?_ | refine block_pass rfl ?_)
    refine c_f rfl rfl ?_
    refine c_skip ?_
    repeat (first | refine then_normal ?_ | refine then_exit ?_ | refine then_ret ?_ | refine block_normal ?_ | refine block_ret ?_ | refine block_exit ?_ | refine block_pass rfl ?_)
    refine c_seq ?_
    refine c_region ?_
    refine o_of (e := [(7, .t (.hpt (cd 1 i2) 0))]) (g0 rfl) (h_mv (Mk.refl _) (.inl rfl) ((cpO_pt rfl).trans (pt_eq_some h1)) rfl rfl) rfl ?_
    refine o_of (e := [(8, .t (.hpt (cd 1 i2) 0))]) (g0 rfl) (h_nc (Mk.refl _) rfl rfl rfl rfl rfl) rfl ?_
    refine o_of (e := [(9, .t (.hpt (cd 1 i2) 0))]) (g0 rfl) (h_fd (Mk.refl _) rfl rfl rfl rfl rfl rfl) rfl ?_
    obtain ⟨x3, h4, h⟩ := bind_some h
    refine o_of (e := [(10, .t (.d (.lit (.int .i64 x3.n_))))]) (g0 rfl) (h_ld (Mk.refl _) rfl rfl rfl rfl (gl_space h4) rfl rfl rfl rfl) rfl ?_
    refine o_s (.t (.d (.lit (.int .i64 (wi (x3.n_ + 7)))))) (g0 rfl) rfl rfl rfl ?_
    refine o_s (.t (.d (.lit (.int .i64 (wi (Int.tdiv (wi (x3.n_ + 7)) 8)))))) (g0 rfl) rfl rfl rfl ?_
    obtain ⟨x5, h6, h⟩ := bind_some h
    refine o_of (e := [((OB + 0), .box (fl (dT cU8) (List.replicate x5 (0 : UInt8)))), (13, .t (.view 0 0 5 1 x5))]) (g0 rfl) (h_mkl (Mk.refl _) rfl rfl rfl rfl rfl rfl rfl rfl rfl h6 (fl_rep (c := cU8) (z := (0 : UInt8)) rfl x5) rfl rfl rfl rfl) rfl ?_
    refine o_s (.t (.view 0 0 5 1 x5)) (g0 rfl) rfl rfl rfl ?_
    refine o_nil ?_
    repeat (first | refine then_normal ?_ | refine then_exit ?_ | refine then_ret ?_ | refine block_normal ?_ | refine block_ret ?_ | refine block_exit ?_ | refine block_pass rfl ?_)
    refine c_seq ?_
    refine c_seq ?_
    refine c_region ?_
    refine o_s (.t (.view 0 0 5 1 x5)) (g0 rfl) rfl rfl rfl ?_
    refine o_of (e := [(15, .t (.d (.lit (.int .i64 ((x5 : Nat) : Int)))))]) (g0 rfl) (h_lln (Mk.refl _) rfl rfl rfl rfl rfl rfl) rfl ?_
    refine o_s (.t (.d (.lit (.int .i64 0)))) (g0 rfl) rfl rfl rfl ?_
    refine o_nil ?_
    repeat (first | refine then_normal ?_ | refine then_exit ?_ | refine then_ret ?_ | refine block_normal ?_ | refine block_ret ?_ | refine block_exit ?_ | refine block_pass rfl ?_)
    refine c_block ?_
    refine c_fuelH (fun (q : Int × (List UInt8)) => [(0, .t ((ptT 1 p0))), (3, .t (.view 0 0 5 1 q.2.length)), (15, .t (.d (.lit (.int .i64 ((x5 : Nat) : Int))))), (16, .t (.d (.lit (.int .i64 q.1)))), ((OB + 0), .box (fl (dT cU8) q.2)), (HK, .hp (hpA w0))]) (fun nl1 => (fun (q : Int × (List UInt8)) => m_space_Space_Bytes_l1 x5 x3 w0 nl1 q.1 q.2 = some r)) (Int.toNat ((x5 : Nat) : Int) + 1) (0, (List.replicate x5 (0 : UInt8))) [] h rfl ⟨.inr ⟨_, rfl, pure_hpA _⟩, by (repeat (first | exact ObP.nil | refine ObP.cons (.inl rfl) ?_ | refine ObP.cons (.inr (fun _ => rfl)) ?_ | refine ObP.cons (.inr (ob_box (fl_noPt _ _))) ?_ | refine ObP.cons (.inr (ob_gb _ _)) ?_))⟩ ⟨(.refl _), ⟨(.vwn (by simp)), ⟨(.refl _), ⟨(.refl _), ⟨(.refl _), ⟨(.refl _), trivial⟩⟩⟩⟩⟩⟩ rfl ?_
    rintro nl1 ⟨z7, z8⟩ h
    cases nl1 with
    | zero => exact none_ne h
    | succ nl1 =>
      refine c_seq ?_
      refine c_region ?_
      refine o_s (.t (.d (.lit (.bool (decide (z7 < ((x5 : Nat) : Int))))))) (g0 rfl) rfl rfl rfl ?_
      refine o_nil ?_
      repeat (first | refine then_normal ?_ | refine then_exit ?_ | refine then_ret ?_ | refine block_normal ?_ | refine block_ret ?_ | refine block_exit ?_ | refine block_pass rfl ?_)
      refine c_seq ?_
      rcases bif_some h with ⟨h9, h⟩ | ⟨h9, h⟩
      · refine c_t h9 rfl ?_
        refine c_skip ?_
        repeat (first | refine then_normal ?_ | refine then_exit ?_ | refine then_ret ?_ | refine block_normal ?_ | refine block_ret ?_ | refine block_exit ?_ | refine block_pass rfl ?_)
        refine c_seq ?_
        refine c_block ?_
        refine c_seq ?_
        refine c_region ?_
        refine o_s (.t (.d (.lit (.int .i64 z7)))) (g0 rfl) rfl rfl rfl ?_
        refine o_s (.t (.d (.lit (.int .i64 z7)))) (g0 rfl) rfl rfl rfl ?_
        refine o_nil ?_
        repeat (first | refine then_normal ?_ | refine then_exit ?_ | refine then_ret ?_ | refine block_normal ?_ | refine block_ret ?_ | refine block_exit ?_ | refine block_pass rfl ?_)
        refine c_region ?_
        refine o_s (.t (.view 0 0 5 1 z8.length)) (g0 rfl) rfl rfl rfl ?_
        refine o_s (.t (.d (.lit (.int .i64 z7)))) (g0 rfl) rfl rfl rfl ?_
        refine o_of (e := [(21, .t (.hpt (cd 1 i2) 0))]) (g0 rfl) (h_mv (Mk.refl _) (.inl rfl) ((cpO_pt rfl).trans (pt_eq_some h1)) rfl rfl) rfl ?_
        refine o_of (e := [(22, .t (.hpt (cd 1 i2) 0))]) (g0 rfl) (h_nc (Mk.refl _) rfl rfl rfl rfl rfl) rfl ?_
        refine o_of (e := [(23, .t (.hpt (cd 1 i2) 2))]) (g0 rfl) (h_fd (Mk.refl _) rfl rfl rfl rfl rfl rfl) rfl ?_
        refine o_of (e := [(24, .t (.hvw (cd 2 i2) 0 62 1 x3.l_.length))]) (g0 rfl) (h_ld (Mk.refl _) rfl rfl rfl rfl (gl_space h4) rfl rfl rfl rfl) rfl ?_
        refine o_s (.t (.d (.lit (.int .i64 z7)))) (g0 rfl) rfl rfl rfl ?_
        refine o_s (.t (.d (.lit (.int .i64 (wi (Int.tdiv z7 8)))))) (g0 rfl) rfl rfl rfl ?_
        obtain ⟨x10, h11, h⟩ := bind_some h
        refine o_of (e := [(27, .t (.hpt (cd 2 i2) (0 + Int.toNat (wi (Int.tdiv z7 8)) * 1)))]) (g0 rfl) (h_ix (Mk.refl _) rfl rfl rfl rfl (idxV rfl h11) rfl rfl rfl) rfl ?_
        refine o_of (e := [(28, .t (.d (.lit (.int .u64 x10))))]) (g0 rfl) (h_ld (Mk.refl _) rfl rfl rfl rfl (gl_space_l h4) (fl_at h11 rfl (fun _ => rfl)) rfl rfl rfl) rfl ?_
        refine o_s (.t (.d (.lit (.int .i64 z7)))) (g0 rfl) rfl rfl rfl ?_
        refine o_s (.t (.d (.lit (.int .i64 (Int.tmod z7 8))))) (g0 rfl) rfl rfl rfl ?_
        refine o_s (.t (.d (.lit (.int .i64 (wi (8 * (Int.tmod z7 8))))))) (g0 rfl) rfl rfl rfl ?_
        refine o_s (.t (.d (.lit (.int .u64 (IntKind.u64.wrap (wi (8 * (Int.tmod z7 8)))))))) (g0 rfl) rfl rfl rfl ?_
        obtain ⟨x12, h13, h⟩ := bind_some h
        refine o_b (.t (.d (.lit (.int .u64 x12)))) (shrIE h13) (g0 rfl) rfl rfl rfl rfl rfl rfl rfl ?_
        refine o_c (g0 rfl) rfl rfl rfl (congrArg (fun z => A.t (.d (.lit (.int .u8 z)))) (u8c _)) trivial ?_
        obtain ⟨x14, h15, h⟩ := bind_some h
        refine o_of (e := [(35, .ref (OB + 0) (0 + Int.toNat z7 * 1))]) (g0 rfl) (h_lix (Mk.refl _) rfl rfl rfl rfl rfl (idxV rfl h15) rfl rfl rfl) rfl ?_
        refine o_of (e := [((OB + 0), .box (fl (dT cU8) (z8.set (Int.toNat z7) (U8 x12))))]) (g0 rfl) (h_lst (Mk.refl _) rfl rfl rfl rfl rfl rfl rfl (fl_room h15 (fun _ => rfl)) (fl_put h15 (U8 x12) (fun _ => rfl) rfl)) rfl ?_
        refine o_nil ?_
        repeat (first | refine then_normal ?_ | refine then_exit ?_ | refine then_ret ?_ | refine block_normal ?_ | refine block_ret ?_ | refine block_exit ?_ | refine block_pass rfl ?_)
        refine c_region ?_
        refine o_s (.t (.d (.lit (.int .i64 (wi (z7 + 1)))))) (g0 rfl) rfl rfl rfl ?_
        refine o_s (.t (.d (.lit (.int .i64 (wi (z7 + 1)))))) (g0 rfl) rfl rfl rfl ?_
        refine o_nil ?_
        repeat (first | refine then_normal ?_ | refine then_exit ?_ | refine then_ret ?_ | refine block_normal ?_ | refine block_ret ?_ | refine block_exit ?_ | refine block_pass rfl ?_)
        exact ⟨nl1, ((wi (z7 + 1)), (z8.set (Int.toNat z7) (U8 x12))), [], Nat.lt_succ_self nl1, h, rfl, ⟨.inr ⟨_, rfl, pure_hpA _⟩, by (repeat (first | exact ObP.nil | refine ObP.cons (.inl rfl) ?_ | refine ObP.cons (.inr (fun _ => rfl)) ?_ | refine ObP.cons (.inr (ob_box (fl_noPt _ _))) ?_ | refine ObP.cons (.inr (ob_gb _ _)) ?_))⟩, ⟨(.refl _), ⟨(.vwn (by simp)), ⟨(.refl _), ⟨(.refl _), ⟨(.refl _), ⟨(.refl _), trivial⟩⟩⟩⟩⟩⟩, rfl⟩
      · refine c_f h9 rfl ?_
        refine c_exit ?_
        repeat (first | refine then_normal ?_ | refine then_exit ?_ | refine then_ret ?_ | refine block_normal ?_ | refine block_ret ?_ | refine block_exit ?_ | refine block_pass rfl ?_)
        refine c_seq ?_
        refine c_region ?_
        refine o_s (.t (.view 0 0 5 1 z8.length)) (g0 rfl) rfl rfl rfl ?_
        refine o_s (.t (.view 0 0 5 1 z8.length)) (g0 rfl) rfl rfl rfl ?_
        refine o_nil ?_
        repeat (first | refine then_normal ?_ | refine then_exit ?_ | refine then_ret ?_ | refine block_normal ?_ | refine block_ret ?_ | refine block_exit ?_ | refine block_pass rfl ?_)
        refine c_frz 2 0 rfl rfl (by simp) (fl_flat _ _) (map_row (c := cU8) (fun _ => rfl) _) rfl ⟨.inr ⟨_, rfl, pure_hpA _⟩, by (repeat (first | exact ObP.nil | refine ObP.cons (.inl rfl) ?_ | refine ObP.cons (.inr (fun _ => rfl)) ?_ | refine ObP.cons (.inr (ob_box (fl_noPt _ _))) ?_ | refine ObP.cons (.inr (ob_gb _ _)) ?_))⟩ rfl ?_
        refine c_ret ?_
        repeat (first | refine then_normal ?_ | refine then_exit ?_ | refine then_ret ?_ | refine block_normal ?_ | refine block_ret ?_ | refine block_exit ?_ | refine block_pass rfl ?_)
        obtain rfl := Option.some.inj h
        exact ⟨⟨_, rfl, (.refl _)⟩, trivial, rfl⟩

theorem fc_math_bits_OnesCount8 (p0 : UInt8) (r : Int) (h : m_math_bits_OnesCount8 p0 = some r) : FC Tryd.prog 31 [.t (.d (.lit (.int .u8 (p0.toNat : Int))))] [] (.t (.d (.lit (.int .i64 r)))) := by
  refine fc_mk (rs := [.tmp 2]) (n := 6) Tryd.func31 rfl rfl (Nat.le_of_ble_eq_true rfl) rfl (pins := []) rfl (L := [(0, .t (.d (.lit (.int .u8 (p0.toNat : Int)))))]) rfl ?_
  refine c_seq ?_
  refine c_region ?_
  refine o_s (.t (.d (.lit (.int .i64 0)))) (g0 rfl) rfl rfl rfl ?_
  refine o_nil ?_
  repeat (first | refine then_normal ?_ | refine then_exit ?_ | refine then_ret ?_ | refine block_normal ?_ | refine block_ret ?_ | refine block_exit ?_ | refine block_pass rfl ?_)
  refine c_seq ?_
  refine c_region ?_
  refine o_s (.t (.d (.lit (.int .u8 (p0.toNat : Int))))) (g0 rfl) rfl rfl rfl ?_
  obtain ⟨x1, h2, h⟩ := bind_some h
  refine o_c (g0 rfl) rfl rfl rfl (strIdxE h2) (strIdxC h2) ?_
  refine o_c (g0 rfl) rfl rfl rfl (congrArg (fun z => A.t (.d (.lit (.int .i64 z)))) (i64_u8 _)) trivial ?_
  refine o_s (.t (.d (.lit (.int .i64 (x1.toNat : Int))))) (g0 rfl) rfl rfl rfl ?_
  refine o_nil ?_
  repeat (first | refine then_normal ?_ | refine then_exit ?_ | refine then_ret ?_ | refine block_normal ?_ | refine block_ret ?_ | refine block_exit ?_ | refine block_pass rfl ?_)
  refine c_ret ?_
  repeat (first | refine then_normal ?_ | refine then_exit ?_ | refine then_ret ?_ | refine block_normal ?_ | refine block_ret ?_ | refine block_exit ?_ | refine block_pass rfl ?_)
  obtain rfl := Option.some.inj h
  exact end0 rfl (.refl _)

theorem fch_space_Read (p0 : Int) (p1 : (List UInt8)) (w0 : Hp) (r : ((Option Nat) × Int × Hp)) (h : m_space_Read p0 p1 w0 = some r) : FCH Tryd.prog 21 [.t (.d (.lit (.int .i64 p0))), .t (.d (.seq 1 (bytesD p1)))] [] [] (hpA w0) (hpA r.2.2) (.tup [(ptT 1 r.1), .d (.lit (.int .i64 r.2.1))]) := by
  refine fch_mk (rs := [.tmp 4, .tmp 5]) (n := 84) [] Tryd.func21 rfl rfl (Nat.le_of_ble_eq_true rfl) rfl (pins := []) rfl (L := [(HK, .hp (hpA w0)), (0, .t (.d (.lit (.int .i64 p0)))), (1, .t (.d (.seq 1 (bytesD p1))))]) rfl ?_
  refine c_seq ?_
  refine c_region ?_
  refine o_of (e := [(4, .t (.d (.lit (.pointer none))))]) (g0 rfl) (h_mv (Mk.refl _) (.inr rfl) rfl rfl rfl) rfl ?_
  refine o_s (.t (.d (.lit (.int .i64 0)))) (g0 rfl) rfl rfl rfl ?_
  refine o_nil ?_
  repeat (first | refine then_normal ?_ | refine then_exit ?_ | refine then_ret ?_ | refine block_normal ?_ | refine block_ret ?_ | refine block_exit ?_ | refine block_pass rfl ?_)
  refine c_seq ?_
  refine c_region ?_
  refine o_s (.t (.d (.lit (.int .i64 p0)))) (g0 rfl) rfl rfl rfl ?_
  obtain ⟨x1, h2, h⟩ := bind_some h
  refine o_of (e := [(HK, .hp (hpA x1.2.2)), (13, .tup [(ptT 1 x1.1), .d (.lit (.int .i64 x1.2.1))])]) (g0 rfl) (h_call (Mk.refl _) rfl (σ := []) (fr := []) rfl rfl rfl rfl rfl rfl rfl (fch_space_New _ w0 _ h2) (pure_hpA _) (pure_hpA _) rfl rfl rfl rfl (.cons (.plain (.refl _) rfl) .nil) rfl (.tup (.cons (ptT_pt _ _) (.cons (.flat rfl) .nil)))) rfl ?_
  refine o_c (g0 rfl) rfl rfl rfl (congrArg A.tup (cp_cons (ptT_cp _ _) (cp_cons rfl cp_nil))) trivial ?_
  refine o_c (g0 rfl) rfl rfl rfl (congrArg A.t (ptT_cp _ _)) trivial ?_
  refine o_s (.t (.d (.lit (.int .i64 x1.2.1)))) (g0 rfl) rfl rfl rfl ?_
  refine o_of (e := [(6, .t ((ptT 1 x1.1)))]) (g0 rfl) (h_mv (Mk.refl _) (.inr rfl) (cpO_pt rfl) rfl rfl) rfl ?_
  refine o_s (.t (.d (.lit (.int .i64 x1.2.1)))) (g0 rfl) rfl rfl rfl ?_
  refine o_nil ?_
  repeat (first | refine then_normal ?_ | refine then_exit ?_ | refine then_ret ?_ | refine block_normal ?_ | refine block_ret ?_ | refine block_exit ?_ | refine block_pass rfl ?_)
  refine c_seq ?_
  refine c_region ?_
  refine o_s (.t (.d (.lit (.int .i64 p0)))) (g0 rfl) rfl rfl rfl ?_
  refine o_s (.t (.d (.lit (.int .i64 (wi (p0 + 7)))))) (g0 rfl) rfl rfl rfl ?_
  refine o_s (.t (.d (.lit (.int .i64 (wi (Int.tdiv (wi (p0 + 7)) 8)))))) (g0 rfl) rfl rfl rfl ?_
  refine o_s (.t (.d (.lit (.int .i64 (wi (Int.tdiv (wi (p0 + 7)) 8)))))) (g0 rfl) rfl rfl rfl ?_
  refine o_nil ?_
  repeat (first | refine then_normal ?_ | refine then_exit ?_ | refine then_ret ?_ | refine block_normal ?_ | refine block_ret ?_ | refine block_exit ?_ | refine block_pass rfl ?_)
  refine c_cutH (fun (_ : Unit) => [(1, .t (.d (.seq 1 (bytesD p1)))), (6, .t ((ptT 1 x1.1))), (HK, .hp (hpA x1.2.2))]) (fun (_ : Unit) => m_space_Read_j1 p1 x1 = some r) ?_ ?_
  · refine c_block ?_
    refine c_seq ?_
    refine c_region ?_
    refine o_s (.t (.d (.lit (.int .i64 x1.2.1)))) (g0 rfl) rfl rfl rfl ?_
    refine o_s (.t (.d (.lit (.bool (x1.2.1 != 0))))) (g0 rfl) rfl rfl rfl ?_
    refine o_s (.t (.d (.lit (.bool (x1.2.1 != 0))))) (g0 rfl) rfl rfl rfl ?_
    refine o_nil ?_
    repeat (first | refine then_normal ?_ | refine then_exit ?_ | refine then_ret ?_ | refine block_normal ?_ | refine block_ret ?_ | refine block_exit ?_ | refine block_pass rfl ?_)
    rcases bif_some h with ⟨h21, h⟩ | ⟨h21, h⟩
    · refine c_t h21 rfl ?_
      refine c_seq ?_
      refine c_region ?_
      refine o_s (.t (.d (.lit (.int .i64 x1.2.1)))) (g0 rfl) rfl rfl rfl ?_
      refine o_of (e := [(4, .t (.d (.lit (.pointer none))))]) (g0 rfl) (h_mv (Mk.refl _) (.inr rfl) rfl rfl rfl) rfl ?_
      refine o_s (.t (.d (.lit (.int .i64 x1.2.1)))) (g0 rfl) rfl rfl rfl ?_
      refine o_nil ?_
      repeat (first | refine then_normal ?_ | refine then_exit ?_ | refine then_ret ?_ | refine block_normal ?_ | refine block_ret ?_ | refine block_exit ?_ | refine block_pass rfl ?_)
      refine c_ret ?_
      repeat (first | refine then_normal ?_ | refine then_exit ?_ | refine then_ret ?_ | refine block_normal ?_ | refine block_ret ?_ | refine block_exit ?_ | refine block_pass rfl ?_)
      obtain rfl := Option.some.inj h
      exact ⟨⟨_, rfl, (.tup (.cons (.refl _) (.cons (.refl _) .nil)))⟩, trivial, rfl⟩
    · refine c_f h21 rfl ?_
      refine c_seq ?_
      refine c_region ?_
      refine o_s (.t (.d (.seq 1 (bytesD p1)))) (g0 rfl) rfl rfl rfl ?_
      refine o_c (g0 rfl) rfl rfl rfl (lenE _ _) trivial ?_
      refine o_s (.t (.d (.lit (.int .i64 (wi (Int.tdiv (wi (p0 + 7)) 8)))))) (g0 rfl) rfl rfl rfl ?_
      refine o_s (.t (.d (.lit (.bool (decide ((p1.length : Int) < (wi (Int.tdiv (wi (p0 + 7)) 8)))))))) (g0 rfl) rfl rfl rfl ?_
      refine o_s (.t (.d (.lit (.bool (decide ((p1.length : Int) < (wi (Int.tdiv (wi (p0 + 7)) 8)))))))) (g0 rfl) rfl rfl rfl ?_
      refine o_nil ?_
      repeat (first | refine then_normal ?_ | refine then_exit ?_ | refine then_ret ?_ | refine block_normal ?_ | refine block_ret ?_ | refine block_exit ?_ | refine block_pass rfl ?_)
      rcases bif_some h with ⟨h22, h⟩ | ⟨h22, h⟩
      · refine c_t h22 rfl ?_
        refine c_seq ?_
        refine c_region ?_
        refine o_of (e := [(4, .t (.d (.lit (.pointer none))))]) (g0 rfl) (h_mv (Mk.refl _) (.inr rfl) rfl rfl rfl) rfl ?_
        refine o_s (.t (.d (.lit (.int .i64 10)))) (g0 rfl) rfl rfl rfl ?_
        refine o_nil ?_
        repeat (first | refine then_normal ?_ | refine then_exit ?_ | refine then_ret ?_ | refine block_normal ?_ | refine block_ret ?_ | refine block_exit ?_ | refine block_pass rfl ?_)
        refine c_ret ?_
        repeat (first | refine then_normal ?_ | refine then_exit ?_ | refine then_ret ?_ | refine block_normal ?_ | refine block_ret ?_ | refine block_exit ?_ | refine block_pass rfl ?_)
        obtain rfl := Option.some.inj h
        exact ⟨⟨_, rfl, (.tup (.cons (.refl _) (.cons (.refl _) .nil)))⟩, trivial, rfl⟩
      · refine c_f h22 rfl ?_
        refine c_seq ?_
        refine c_region ?_
        refine o_s (.t (.d (.seq 1 (bytesD p1)))) (g0 rfl) rfl rfl rfl ?_
        refine o_c (g0 rfl) rfl rfl rfl (lenE _ _) trivial ?_
        refine o_s (.t (.d (.lit (.int .i64 (wi (Int.tdiv (wi (p0 + 7)) 8)))))) (g0 rfl) rfl rfl rfl ?_
        refine o_s (.t (.d (.lit (.bool (decide ((p1.length : Int) > (wi (Int.tdiv (wi (p0 + 7)) 8)))))))) (g0 rfl) rfl rfl rfl ?_
        refine o_s (.t (.d (.lit (.bool (decide ((p1.length : Int) > (wi (Int.tdiv (wi (p0 + 7)) 8)))))))) (g0 rfl) rfl rfl rfl ?_
        refine o_nil ?_
        repeat (first | refine then_normal ?_ | refine then_exit ?_ | refine then_ret ?_ | refine block_normal ?_ | refine block_ret ?_ | refine block_exit ?_ | refine block_pass rfl ?_)
        rcases bif_some h with ⟨h23, h⟩ | ⟨h23, h⟩
        · refine c_t h23 rfl ?_
          refine c_seq ?_
          refine c_region ?_
          refine o_of (e := [(4, .t (.d (.lit (.pointer none))))]) (g0 rfl) (h_mv (Mk.refl _) (.inr rfl) rfl rfl rfl) rfl ?_
          refine o_s (.t (.d (.lit (.int .i64 12)))) (g0 rfl) rfl rfl rfl ?_
          refine o_nil ?_
          repeat (first | refine then_normal ?_ | refine then_exit ?_ | refine then_ret ?_ | refine block_normal ?_ | refine block_ret ?_ | refine block_exit ?_ | refine block_pass rfl ?_)
          refine c_ret ?_
          repeat (first | refine then_normal ?_ | refine then_exit ?_ | refine then_ret ?_ | refine block_normal ?_ | refine block_ret ?_ | refine block_exit ?_ | refine block_pass rfl ?_)
          obtain rfl := Option.some.inj h
          exact ⟨⟨_, rfl, (.tup (.cons (.refl _) (.cons (.refl _) .nil)))⟩, trivial, rfl⟩
        · refine c_f h23 rfl ?_
          refine c_seq ?_
          refine c_region ?_
          refine o_s (.t (.d (.lit (.int .i64 p0)))) (g0 rfl) rfl rfl rfl ?_
          refine o_s (.t (.d (.lit (.int .i64 (Int.tmod p0 8))))) (g0 rfl) rfl rfl rfl ?_
          refine o_s (.t (.d (.lit (.bool ((Int.tmod p0 8) != 0))))) (g0 rfl) rfl rfl rfl ?_
          refine o_s (.t (.d (.lit (.bool ((Int.tmod p0 8) != 0))))) (g0 rfl) rfl rfl rfl ?_
          rcases bif_some h with ⟨h24, h⟩ | ⟨h24, h⟩
          · refine o_s (.t (.d (.seq 1 (bytesD p1)))) (gy rfl rfl rfl h24) rfl rfl rfl ?_
            refine o_s (.t (.d (.lit (.int .i64 (wi (Int.tdiv (wi (p0 + 7)) 8)))))) (gy rfl rfl rfl h24) rfl rfl rfl ?_
            refine o_s (.t (.d (.lit (.int .i64 (wi ((wi (Int.tdiv (wi (p0 + 7)) 8)) - 1)))))) (gy rfl rfl rfl h24) rfl rfl rfl ?_
            obtain ⟨x25, h26, h⟩ := bind_some h
            refine o_c (gy rfl rfl rfl h24) rfl rfl rfl (idxE h26) (idxC h26) ?_
            refine o_s (.t (.d (.lit (.int .u8 (x25.toNat : Int))))) (gy rfl rfl rfl h24) rfl rfl rfl ?_
            refine o_s (.t (.d (.lit (.int .i64 p0)))) (gy rfl rfl rfl h24) rfl rfl rfl ?_
            refine o_s (.t (.d (.lit (.int .i64 (Int.tmod p0 8))))) (gy rfl rfl rfl h24) rfl rfl rfl ?_
            refine o_s (.t (.d (.lit (.int .u64 (IntKind.u64.wrap (Int.tmod p0 8)))))) (gy rfl rfl rfl h24) rfl rfl rfl ?_
            obtain ⟨x27, h28, h⟩ := bind_some h
            refine o_b (.t (.d (.lit (.int .u8 x27)))) (shrIE h28) (gy rfl rfl rfl h24) rfl rfl rfl rfl rfl rfl rfl ?_
            refine o_s (.t (.d (.lit (.bool (x27 != 0))))) (gy rfl rfl rfl h24) rfl rfl rfl ?_
            refine o_pk (.t (.d (.lit (.bool (x27 != 0))))) (b := true) h24 (g0 rfl) rfl rfl rfl rfl rfl ?_
            refine o_s (.t (.d (.lit (.bool (x27 != 0))))) (g0 rfl) rfl rfl rfl ?_
            refine o_nil ?_
            repeat (first | refine then_normal ?_ | refine then_exit ?_ | refine then_ret ?_ | refine block_normal ?_ | refine block_ret ?_ | refine block_exit ?_ | refine block_pass rfl ?_)
            rcases bif_some h with ⟨h29, h⟩ | ⟨h29, h⟩
            · refine c_t h29 rfl ?_
              refine c_seq ?_
              refine c_region ?_
              refine o_of (e := [(4, .t (.d (.lit (.pointer none))))]) (g0 rfl) (h_mv (Mk.refl _) (.inr rfl) rfl rfl rfl) rfl ?_
              refine o_s (.t (.d (.lit (.int .i64 11)))) (g0 rfl) rfl rfl rfl ?_
              refine o_nil ?_
              repeat (first | refine then_normal ?_ | refine then_exit ?_ | refine then_ret ?_ | refine block_normal ?_ | refine block_ret ?_ | refine block_exit ?_ | refine block_pass rfl ?_)
              refine c_ret ?_
              repeat (first | refine then_normal ?_ | refine then_exit ?_ | refine then_ret ?_ | refine block_normal ?_ | refine block_ret ?_ | refine block_exit ?_ | refine block_pass rfl ?_)
              obtain rfl := Option.some.inj h
              exact ⟨⟨_, rfl, (.tup (.cons (.refl _) (.cons (.refl _) .nil)))⟩, trivial, rfl⟩
            · refine c_f h29 rfl ?_
              refine c_skip ?_
              repeat (first | refine then_normal ?_ | refine then_exit ?_ | refine then_ret ?_ | refine block_normal ?_ | refine block_ret ?_ | refine block_exit ?_ | refine block_pass rfl ?_)
              exact ⟨(), [], h, rfl, ⟨.inr ⟨_, rfl, pure_hpA _⟩, by (repeat (first | exact ObP.nil | refine ObP.cons (.inl rfl) ?_ | refine ObP.cons (.inr (fun _ => rfl)) ?_ | refine ObP.cons (.inr (ob_box (fl_noPt _ _))) ?_ | refine ObP.cons (.inr (ob_gb _ _)) ?_))⟩, ⟨(.refl _), ⟨(.refl _), ⟨(.refl _), trivial⟩⟩⟩, rfl⟩
          · refine o_skip rfl rfl rfl h24 rfl rfl ?_
            refine o_skip rfl rfl rfl h24 rfl rfl ?_
            refine o_skip rfl rfl rfl h24 rfl rfl ?_
            refine o_skip rfl rfl rfl h24 rfl rfl ?_
            refine o_skip rfl rfl rfl h24 rfl rfl ?_
            refine o_skip rfl rfl rfl h24 rfl rfl ?_
            refine o_skip rfl rfl rfl h24 rfl rfl ?_
            refine o_skip rfl rfl rfl h24 rfl rfl ?_
            refine o_skip rfl rfl rfl h24 rfl rfl ?_
            refine o_skip rfl rfl rfl h24 rfl rfl ?_
            refine o_pk (.t (.d (.lit (.bool false)))) (b := false) h24 (g0 rfl) rfl rfl rfl rfl rfl ?_
            refine o_s (.t (.d (.lit (.bool false)))) (g0 rfl) rfl rfl rfl ?_
            refine o_nil ?_
            repeat (first | refine then_normal ?_ | refine then_exit ?_ | refine then_ret ?_ | refine block_normal ?_ | refine block_ret ?_ | refine block_exit ?_ | refine block_pass rfl ?_)
            refine c_f rfl rfl ?_
            refine c_skip ?_
            repeat (first | refine then_normal ?_ | refine then_exit ?_ | refine then_ret ?_ | refine block_normal ?_ | refine block_ret ?_ | refine block_exit ?_ | refine block_pass rfl ?_)
            exact ⟨(), [], h, rfl, ⟨.inr ⟨_, rfl, pure_hpA _⟩, by (repeat (first | exact ObP.nil | refine ObP.cons (.inl rfl) ?_ | refine ObP.cons (.inr (fun _ => rfl)) ?_ | refine ObP.cons (.inr (ob_box (fl_noPt _ _))) ?_ | refine ObP.cons (.inr (ob_gb _ _)) ?_))⟩, ⟨(.refl _), ⟨(.refl _), ⟨(.refl _), trivial⟩⟩⟩, rfl⟩
  · rintro ⟨⟩ h
    refine c_cutH (fun (y3 : Hp) => [(6, .t ((ptT 1 x1.1))), (HK, .hp (hpA y3))]) (fun (y3 : Hp) => m_space_Read_j2 x1 y3 = some r) ?_ ?_
    · refine c_seq ?_
      refine c_region ?_
      refine o_s (.t (.d (.seq 1 (bytesD p1)))) (g0 rfl) rfl rfl rfl ?_
      refine o_c (g0 rfl) rfl rfl rfl (lenE _ _) trivial ?_
      refine o_s (.t (.d (.lit (.int .i64 0)))) (g0 rfl) rfl rfl rfl ?_
      refine o_nil ?_
      repeat (first | refine then_normal ?_ | refine then_exit ?_ | refine then_ret ?_ | refine block_normal ?_ | refine block_ret ?_ | refine block_exit ?_ | refine block_pass rfl ?_)
      refine c_block ?_
      refine c_fuelH (fun (q : Int × Hp) => [(6, .t ((ptT 1 x1.1))), (49, .t (.d (.seq 1 (bytesD p1)))), (50, .t (.d (.lit (.int .i64 (p1.length : Int))))), (51, .t (.d (.lit (.int .i64 q.1)))), (HK, .hp (hpA q.2))]) (fun nl3 => (fun (q : Int × Hp) => m_space_Read_l3 p1 x1 nl3 q.1 q.2 = some r)) (p1.length + 1) (0, x1.2.2) [] h rfl ⟨.inr ⟨_, rfl, pure_hpA _⟩, by (repeat (first | exact ObP.nil | refine ObP.cons (.inl rfl) ?_ | refine ObP.cons (.inr (fun _ => rfl)) ?_ | refine ObP.cons (.inr (ob_box (fl_noPt _ _))) ?_ | refine ObP.cons (.inr (ob_gb _ _)) ?_))⟩ ⟨(.refl _), ⟨(.refl _), ⟨(.refl _), ⟨(.refl _), ⟨(.refl _), trivial⟩⟩⟩⟩⟩ rfl ?_
      rintro nl3 ⟨z4, z5⟩ h
      cases nl3 with
      | zero => exact none_ne h
      | succ nl3 =>
        refine c_seq ?_
        refine c_region ?_
        refine o_s (.t (.d (.lit (.bool (decide (z4 < (p1.length : Int))))))) (g0 rfl) rfl rfl rfl ?_
        refine o_nil ?_
        repeat (first | refine then_normal ?_ | refine then_exit ?_ | refine then_ret ?_ | refine block_normal ?_ | refine block_ret ?_ | refine block_exit ?_ | refine block_pass rfl ?_)
        refine c_seq ?_
        rcases bif_some h with ⟨h6, h⟩ | ⟨h6, h⟩
        · refine c_t h6 rfl ?_
          refine c_skip ?_
          repeat (first | refine then_normal ?_ | refine then_exit ?_ | refine then_ret ?_ | refine block_normal ?_ | refine block_ret ?_ | refine block_exit ?_ | refine block_pass rfl ?_)
          refine c_seq ?_
          refine c_block ?_
          refine c_seq ?_
          refine c_region ?_
          refine o_s (.t (.d (.lit (.int .i64 z4)))) (g0 rfl) rfl rfl rfl ?_
          obtain ⟨x7, h8, h⟩ := bind_some h
          refine o_c (g0 rfl) rfl rfl rfl (idxE h8) (idxC h8) ?_
          refine o_s (.t (.d (.lit (.int .u8 (x7.toNat : Int))))) (g0 rfl) rfl rfl rfl ?_
          refine o_s (.t (.d (.lit (.int .i64 z4)))) (g0 rfl) rfl rfl rfl ?_
          refine o_s (.t (.d (.lit (.int .u8 (x7.toNat : Int))))) (g0 rfl) rfl rfl rfl ?_
          refine o_nil ?_
          repeat (first | refine then_normal ?_ | refine then_exit ?_ | refine then_ret ?_ | refine block_normal ?_ | refine block_ret ?_ | refine block_exit ?_ | refine block_pass rfl ?_)
          refine c_seq ?_
          refine c_region ?_
          refine o_of (e := [(56, .t ((ptT 1 x1.1)))]) (g0 rfl) (h_mv (Mk.refl _) (.inl rfl) (cpO_pt rfl) rfl rfl) rfl ?_
          rcases ptM_some h with ⟨h9, h⟩ | ⟨i10, h9, h⟩
          · exact none_ne h
          · refine o_of (e := [(57, .t (.hpt (cd 1 i10) 0))]) (g0 rfl) (h_nc (Mk.refl _) rfl (cpO_pt rfl) (ptT_some h9) rfl rfl) rfl ?_
            refine o_of (e := [(58, .t (.hpt (cd 1 i10) 2))]) (g0 rfl) (h_fd (Mk.refl _) rfl rfl rfl rfl rfl rfl) rfl ?_
            obtain ⟨x11, h12, h⟩ := bind_some h
            refine o_of (e := [(59, .t (.hvw (cd 2 i10) 0 62 1 x11.l_.length))]) (g0 rfl) (h_ld (Mk.refl _) rfl rfl rfl rfl (gl_space h12) rfl rfl rfl rfl) rfl ?_
            refine o_s (.t (.d (.lit (.int .i64 z4)))) (g0 rfl) rfl rfl rfl ?_
            refine o_s (.t (.d (.lit (.int .i64 (wi (Int.tdiv z4 8)))))) (g0 rfl) rfl rfl rfl ?_
            obtain ⟨x13, h14, h⟩ := bind_some h
            refine o_of (e := [(62, .t (.hpt (cd 2 i10) (0 + Int.toNat (wi (Int.tdiv z4 8)) * 1)))]) (g0 rfl) (h_ix (Mk.refl _) rfl rfl rfl rfl (idxV rfl h14) rfl rfl rfl) rfl ?_
            refine o_of (e := [(63, .t (.d (.lit (.int .u64 x13))))]) (g0 rfl) (h_ld (Mk.refl _) rfl rfl rfl rfl (gl_space_l h12) (fl_at h14 rfl (fun _ => rfl)) rfl rfl rfl) rfl ?_
            refine o_s (.t (.d (.lit (.int .u8 (x7.toNat : Int))))) (g0 rfl) rfl rfl rfl ?_
            refine o_c (g0 rfl) rfl rfl rfl (congrArg (fun z => A.t (.d (.lit (.int .u64 z)))) (u64_u8 _)) trivial ?_
            refine o_s (.t (.d (.lit (.int .i64 z4)))) (g0 rfl) rfl rfl rfl ?_
            refine o_s (.t (.d (.lit (.int .i64 (Int.tmod z4 8))))) (g0 rfl) rfl rfl rfl ?_
            refine o_s (.t (.d (.lit (.int .i64 (wi (8 * (Int.tmod z4 8))))))) (g0 rfl) rfl rfl rfl ?_
            refine o_s (.t (.d (.lit (.int .u64 (IntKind.u64.wrap (wi (8 * (Int.tmod z4 8)))))))) (g0 rfl) rfl rfl rfl ?_
            obtain ⟨x15, h16, h⟩ := bind_some h
            refine o_b (.t (.d (.lit (.int .u64 x15)))) (shlIE h16) (g0 rfl) rfl rfl rfl rfl rfl rfl rfl ?_
            refine o_s (.t (.d (.lit (.int .u64 (IntKind.u64.wrap ((((BitVec.ofInt IntKind.u64.bits x13) ||| (BitVec.ofInt IntKind.u64.bits x15)).toNat : Nat) : Int)))))) (g0 rfl) rfl rfl rfl ?_
            obtain ⟨x17, h18, h⟩ := bind_some h
            refine o_of (e := [(72, .t (.hpt (cd 2 i10) (0 + Int.toNat (wi (Int.tdiv z4 8)) * 1)))]) (g0 rfl) (h_ix (Mk.refl _) rfl rfl rfl rfl (idxV rfl h18) rfl rfl rfl) rfl ?_
            refine o_of (e := [(HK, .hp (hpA (z5.st_space i10 (S_space_Space.mk x11.n_ x11.free_ (x11.l_.set (Int.toNat (wi (Int.tdiv z4 8))) (IntKind.u64.wrap ((((BitVec.ofInt IntKind.u64.bits x13) ||| (BitVec.ofInt IntKind.u64.bits x15)).toNat : Nat) : Int))) x11.is_))))]) (g0 rfl) (h_st (Mk.refl _) rfl rfl rfl rfl rfl (gl_space_l h12) rfl rfl (fl_room h18 (fun _ => rfl)) (fl_put h18 (IntKind.u64.wrap ((((BitVec.ofInt IntKind.u64.bits x13) ||| (BitVec.ofInt IntKind.u64.bits x15)).toNat : Nat) : Int)) (fun _ => rfl) rfl) (su_space_l (x' := (S_space_Space.mk x11.n_ x11.free_ (x11.l_.set (Int.toNat (wi (Int.tdiv z4 8))) (IntKind.u64.wrap ((((BitVec.ofInt IntKind.u64.bits x13) ||| (BitVec.ofInt IntKind.u64.bits x15)).toNat : Nat) : Int))) x11.is_)) h12 (by simp [hc_space]))) rfl ?_
            refine o_nil ?_
            repeat (first | refine then_normal ?_ | refine then_exit ?_ | refine then_ret ?_ | refine block_normal ?_ | refine block_ret ?_ | refine block_exit ?_ | refine block_pass rfl ?_)
            refine c_draw mixed (by kernel_rfl) ?_
            refine d_h (e := [(73, .t (.hpt (cd 1 i10) 0))]) (ks := [73]) rfl (dg0 rfl) rfl rfl (fun S' hM hk hok => h_mv hM (.inl rfl) ((cpO_pt rfl).trans (pt_eq_some h9)) rfl (hok _ rfl rfl)) rfl ?_
            refine d_h (e := [(74, .t (.hpt (cd 1 i10) 0))]) (ks := [74]) rfl (dg0 rfl) rfl rfl (fun S' hM hk hok => h_nc hM rfl rfl rfl rfl (hok _ rfl rfl)) rfl ?_
            refine d_h (e := [(75, .t (.hpt (cd 1 i10) 1))]) (ks := [75]) rfl (dg0 rfl) rfl rfl (fun S' hM hk hok => h_fd hM rfl rfl rfl rfl rfl (hok _ rfl rfl)) rfl ?_
            refine d_h (e := [(76, .t (.d (.lit (.int .i64 ((S_space_Space.mk x11.n_ x11.free_ (x11.l_.set (Int.toNat (wi (Int.tdiv z4 8))) (IntKind.u64.wrap ((((BitVec.ofInt IntKind.u64.bits x13) ||| (BitVec.ofInt IntKind.u64.bits x15)).toNat : Nat) : Int))) x11.is_).free_)))))]) (ks := [76]) rfl (dg0 rfl) rfl rfl (fun S' hM hk hok => h_ld hM hk rfl rfl rfl (gl_space (set_get h12)) rfl rfl rfl (hok _ rfl rfl)) rfl ?_
            refine d_s (.t (.d (.lit (.int .u8 (x7.toNat : Int))))) rfl (dg0 rfl) rfl rfl rfl rfl ?_
            obtain ⟨x19, h20, h⟩ := bind_some h
            refine d_ca (fc_math_bits_OnesCount8 _ _ h20) rfl (dg0 rfl) rfl rfl rfl rfl rfl rfl rfl rfl (.cons (.refl _) .nil) rfl rfl ?_
            refine d_s (.t (.d (.lit (.int .i64 (wi (((S_space_Space.mk x11.n_ x11.free_ (x11.l_.set (Int.toNat (wi (Int.tdiv z4 8))) (IntKind.u64.wrap ((((BitVec.ofInt IntKind.u64.bits x13) ||| (BitVec.ofInt IntKind.u64.bits x15)).toNat : Nat) : Int))) x11.is_).free_) - x19)))))) rfl (dg0 rfl) rfl rfl rfl rfl ?_
            refine d_h (e := [(80, .t (.hpt (cd 1 i10) 0))]) (ks := [80]) rfl (dg0 rfl) rfl rfl (fun S' hM hk hok => h_nc hM rfl rfl rfl rfl (hok _ rfl rfl)) rfl ?_
            refine d_h (e := [(81, .t (.hpt (cd 1 i10) 1))]) (ks := [81]) rfl (dg0 rfl) rfl rfl (fun S' hM hk hok => h_fd hM rfl rfl rfl rfl rfl (hok _ rfl rfl)) rfl ?_
            refine d_h (e := [(HK, .hp (hpA ((z5.st_space i10 (S_space_Space.mk x11.n_ x11.free_ (x11.l_.set (Int.toNat (wi (Int.tdiv z4 8))) (IntKind.u64.wrap ((((BitVec.ofInt IntKind.u64.bits x13) ||| (BitVec.ofInt IntKind.u64.bits x15)).toNat : Nat) : Int))) x11.is_)).st_space i10 (S_space_Space.mk x11.n_ (wi (((S_space_Space.mk x11.n_ x11.free_ (x11.l_.set (Int.toNat (wi (Int.tdiv z4 8))) (IntKind.u64.wrap ((((BitVec.ofInt IntKind.u64.bits x13) ||| (BitVec.ofInt IntKind.u64.bits x15)).toNat : Nat) : Int))) x11.is_).free_) - x19)) (x11.l_.set (Int.toNat (wi (Int.tdiv z4 8))) (IntKind.u64.wrap ((((BitVec.ofInt IntKind.u64.bits x13) ||| (BitVec.ofInt IntKind.u64.bits x15)).toNat : Nat) : Int))) x11.is_))))]) (ks := [HK]) rfl (dg0 rfl) rfl rfl (fun S' hM hk hok => h_st hM hk rfl rfl rfl rfl (gl_space (set_get h12)) rfl rfl (Nat.le_of_ble_eq_true rfl) rfl (su_space (x' := (S_space_Space.mk x11.n_ (wi (((S_space_Space.mk x11.n_ x11.free_ (x11.l_.set (Int.toNat (wi (Int.tdiv z4 8))) (IntKind.u64.wrap ((((BitVec.ofInt IntKind.u64.bits x13) ||| (BitVec.ofInt IntKind.u64.bits x15)).toNat : Nat) : Int))) x11.is_).free_) - x19)) (x11.l_.set (Int.toNat (wi (Int.tdiv z4 8))) (IntKind.u64.wrap ((((BitVec.ofInt IntKind.u64.bits x13) ||| (BitVec.ofInt IntKind.u64.bits x15)).toNat : Nat) : Int))) x11.is_)) (set_get h12) rfl)) rfl ?_
            refine d_nil (by kernel_rfl) ?_
            repeat (first | refine then_normal ?_ | refine then_exit ?_ | refine then_ret ?_ | refine block_normal ?_ | refine block_ret ?_ | refine block_exit ?_ | refine block_pass rfl ?_)
            refine c_region ?_
            refine o_s (.t (.d (.lit (.int .i64 (wi (z4 + 1)))))) (g0 rfl) rfl rfl rfl ?_
            refine o_s (.t (.d (.lit (.int .i64 (wi (z4 + 1)))))) (g0 rfl) rfl rfl rfl ?_
            refine o_nil ?_
            repeat (first | refine then_normal ?_ | refine then_exit ?_ | refine then_ret ?_ | refine block_normal ?_ | refine block_ret ?_ | refine block_exit ?_ | refine block_pass rfl ?_)
            exact ⟨nl3, ((wi (z4 + 1)), ((z5.st_space i10 (S_space_Space.mk x11.n_ x11.free_ (x11.l_.set (Int.toNat (wi (Int.tdiv z4 8))) (IntKind.u64.wrap ((((BitVec.ofInt IntKind.u64.bits x13) ||| (BitVec.ofInt IntKind.u64.bits x15)).toNat : Nat) : Int))) x11.is_)).st_space i10 (S_space_Space.mk x11.n_ (wi (((S_space_Space.mk x11.n_ x11.free_ (x11.l_.set (Int.toNat (wi (Int.tdiv z4 8))) (IntKind.u64.wrap ((((BitVec.ofInt IntKind.u64.bits x13) ||| (BitVec.ofInt IntKind.u64.bits x15)).toNat : Nat) : Int))) x11.is_).free_) - x19)) (x11.l_.set (Int.toNat (wi (Int.tdiv z4 8))) (IntKind.u64.wrap ((((BitVec.ofInt IntKind.u64.bits x13) ||| (BitVec.ofInt IntKind.u64.bits x15)).toNat : Nat) : Int))) x11.is_))), [], Nat.lt_succ_self nl3, h, rfl, ⟨.inr ⟨_, rfl, pure_hpA _⟩, by (repeat (first | exact ObP.nil | refine ObP.cons (.inl rfl) ?_ | refine ObP.cons (.inr (fun _ => rfl)) ?_ | refine ObP.cons (.inr (ob_box (fl_noPt _ _))) ?_ | refine ObP.cons (.inr (ob_gb _ _)) ?_))⟩, ⟨(.refl _), ⟨(.refl _), ⟨(.refl _), ⟨(.refl _), ⟨(.refl _), trivial⟩⟩⟩⟩⟩, rfl⟩
        · refine c_f h6 rfl ?_
          refine c_exit ?_
          repeat (first | refine then_normal ?_ | refine then_exit ?_ | refine then_ret ?_ | refine block_normal ?_ | refine block_ret ?_ | refine block_exit ?_ | refine block_pass rfl ?_)
          exact ⟨z5, [], h, rfl, ⟨.inr ⟨_, rfl, pure_hpA _⟩, by (repeat (first | exact ObP.nil | refine ObP.cons (.inl rfl) ?_ | refine ObP.cons (.inr (fun _ => rfl)) ?_ | refine ObP.cons (.inr (ob_box (fl_noPt _ _))) ?_ | refine ObP.cons (.inr (ob_gb _ _)) ?_))⟩, ⟨(.refl _), ⟨(.refl _), trivial⟩⟩, rfl⟩
    · rintro y3 h
      refine c_seq ?_
      refine c_region ?_
      refine o_of (e := [(83, .t ((ptT 1 x1.1)))]) (g0 rfl) (h_mv (Mk.refl _) (.inl rfl) (cpO_pt rfl) rfl rfl) rfl ?_
      refine o_of (e := [(4, .t ((ptT 1 x1.1)))]) (g0 rfl) (h_mv (Mk.refl _) (.inr rfl) (cpO_pt rfl) rfl rfl) rfl ?_
      refine o_s (.t (.d (.lit (.int .i64 0)))) (g0 rfl) rfl rfl rfl ?_
      refine o_nil ?_
      repeat (first | refine then_normal ?_ | refine then_exit ?_ | refine then_ret ?_ | refine block_normal ?_ | refine block_ret ?_ | refine block_exit ?_ | refine block_pass rfl ?_)
      refine c_ret ?_
      repeat (first | refine then_normal ?_ | refine then_exit ?_ | refine then_ret ?_ | refine block_normal ?_ | refine block_ret ?_ | refine block_exit ?_ | refine block_pass rfl ?_)
      obtain rfl := Option.some.inj h
      exact ⟨⟨_, rfl, (.tup (.cons wkPt (.cons (.refl _) .nil)))⟩, trivial, rfl⟩

theorem fc_math_bits_Len64 (p0 : Int) (r : Int) (h : m_math_bits_Len64 p0 = some r) : FC Tryd.prog 25 [.t (.d (.lit (.int .u64 p0)))] [] (.t (.d (.lit (.int .i64 r)))) := by
  refine fc_mk (rs := [.tmp 2]) (n := 25) Tryd.func25 rfl rfl (Nat.le_of_ble_eq_true rfl) rfl (pins := []) rfl (L := [(0, .t (.d (.lit (.int .u64 p0))))]) rfl ?_
  refine c_seq ?_
  refine c_region ?_
  refine o_s (.t (.d (.lit (.int .i64 0)))) (g0 rfl) rfl rfl rfl ?_
  refine o_nil ?_
  repeat (first | refine then_normal ?_ | refine then_exit ?_ | refine then_ret ?_ | refine block_normal ?_ | refine block_ret ?_ | refine block_exit ?_ | refine block_pass rfl ?_)
  refine c_cut (fun (q : Int × Int) => [(0, .t (.d (.lit (.int .u64 q.1)))), (2, .t (.d (.lit (.int .i64 q.2))))]) (fun (q : Int × Int) => m_math_bits_Len64_j1 q.1 q.2 = some r) ?_ ?_
  · refine c_seq ?_
    refine c_region ?_
    refine o_s (.t (.d (.lit (.int .u64 p0)))) (g0 rfl) rfl rfl rfl ?_
    refine o_s (.t (.d (.lit (.bool (decide (p0 ≥ 4294967296)))))) (g0 rfl) rfl rfl rfl ?_
    refine o_nil ?_
    repeat (first | refine then_normal ?_ | refine then_exit ?_ | refine then_ret ?_ | refine block_normal ?_ | refine block_ret ?_ | refine block_exit ?_ | refine block_pass rfl ?_)
    rcases bif_some h with ⟨h11, h⟩ | ⟨h11, h⟩
    · refine c_t h11 rfl ?_
      refine c_seq ?_
      refine c_region ?_
      refine o_s (.t (.d (.lit (.int .u64 p0)))) (g0 rfl) rfl rfl rfl ?_
      refine o_s (.t (.d (.lit (.int .u64 (Int.fdiv p0 (2 ^ 32)))))) (g0 rfl) rfl rfl rfl ?_
      refine o_s (.t (.d (.lit (.int .u64 (Int.fdiv p0 (2 ^ 32)))))) (g0 rfl) rfl rfl rfl ?_
      refine o_nil ?_
      repeat (first | refine then_normal ?_ | refine then_exit ?_ | refine then_ret ?_ | refine block_normal ?_ | refine block_ret ?_ | refine block_exit ?_ | refine block_pass rfl ?_)
      refine c_region ?_
      refine o_s (.t (.d (.lit (.int .i64 32)))) (g0 rfl) rfl rfl rfl ?_
      refine o_nil ?_
      repeat (first | refine then_normal ?_ | refine then_exit ?_ | refine then_ret ?_ | refine block_normal ?_ | refine block_ret ?_ | refine block_exit ?_ | refine block_pass rfl ?_)
      exact ⟨((Int.fdiv p0 (2 ^ 32)), 32), h, ⟨(.refl _), ⟨(.refl _), trivial⟩⟩, rfl⟩
    · refine c_f h11 rfl ?_
      refine c_skip ?_
      repeat (first | refine then_normal ?_ | refine then_exit ?_ | refine then_ret ?_ | refine block_normal ?_ | refine block_ret ?_ | refine block_exit ?_ | refine block_pass rfl ?_)
      exact ⟨(p0, 0), h, ⟨(.refl _), ⟨(.refl _), trivial⟩⟩, rfl⟩
  · rintro ⟨y1, y2⟩ h
    refine c_cut (fun (q : Int × Int) => [(0, .t (.d (.lit (.int .u64 q.1)))), (2, .t (.d (.lit (.int .i64 q.2))))]) (fun (q : Int × Int) => m_math_bits_Len64_j2 q.1 q.2 = some r) ?_ ?_
    · refine c_seq ?_
      refine c_region ?_
      refine o_s (.t (.d (.lit (.int .u64 y1)))) (g0 rfl) rfl rfl rfl ?_
      refine o_s (.t (.d (.lit (.bool (decide (y1 ≥ 65536)))))) (g0 rfl) rfl rfl rfl ?_
      refine o_nil ?_
      repeat (first | refine then_normal ?_ | refine then_exit ?_ | refine then_ret ?_ | refine block_normal ?_ | refine block_ret ?_ | refine block_exit ?_ | refine block_pass rfl ?_)
      rcases bif_some h with ⟨h10, h⟩ | ⟨h10, h⟩
      · refine c_t h10 rfl ?_
        refine c_seq ?_
        refine c_region ?_
        refine o_s (.t (.d (.lit (.int .u64 y1)))) (g0 rfl) rfl rfl rfl ?_
        refine o_s (.t (.d (.lit (.int .u64 (Int.fdiv y1 (2 ^ 16)))))) (g0 rfl) rfl rfl rfl ?_
        refine o_s (.t (.d (.lit (.int .u64 (Int.fdiv y1 (2 ^ 16)))))) (g0 rfl) rfl rfl rfl ?_
        refine o_nil ?_
        repeat (first | refine then_normal ?_ | refine then_exit ?_ | refine then_ret ?_ | refine block_normal ?_ | refine block_ret ?_ | refine block_exit ?_ | refine block_pass rfl ?_)
        refine c_region ?_
        refine o_s (.t (.d (.lit (.int .i64 y2)))) (g0 rfl) rfl rfl rfl ?_
        refine o_s (.t (.d (.lit (.int .i64 (wi (y2 + 16)))))) (g0 rfl) rfl rfl rfl ?_
        refine o_s (.t (.d (.lit (.int .i64 (wi (y2 + 16)))))) (g0 rfl) rfl rfl rfl ?_
        refine o_nil ?_
        repeat (first | refine then_normal ?_ | refine then_exit ?_ | refine then_ret ?_ | refine block_normal ?_ | refine block_ret ?_ | refine block_exit ?_ | refine block_pass rfl ?_)
        exact ⟨((Int.fdiv y1 (2 ^ 16)), (wi (y2 + 16))), h, ⟨(.refl _), ⟨(.refl _), trivial⟩⟩, rfl⟩
      · refine c_f h10 rfl ?_
        refine c_skip ?_
        repeat (first | refine then_normal ?_ | refine then_exit ?_ | refine then_ret ?_ | refine block_normal ?_ | refine block_ret ?_ | refine block_exit ?_ | refine block_pass rfl ?_)
        exact ⟨(y1, y2), h, ⟨(.refl _), ⟨(.refl _), trivial⟩⟩, rfl⟩
    · rintro ⟨y3, y4⟩ h
      refine c_cut (fun (q : Int × Int) => [(0, .t (.d (.lit (.int .u64 q.1)))), (2, .t (.d (.lit (.int .i64 q.2))))]) (fun (q : Int × Int) => m_math_bits_Len64_j3 q.1 q.2 = some r) ?_ ?_
      · refine c_seq ?_
        refine c_region ?_
        refine o_s (.t (.d (.lit (.int .u64 y3)))) (g0 rfl) rfl rfl rfl ?_
        refine o_s (.t (.d (.lit (.bool (decide (y3 ≥ 256)))))) (g0 rfl) rfl rfl rfl ?_
        refine o_nil ?_
        repeat (first | refine then_normal ?_ | refine then_exit ?_ | refine then_ret ?_ | refine block_normal ?_ | refine block_ret ?_ | refine block_exit ?_ | refine block_pass rfl ?_)
        rcases bif_some h with ⟨h9, h⟩ | ⟨h9, h⟩
        · refine c_t h9 rfl ?_
          refine c_seq ?_
          refine c_region ?_
          refine o_s (.t (.d (.lit (.int .u64 y3)))) (g0 rfl) rfl rfl rfl ?_
          refine o_s (.t (.d (.lit (.int .u64 (Int.fdiv y3 (2 ^ 8)))))) (g0 rfl) rfl rfl rfl ?_
          refine o_s (.t (.d (.lit (.int .u64 (Int.fdiv y3 (2 ^ 8)))))) (g0 rfl) rfl rfl rfl ?_
          refine o_nil ?_
          repeat (first | refine then_normal ?_ | refine then_exit ?_ | refine then_ret ?_ | refine block_normal ?_ | refine block_ret ?_ | refine block_exit ?_ | refine block_pass rfl ?_)
          refine c_region ?_
          refine o_s (.t (.d (.lit (.int .i64 y4)))) (g0 rfl) rfl rfl rfl ?_
          refine o_s (.t (.d (.lit (.int .i64 (wi (y4 + 8)))))) (g0 rfl) rfl rfl rfl ?_
          refine o_s (.t (.d (.lit (.int .i64 (wi (y4 + 8)))))) (g0 rfl) rfl rfl rfl ?_
          refine o_nil ?_
          repeat (first | refine then_normal ?_ | refine then_exit ?_ | refine then_ret ?_ | refine block_normal ?_ | refine block_ret ?_ | refine block_exit ?_ | refine block_pass rfl ?_)
          exact ⟨((Int.fdiv y3 (2 ^ 8)), (wi (y4 + 8))), h, ⟨(.refl _), ⟨(.refl _), trivial⟩⟩, rfl⟩
        · refine c_f h9 rfl ?_
          refine c_skip ?_
          repeat (first | refine then_normal ?_ | refine then_exit ?_ | refine then_ret ?_ | refine block_normal ?_ | refine block_ret ?_ | refine block_exit ?_ | refine block_pass rfl ?_)
          exact ⟨(y3, y4), h, ⟨(.refl _), ⟨(.refl _), trivial⟩⟩, rfl⟩
      · rintro ⟨y5, y6⟩ h
        refine c_seq ?_
        refine c_region ?_
        refine o_s (.t (.d (.lit (.int .i64 y6)))) (g0 rfl) rfl rfl rfl ?_
        refine o_s (.t (.d (.lit (.int .u64 y5)))) (g0 rfl) rfl rfl rfl ?_
        refine o_c (g0 rfl) rfl rfl rfl (congrArg (fun z => A.t (.d (.lit (.int .u8 z)))) (u8c _)) trivial ?_
        obtain ⟨x7, h8, h⟩ := bind_some h
        refine o_c (g0 rfl) rfl rfl rfl (strIdxE h8) (strIdxC h8) ?_
        refine o_c (g0 rfl) rfl rfl rfl (congrArg (fun z => A.t (.d (.lit (.int .i64 z)))) (i64_u8 _)) trivial ?_
        refine o_s (.t (.d (.lit (.int .i64 (wi (y6 + (x7.toNat : Int))))))) (g0 rfl) rfl rfl rfl ?_
        refine o_s (.t (.d (.lit (.int .i64 (wi (y6 + (x7.toNat : Int))))))) (g0 rfl) rfl rfl rfl ?_
        refine o_nil ?_
        repeat (first | refine then_normal ?_ | refine then_exit ?_ | refine then_ret ?_ | refine block_normal ?_ | refine block_ret ?_ | refine block_exit ?_ | refine block_pass rfl ?_)
        refine c_ret ?_
        repeat (first | refine then_normal ?_ | refine then_exit ?_ | refine then_ret ?_ | refine block_normal ?_ | refine block_ret ?_ | refine block_exit ?_ | refine block_pass rfl ?_)
        obtain rfl := Option.some.inj h
        exact end0 rfl (.refl _)

theorem fc_R01_Ints (p0 : (List Int)) (p1 : (List Int)) (r : Bool) (h : m_R01_Ints p0 p1 = some r) : FC Tryd.prog 13 [.t (.d (.seq 1 (List.map cI64 p0))), .t (.d (.seq 1 (List.map cI64 p1)))] [] (.t (.d (.lit (.bool r)))) := by
  refine fc_mk (rs := [.tmp 4]) (n := 26) Tryd.func13 rfl rfl (Nat.le_of_ble_eq_true rfl) rfl (pins := []) rfl (L := [(0, .t (.d (.seq 1 (List.map cI64 p0)))), (1, .t (.d (.seq 1 (List.map cI64 p1))))]) rfl ?_
  refine c_seq ?_
  refine c_region ?_
  refine o_s (.t (.d (.lit (.bool false)))) (g0 rfl) rfl rfl rfl ?_
  refine o_nil ?_
  repeat (first | refine then_normal ?_ | refine then_exit ?_ | refine then_ret ?_ | refine block_normal ?_ | refine block_ret ?_ | refine block_exit ?_ | refine block_pass rfl ?_)
  refine c_seq ?_
  refine c_seq ?_
  refine c_region ?_
  refine o_s (.t (.d (.seq 1 (List.map cI64 p0)))) (g0 rfl) rfl rfl rfl ?_
  refine o_c (g0 rfl) rfl rfl rfl (lenE _ _) trivial ?_
  refine o_s (.t (.d (.seq 1 (List.map cI64 p1)))) (g0 rfl) rfl rfl rfl ?_
  refine o_c (g0 rfl) rfl rfl rfl (lenE _ _) trivial ?_
  refine o_s (.t (.d (.lit (.bool ((p0.length : Int) != (p1.length : Int)))))) (g0 rfl) rfl rfl rfl ?_
  refine o_nil ?_
  repeat (first | refine then_normal ?_ | refine then_exit ?_ | refine then_ret ?_ | refine block_normal ?_ | refine block_ret ?_ | refine block_exit ?_ | refine block_pass rfl ?_)
  rcases bif_some h with ⟨h1, h⟩ | ⟨h1, h⟩
  · refine c_t h1 rfl ?_
    refine c_seq ?_
    refine c_region ?_
    refine o_s (.t (.d (.lit (.bool false)))) (g0 rfl) rfl rfl rfl ?_
    refine o_nil ?_
    repeat (first | refine then_normal ?_ | refine then_exit ?_ | refine then_ret ?_ | refine block_normal ?_ | refine block_ret ?_ | refine block_exit ?_ | refine block_pass rfl ?_)
    refine c_ret ?_
    repeat (first | refine then_normal ?_ | refine then_exit ?_ | refine then_ret ?_ | refine block_normal ?_ | refine block_ret ?_ | refine block_exit ?_ | refine block_pass rfl ?_)
    obtain rfl := Option.some.inj h
    exact end0 rfl (.refl _)
  · refine c_f h1 rfl ?_
    refine c_skip ?_
    repeat (first | refine then_normal ?_ | refine then_exit ?_ | refine then_ret ?_ | refine block_normal ?_ | refine block_ret ?_ | refine block_exit ?_ | refine block_pass rfl ?_)
    refine c_seq ?_
    refine c_seq ?_
    refine c_region ?_
    refine o_s (.t (.d (.lit (.int .i64 0)))) (g0 rfl) rfl rfl rfl ?_
    refine o_nil ?_
    repeat (first | refine then_normal ?_ | refine then_exit ?_ | refine then_ret ?_ | refine block_normal ?_ | refine block_ret ?_ | refine block_exit ?_ | refine block_pass rfl ?_)
    refine c_block ?_
    refine c_fuel (fun (z2 : Int) => [(0, .t (.d (.seq 1 (List.map cI64 p0)))), (1, .t (.d (.seq 1 (List.map cI64 p1)))), (5, .t (.d (.lit (.int .i64 z2))))]) (fun nl1 => (fun (z2 : Int) => m_R01_Ints_l1 p0 p1 nl1 z2 = some r)) (p0.length + 1) 0 h ⟨(.refl _), ⟨(.refl _), ⟨(.refl _), trivial⟩⟩⟩ rfl ?_
    rintro nl1 z2 h
    cases nl1 with
    | zero => exact none_ne h
    | succ nl1 =>
      refine c_seq ?_
      refine c_seq ?_
      refine c_region ?_
      refine o_s (.t (.d (.lit (.int .i64 z2)))) (g0 rfl) rfl rfl rfl ?_
      refine o_s (.t (.d (.seq 1 (List.map cI64 p0)))) (g0 rfl) rfl rfl rfl ?_
      refine o_c (g0 rfl) rfl rfl rfl (lenE _ _) trivial ?_
      refine o_s (.t (.d (.lit (.bool (decide (z2 < (p0.length : Int))))))) (g0 rfl) rfl rfl rfl ?_
      refine o_nil ?_
      repeat (first | refine then_normal ?_ | refine then_exit ?_ | refine then_ret ?_ | refine block_normal ?_ | refine block_ret ?_ | refine block_exit ?_ | refine block_pass rfl ?_)
      rcases bif_some h with ⟨h3, h⟩ | ⟨h3, h⟩
      · refine c_t h3 rfl ?_
        refine c_skip ?_
        repeat (first | refine then_normal ?_ | refine then_exit ?_ | refine then_ret ?_ | refine block_normal ?_ | refine block_ret ?_ | refine block_exit ?_ | refine block_pass rfl ?_)
        refine c_seq ?_
        refine c_block ?_
        refine c_seq ?_
        refine c_draw mixed (by kernel_rfl) ?_
        refine d_s (.t (.d (.seq 1 (List.map cI64 p0)))) rfl (dg0 rfl) rfl rfl rfl rfl ?_
        refine d_s (.t (.d (.lit (.int .i64 z2)))) rfl (dg0 rfl) rfl rfl rfl rfl ?_
        obtain ⟨x4, h5, h⟩ := bind_some h
        refine d_c rfl (dg0 rfl) rfl rfl rfl rfl (idxE h5) (idxC h5) ?_
        refine d_s (.t (.d (.lit (.int .i64 x4)))) rfl (dg0 rfl) rfl rfl rfl rfl ?_
        refine d_s (.t (.d (.seq 1 (List.map cI64 p1)))) rfl (dg0 rfl) rfl rfl rfl rfl ?_
        refine d_s (.t (.d (.lit (.int .i64 z2)))) rfl (dg0 rfl) rfl rfl rfl rfl ?_
        obtain ⟨x6, h7, h⟩ := bind_some h
        refine d_c rfl (dg0 rfl) rfl rfl rfl rfl (idxE h7) (idxC h7) ?_
        refine d_s (.t (.d (.lit (.int .i64 x6)))) rfl (dg0 rfl) rfl rfl rfl rfl ?_
        refine d_s (.t (.d (.lit (.bool (x4 != x6))))) rfl (dg0 rfl) rfl rfl rfl rfl ?_
        refine d_nil (by kernel_rfl) ?_
        repeat (first | refine then_normal ?_ | refine then_exit ?_ | refine then_ret ?_ | refine block_normal ?_ | refine block_ret ?_ | refine block_exit ?_ | refine block_pass rfl ?_)
        rcases bif_some h with ⟨h8, h⟩ | ⟨h8, h⟩
        · refine c_t h8 rfl ?_
          refine c_seq ?_
          refine c_region ?_
          refine o_s (.t (.d (.lit (.bool false)))) (g0 rfl) rfl rfl rfl ?_
          refine o_nil ?_
          repeat (first | refine then_normal ?_ | refine then_exit ?_ | refine then_ret ?_ | refine block_normal ?_ | refine block_ret ?_ | refine block_exit ?_ | refine block_pass rfl ?_)
          refine c_ret ?_
          repeat (first | refine then_normal ?_ | refine then_exit ?_ | refine then_ret ?_ | refine block_normal ?_ | refine block_ret ?_ | refine block_exit ?_ | refine block_pass rfl ?_)
          obtain rfl := Option.some.inj h
          exact end0 rfl (.refl _)
        · refine c_f h8 rfl ?_
          refine c_skip ?_
          repeat (first | refine then_normal ?_ | refine then_exit ?_ | refine then_ret ?_ | refine block_normal ?_ | refine block_ret ?_ | refine block_exit ?_ | refine block_pass rfl ?_)
          refine c_region ?_
          refine o_s (.t (.d (.lit (.int .i64 z2)))) (g0 rfl) rfl rfl rfl ?_
          refine o_s (.t (.d (.lit (.int .i64 (wi (z2 + 1)))))) (g0 rfl) rfl rfl rfl ?_
          refine o_s (.t (.d (.lit (.int .i64 (wi (z2 + 1)))))) (g0 rfl) rfl rfl rfl ?_
          refine o_nil ?_
          repeat (first | refine then_normal ?_ | refine then_exit ?_ | refine then_ret ?_ | refine block_normal ?_ | refine block_ret ?_ | refine block_exit ?_ | refine block_pass rfl ?_)
          exact ⟨nl1, (wi (z2 + 1)), Nat.lt_succ_self nl1, h, ⟨(.refl _), ⟨(.refl _), ⟨(.refl _), trivial⟩⟩⟩, rfl⟩
      · refine c_f h3 rfl ?_
        refine c_exit ?_
        repeat (first | refine then_normal ?_ | refine then_exit ?_ | refine then_ret ?_ | refine block_normal ?_ | refine block_ret ?_ | refine block_exit ?_ | refine block_pass rfl ?_)
        refine c_seq ?_
        refine c_region ?_
        refine o_s (.t (.d (.lit (.bool true)))) (g0 rfl) rfl rfl rfl ?_
        refine o_nil ?_
        repeat (first | refine then_normal ?_ | refine then_exit ?_ | refine then_ret ?_ | refine block_normal ?_ | refine block_ret ?_ | refine block_exit ?_ | refine block_pass rfl ?_)
        refine c_ret ?_
        repeat (first | refine then_normal ?_ | refine then_exit ?_ | refine then_ret ?_ | refine block_normal ?_ | refine block_ret ?_ | refine block_exit ?_ | refine block_pass rfl ?_)
        obtain rfl := Option.some.inj h
        exact end0 rfl (.refl _)

theorem fc_R01_Same (p0 : (List UInt8)) (p1 : (List UInt8)) (r : Bool) (h : m_R01_Same p0 p1 = some r) : FC Tryd.prog 23 [.t (.d (.seq 1 (bytesD p0))), .t (.d (.seq 1 (bytesD p1)))] [] (.t (.d (.lit (.bool r)))) := by
  refine fc_mk (rs := [.tmp 4]) (n := 26) Tryd.func23 rfl rfl (Nat.le_of_ble_eq_true rfl) rfl (pins := []) rfl (L := [(0, .t (.d (.seq 1 (bytesD p0)))), (1, .t (.d (.seq 1 (bytesD p1))))]) rfl ?_
  refine c_seq ?_
  refine c_region ?_
  refine o_s (.t (.d (.lit (.bool false)))) (g0 rfl) rfl rfl rfl ?_
  refine o_nil ?_
  repeat (first | refine then_normal ?_ | refine then_exit ?_ | refine then_ret ?_ | refine block_normal ?_ | refine block_ret ?_ | refine block_exit ?_ | refine block_pass rfl ?_)
  refine c_seq ?_
  refine c_seq ?_
  refine c_region ?_
  refine o_s (.t (.d (.seq 1 (bytesD p0)))) (g0 rfl) rfl rfl rfl ?_
  refine o_c (g0 rfl) rfl rfl rfl (lenE _ _) trivial ?_
  refine o_s (.t (.d (.seq 1 (bytesD p1)))) (g0 rfl) rfl rfl rfl ?_
  refine o_c (g0 rfl) rfl rfl rfl (lenE _ _) trivial ?_
  refine o_s (.t (.d (.lit (.bool ((p0.length : Int) != (p1.length : Int)))))) (g0 rfl) rfl rfl rfl ?_
  refine o_nil ?_
  repeat (first | refine then_normal ?_ | refine then_exit ?_ | refine then_ret ?_ | refine block_normal ?_ | refine block_ret ?_ | refine block_exit ?_ | refine block_pass rfl ?_)
  rcases bif_some h with ⟨h1, h⟩ | ⟨h1, h⟩
  · refine c_t h1 rfl ?_
    refine c_seq ?_
    refine c_region ?_
    refine o_s (.t (.d (.lit (.bool false)))) (g0 rfl) rfl rfl rfl ?_
    refine o_nil ?_
    repeat (first | refine then_normal ?_ | refine then_exit ?_ | refine then_ret ?_ | refine block_normal ?_ | refine block_ret ?_ | refine block_exit ?_ | refine block_pass rfl ?_)
    refine c_ret ?_
    repeat (first | refine then_normal ?_ | refine then_exit ?_ | refine then_ret ?_ | refine block_normal ?_ | refine block_ret ?_ | refine block_exit ?_ | refine block_pass rfl ?_)
    obtain rfl := Option.some.inj h
    exact end0 rfl (.refl _)
  · refine c_f h1 rfl ?_
    refine c_skip ?_
    repeat (first | refine then_normal ?_ | refine then_exit ?_ | refine then_ret ?_ | refine block_normal ?_ | refine block_ret ?_ | refine block_exit ?_ | refine block_pass rfl ?_)
    refine c_seq ?_
    refine c_seq ?_
    refine c_region ?_
    refine o_s (.t (.d (.lit (.int .i64 0)))) (g0 rfl) rfl rfl rfl ?_
    refine o_nil ?_
    repeat (first | refine then_normal ?_ | refine then_exit ?_ | refine then_ret ?_ | refine block_normal ?_ | refine block_ret ?_ | refine block_exit ?_ | refine block_pass rfl ?_)
    refine c_block ?_
    refine c_fuel (fun (z2 : Int) => [(0, .t (.d (.seq 1 (bytesD p0)))), (1, .t (.d (.seq 1 (bytesD p1)))), (5, .t (.d (.lit (.int .i64 z2))))]) (fun nl1 => (fun (z2 : Int) => m_R01_Same_l1 p0 p1 nl1 z2 = some r)) (p0.length + 1) 0 h ⟨(.refl _), ⟨(.refl _), ⟨(.refl _), trivial⟩⟩⟩ rfl ?_
    rintro nl1 z2 h
    cases nl1 with
    | zero => exact none_ne h
    | succ nl1 =>
      refine c_seq ?_
      refine c_seq ?_
      refine c_region ?_
      refine o_s (.t (.d (.lit (.int .i64 z2)))) (g0 rfl) rfl rfl rfl ?_
      refine o_s (.t (.d (.seq 1 (bytesD p0)))) (g0 rfl) rfl rfl rfl ?_
      refine o_c (g0 rfl) rfl rfl rfl (lenE _ _) trivial ?_
      refine o_s (.t (.d (.lit (.bool (decide (z2 < (p0.length : Int))))))) (g0 rfl) rfl rfl rfl ?_
      refine o_nil ?_
      repeat (first | refine then_normal ?_ | refine then_exit ?_ | refine then_ret ?_ | refine block_normal ?_ | refine block_ret ?_ | refine block_exit ?_ | refine block_pass rfl ?_)
      rcases bif_some h with ⟨h3, h⟩ | ⟨h3, h⟩
      · refine c_t h3 rfl ?_
        refine c_skip ?_
        repeat (first | refine then_normal ?_ | refine then_exit ?_ | refine then_ret ?_ | refine block_normal ?_ | refine block_ret ?_ | refine block_exit ?_ | refine block_pass rfl ?_)
        refine c_seq ?_
        refine c_block ?_
        refine c_seq ?_
        refine c_draw mixed (by kernel_rfl) ?_
        refine d_s (.t (.d (.seq 1 (bytesD p0)))) rfl (dg0 rfl) rfl rfl rfl rfl ?_
        refine d_s (.t (.d (.lit (.int .i64 z2)))) rfl (dg0 rfl) rfl rfl rfl rfl ?_
        obtain ⟨x4, h5, h⟩ := bind_some h
        refine d_c rfl (dg0 rfl) rfl rfl rfl rfl (idxE h5) (idxC h5) ?_
        refine d_s (.t (.d (.lit (.int .u8 (x4.toNat : Int))))) rfl (dg0 rfl) rfl rfl rfl rfl ?_
        refine d_s (.t (.d (.seq 1 (bytesD p1)))) rfl (dg0 rfl) rfl rfl rfl rfl ?_
        refine d_s (.t (.d (.lit (.int .i64 z2)))) rfl (dg0 rfl) rfl rfl rfl rfl ?_
        obtain ⟨x6, h7, h⟩ := bind_some h
        refine d_c rfl (dg0 rfl) rfl rfl rfl rfl (idxE h7) (idxC h7) ?_
        refine d_s (.t (.d (.lit (.int .u8 (x6.toNat : Int))))) rfl (dg0 rfl) rfl rfl rfl rfl ?_
        refine d_s (.t (.d (.lit (.bool ((x4.toNat : Int) != (x6.toNat : Int)))))) rfl (dg0 rfl) rfl rfl rfl rfl ?_
        refine d_nil (by kernel_rfl) ?_
        repeat (first | refine then_normal ?_ | refine then_exit ?_ | refine then_ret ?_ | refine block_normal ?_ | refine block_ret ?_ | refine block_exit ?_ | refine block_pass rfl ?_)
        rcases bif_some h with ⟨h8, h⟩ | ⟨h8, h⟩
        · refine c_t h8 rfl ?_
          refine c_seq ?_
          refine c_region ?_
          refine o_s (.t (.d (.lit (.bool false)))) (g0 rfl) rfl rfl rfl ?_
          refine o_nil ?_
          repeat (first | refine then_normal ?_ | refine then_exit ?_ | refine then_ret ?_ | refine block_normal ?_ | refine block_ret ?_ | refine block_exit ?_ | refine block_pass rfl ?_)
          refine c_ret ?_
          repeat (first | refine then_normal ?_ | refine then_exit ?_ | refine then_ret ?_ | refine block_normal ?_ | refine block_ret ?_ | refine block_exit ?_ | refine block_pass rfl ?_)
          obtain rfl := Option.some.inj h
          exact end0 rfl (.refl _)
        · refine c_f h8 rfl ?_
          refine c_skip ?_
          repeat (first | refine then_normal ?_ | refine then_exit ?_ | refine then_ret ?_ | refine block_normal ?_ | refine block_ret ?_ | refine block_exit ?_ | refine block_pass rfl ?_)
          refine c_region ?_
          refine o_s (.t (.d (.lit (.int .i64 z2)))) (g0 rfl) rfl rfl rfl ?_
          refine o_s (.t (.d (.lit (.int .i64 (wi (z2 + 1)))))) (g0 rfl) rfl rfl rfl ?_
          refine o_s (.t (.d (.lit (.int .i64 (wi (z2 + 1)))))) (g0 rfl) rfl rfl rfl ?_
          refine o_nil ?_
          repeat (first | refine then_normal ?_ | refine then_exit ?_ | refine then_ret ?_ | refine block_normal ?_ | refine block_ret ?_ | refine block_exit ?_ | refine block_pass rfl ?_)
          exact ⟨nl1, (wi (z2 + 1)), Nat.lt_succ_self nl1, h, ⟨(.refl _), ⟨(.refl _), ⟨(.refl _), trivial⟩⟩⟩, rfl⟩
      · refine c_f h3 rfl ?_
        refine c_exit ?_
        repeat (first | refine then_normal ?_ | refine then_exit ?_ | refine then_ret ?_ | refine block_normal ?_ | refine block_ret ?_ | refine block_exit ?_ | refine block_pass rfl ?_)
        refine c_seq ?_
        refine c_region ?_
        refine o_s (.t (.d (.lit (.bool true)))) (g0 rfl) rfl rfl rfl ?_
        refine o_nil ?_
        repeat (first | refine then_normal ?_ | refine then_exit ?_ | refine then_ret ?_ | refine block_normal ?_ | refine block_ret ?_ | refine block_exit ?_ | refine block_pass rfl ?_)
        refine c_ret ?_
        repeat (first | refine then_normal ?_ | refine then_exit ?_ | refine then_ret ?_ | refine block_normal ?_ | refine block_ret ?_ | refine block_exit ?_ | refine block_pass rfl ?_)
        obtain rfl := Option.some.inj h
        exact end0 rfl (.refl _)

theorem fch_L19_awake (w0 : Hp) (r : (Bool × Hp)) (h : m_L19_awake w0 = some r) : FCH Tryd.prog 6 [] [] [] (hpA w0) (hpA r.2) (.t (.d (.lit (.bool r.1)))) := by
  refine fch_mk (rs := [.tmp 0]) (n := 31) [] Tryd.func6 rfl rfl (Nat.le_of_ble_eq_true rfl) rfl (pins := []) rfl (L := [(HK, .hp (hpA w0))]) rfl ?_
  refine c_seq ?_
  refine c_region ?_
  refine o_s (.t (.d (.lit (.bool false)))) (g0 rfl) rfl rfl rfl ?_
  refine o_nil ?_
  repeat (first | refine then_normal ?_ | refine then_exit ?_ | refine then_ret ?_ | refine block_normal ?_ | refine block_ret ?_ | refine block_exit ?_ | refine block_pass rfl ?_)
  refine c_seq ?_
  refine c_region ?_
  obtain ⟨x1, h2, h⟩ := bind_some h
  refine o_of (e := [(HK, .hp (hpA x1.2.2)), (6, .tup [(ptT 1 x1.1), .d (.lit (.int .i64 x1.2.1))])]) (g0 rfl) (h_call (Mk.refl _) rfl (σ := []) (fr := []) rfl rfl rfl rfl rfl rfl rfl (fch_space_New _ w0 _ h2) (pure_hpA _) (pure_hpA _) rfl rfl rfl rfl (.cons (.plain (.refl _) rfl) .nil) rfl (.tup (.cons (ptT_pt _ _) (.cons (.flat rfl) .nil)))) rfl ?_
  refine o_c (g0 rfl) rfl rfl rfl (congrArg A.tup (cp_cons (ptT_cp _ _) (cp_cons rfl cp_nil))) trivial ?_
  refine o_c (g0 rfl) rfl rfl rfl (congrArg A.t (ptT_cp _ _)) trivial ?_
  refine o_s (.t (.d (.lit (.int .i64 x1.2.1)))) (g0 rfl) rfl rfl rfl ?_
  refine o_of (e := [(1, .t ((ptT 1 x1.1)))]) (g0 rfl) (h_mv (Mk.refl _) (.inr rfl) (cpO_pt rfl) rfl rfl) rfl ?_
  refine o_s (.t (.d (.lit (.int .i64 x1.2.1)))) (g0 rfl) rfl rfl rfl ?_
  refine o_nil ?_
  repeat (first | refine then_normal ?_ | refine then_exit ?_ | refine then_ret ?_ | refine block_normal ?_ | refine block_ret ?_ | refine block_exit ?_ | refine block_pass rfl ?_)
  refine c_seq ?_
  refine c_region ?_
  refine o_of (e := [(10, .t ((ptT 1 x1.1)))]) (g0 rfl) (h_mv (Mk.refl _) (.inl rfl) (cpO_pt rfl) rfl rfl) rfl ?_
  obtain ⟨x3, h4, h⟩ := bind_some h
  refine o_of (e := [(HK, .hp (hpA x3.2.2)), (11, .tup [.d (.seq 1 (List.map cI64 x3.1)), .d (.lit (.int .i64 x3.2.1))])]) (g0 rfl) (h_call (Mk.refl _) rfl (σ := []) (fr := []) rfl rfl rfl rfl rfl rfl rfl (fch_space_Space_Take _ _ x1.2.2 _ h4) (pure_hpA _) (pure_hpA _) rfl rfl rfl rfl (.cons (argPt rfl) (.cons (.plain (.refl _) rfl) .nil)) rfl (.tup (.cons (.flat rfl) (.cons (.flat rfl) .nil)))) rfl ?_
  refine o_s (.tup [.d (.seq 1 (List.map cI64 x3.1)), .d (.lit (.int .i64 x3.2.1))]) (g0 rfl) rfl rfl rfl ?_
  refine o_s (.t (.d (.seq 1 (List.map cI64 x3.1)))) (g0 rfl) rfl rfl rfl ?_
  refine o_s (.t (.d (.lit (.int .i64 x3.2.1)))) (g0 rfl) rfl rfl rfl ?_
  refine o_s (.t (.d (.seq 1 (List.map cI64 x3.1)))) (g0 rfl) rfl rfl rfl ?_
  refine o_s (.t (.d (.lit (.int .i64 x3.2.1)))) (g0 rfl) rfl rfl rfl ?_
  refine o_nil ?_
  repeat (first | refine then_normal ?_ | refine then_exit ?_ | refine then_ret ?_ | refine block_normal ?_ | refine block_ret ?_ | refine block_exit ?_ | refine block_pass rfl ?_)
  refine c_seq ?_
  refine c_region ?_
  refine o_s (.t (.d (.lit (.int .i64 x1.2.1)))) (g0 rfl) rfl rfl rfl ?_
  refine o_s (.t (.d (.lit (.bool (x1.2.1 == 0))))) (g0 rfl) rfl rfl rfl ?_
  refine o_s (.t (.d (.lit (.bool (x1.2.1 == 0))))) (g0 rfl) rfl rfl rfl ?_
  rcases bif_some h with ⟨h5, h⟩ | ⟨h5, h⟩
  · refine o_s (.t (.d (.lit (.int .i64 x3.2.1)))) (gy rfl rfl rfl h5) rfl rfl rfl ?_
    refine o_s (.t (.d (.lit (.bool (x3.2.1 == 0))))) (gy rfl rfl rfl h5) rfl rfl rfl ?_
    refine o_pk (.t (.d (.lit (.bool (x3.2.1 == 0))))) (b := true) h5 (g0 rfl) rfl rfl rfl rfl rfl ?_
    refine o_s (.t (.d (.lit (.bool (x3.2.1 == 0))))) (g0 rfl) rfl rfl rfl ?_
    rcases bif_some h with ⟨h6, h⟩ | ⟨h6, h⟩
    · refine o_s (.t (.d (.seq 1 (List.map cI64 x3.1)))) (gy rfl rfl rfl h6) rfl rfl rfl ?_
      refine o_s (.t (.own 3 1 (List.map cI64 [0, 1]))) (gy rfl rfl rfl h6) rfl rfl rfl ?_
      obtain ⟨x7, h8, h⟩ := bind_some h
      refine o_ca (fc_R01_Ints _ _ _ h8) (gy rfl rfl rfl h6) rfl rfl rfl rfl rfl rfl rfl (.cons (.refl _) (.cons (.refl _) .nil)) rfl rfl ?_
      refine o_pk (.t (.d (.lit (.bool x7)))) (b := true) h6 (g0 rfl) rfl rfl rfl rfl rfl ?_
      refine o_s (.t (.d (.lit (.bool x7)))) (g0 rfl) rfl rfl rfl ?_
      rcases bif_some h with ⟨h9, h⟩ | ⟨h9, h⟩
      · refine o_of (e := [(26, .t ((ptT 1 x1.1)))]) (gy rfl rfl rfl h9) (h_mv (Mk.refl _) (.inl rfl) (cpO_pt rfl) rfl rfl) rfl ?_
        obtain ⟨x10, h11, h⟩ := bind_some h
        refine o_of (e := [(HK, .hp (hpA x10.2)), (27, .t (.d (.seq 1 (bytesD x10.1))))]) (gy rfl rfl rfl h9) (h_call (Mk.refl _) rfl (σ := []) (fr := []) rfl rfl rfl rfl rfl rfl rfl (fch_space_Space_Bytes _ x3.2.2 _ h11) (pure_hpA _) (pure_hpA _) rfl rfl rfl rfl (.cons (argPt rfl) .nil) rfl (.t (.flat rfl))) rfl ?_
        refine o_s (.t (.own 5 1 (bytesD [3]))) (gy rfl rfl rfl h9) rfl rfl rfl ?_
        obtain ⟨x12, h13, h⟩ := bind_some h
        refine o_ca (fc_R01_Same _ _ _ h13) (gy rfl rfl rfl h9) rfl rfl rfl rfl rfl rfl rfl (.cons (.refl _) (.cons (.refl _) .nil)) rfl rfl ?_
        refine o_pk (.t (.d (.lit (.bool x12)))) (b := true) h9 (g0 rfl) rfl rfl rfl rfl rfl ?_
        refine o_s (.t (.d (.lit (.bool x12)))) (g0 rfl) rfl rfl rfl ?_
        refine o_nil ?_
        repeat (first | refine then_normal ?_ | refine then_exit ?_ | refine then_ret ?_ | refine block_normal ?_ | refine block_ret ?_ | refine block_exit ?_ | refine block_pass rfl ?_)
        refine c_ret ?_
        repeat (first | refine then_normal ?_ | refine then_exit ?_ | refine then_ret ?_ | refine block_normal ?_ | refine block_ret ?_ | refine block_exit ?_ | refine block_pass rfl ?_)
        obtain rfl := Option.some.inj h
        exact ⟨⟨_, rfl, (.refl _)⟩, trivial, rfl⟩
      · refine o_skip rfl rfl rfl h9 rfl rfl ?_
        refine o_skip rfl rfl rfl h9 rfl rfl ?_
        refine o_skip rfl rfl rfl h9 rfl rfl ?_
        refine o_skip rfl rfl rfl h9 rfl rfl ?_
        refine o_pk (.t (.d (.lit (.bool false)))) (b := false) h9 (g0 rfl) rfl rfl rfl rfl rfl ?_
        refine o_s (.t (.d (.lit (.bool false)))) (g0 rfl) rfl rfl rfl ?_
        refine o_nil ?_
        repeat (first | refine then_normal ?_ | refine then_exit ?_ | refine then_ret ?_ | refine block_normal ?_ | refine block_ret ?_ | refine block_exit ?_ | refine block_pass rfl ?_)
        refine c_ret ?_
        repeat (first | refine then_normal ?_ | refine then_exit ?_ | refine then_ret ?_ | refine block_normal ?_ | refine block_ret ?_ | refine block_exit ?_ | refine block_pass rfl ?_)
        obtain rfl := Option.some.inj h
        exact ⟨⟨_, rfl, (.refl _)⟩, trivial, rfl⟩
    · refine o_skip rfl rfl rfl h6 rfl rfl ?_
      refine o_skip rfl rfl rfl h6 rfl rfl ?_
      refine o_skip rfl rfl rfl h6 rfl rfl ?_
      refine o_pk (.t (.d (.lit (.bool false)))) (b := false) h6 (g0 rfl) rfl rfl rfl rfl rfl ?_
      refine o_s (.t (.d (.lit (.bool false)))) (g0 rfl) rfl rfl rfl ?_
      refine o_skip rfl rfl rfl rfl rfl rfl ?_
      refine o_skip rfl rfl rfl rfl rfl rfl ?_
      refine o_skip rfl rfl rfl rfl rfl rfl ?_
      refine o_skip rfl rfl rfl rfl rfl rfl ?_
      refine o_pk (.t (.d (.lit (.bool false)))) (b := false) rfl (g0 rfl) rfl rfl rfl rfl rfl ?_
      refine o_s (.t (.d (.lit (.bool false)))) (g0 rfl) rfl rfl rfl ?_
      refine o_nil ?_
      repeat (first | refine then_normal ?_ | refine then_exit ?_ | refine then_ret ?_ | refine block_normal ?_ | refine block_ret ?_ | refine block_exit ?_ | refine block_pass rfl ?_)
      refine c_ret ?_
      repeat (first | refine then_normal ?_ | refine then_exit ?_ | refine then_ret ?_ | refine block_normal ?_ | refine block_ret ?_ | refine block_exit ?_ | refine block_pass rfl ?_)
      obtain rfl := Option.some.inj h
      exact ⟨⟨_, rfl, (.refl _)⟩, trivial, rfl⟩
  · refine o_skip rfl rfl rfl h5 rfl rfl ?_
    refine o_skip rfl rfl rfl h5 rfl rfl ?_
    refine o_pk (.t (.d (.lit (.bool false)))) (b := false) h5 (g0 rfl) rfl rfl rfl rfl rfl ?_
    refine o_s (.t (.d (.lit (.bool false)))) (g0 rfl) rfl rfl rfl ?_
    refine o_skip rfl rfl rfl rfl rfl rfl ?_
    refine o_skip rfl rfl rfl rfl rfl rfl ?_
    refine o_skip rfl rfl rfl rfl rfl rfl ?_
    refine o_pk (.t (.d (.lit (.bool false)))) (b := false) rfl (g0 rfl) rfl rfl rfl rfl rfl ?_
    refine o_s (.t (.d (.lit (.bool false)))) (g0 rfl) rfl rfl rfl ?_
    refine o_skip rfl rfl rfl rfl rfl rfl ?_
    refine o_skip rfl rfl rfl rfl rfl rfl ?_
    refine o_skip rfl rfl rfl rfl rfl rfl ?_
    refine o_skip rfl rfl rfl rfl rfl rfl ?_
    refine o_pk (.t (.d (.lit (.bool false)))) (b := false) rfl (g0 rfl) rfl rfl rfl rfl rfl ?_
    refine o_s (.t (.d (.lit (.bool false)))) (g0 rfl) rfl rfl rfl ?_
    refine o_nil ?_
    repeat (first | refine then_normal ?_ | refine then_exit ?_ | refine then_ret ?_ | refine block_normal ?_ | refine block_ret ?_ | refine block_exit ?_ | refine block_pass rfl ?_)
    refine c_ret ?_
    repeat (first | refine then_normal ?_ | refine then_exit ?_ | refine then_ret ?_ | refine block_normal ?_ | refine block_ret ?_ | refine block_exit ?_ | refine block_pass rfl ?_)
    obtain rfl := Option.some.inj h
    exact ⟨⟨_, rfl, (.refl _)⟩, trivial, rfl⟩

theorem fc_L19_few (p0 : (List S_L19_Do)) (r : Bool) (h : m_L19_few p0 = some r) : FC Tryd.prog 10 [.t (.d (.seq 3 (List.map cS_L19_Do p0)))] [] (.t (.d (.lit (.bool r)))) := by
  refine fc_mk (rs := [.tmp 2]) (n := 19) Tryd.func10 rfl rfl (Nat.le_of_ble_eq_true rfl) rfl (pins := []) rfl (L := [(0, .t (.d (.seq 3 (List.map cS_L19_Do p0))))]) rfl ?_
  refine c_seq ?_
  refine c_region ?_
  refine o_s (.t (.d (.lit (.bool false)))) (g0 rfl) rfl rfl rfl ?_
  refine o_nil ?_
  repeat (first | refine then_normal ?_ | refine then_exit ?_ | refine then_ret ?_ | refine block_normal ?_ | refine block_ret ?_ | refine block_exit ?_ | refine block_pass rfl ?_)
  refine c_cut (fun (_ : Unit) => [(0, .t (.d (.seq 3 (List.map cS_L19_Do p0))))]) (fun (_ : Unit) => m_L19_few_j1 p0 = some r) ?_ ?_
  · refine c_seq ?_
    refine c_region ?_
    refine o_s (.t (.d (.seq 3 (List.map cS_L19_Do p0)))) (g0 rfl) rfl rfl rfl ?_
    refine o_c (g0 rfl) rfl rfl rfl (lenE _ _) trivial ?_
    refine o_s (.t (.d (.lit (.int .i64 0)))) (g0 rfl) rfl rfl rfl ?_
    refine o_nil ?_
    repeat (first | refine then_normal ?_ | refine then_exit ?_ | refine then_ret ?_ | refine block_normal ?_ | refine block_ret ?_ | refine block_exit ?_ | refine block_pass rfl ?_)
    refine c_block ?_
    refine c_fuel (fun (z1 : Int) => [(0, .t (.d (.seq 3 (List.map cS_L19_Do p0)))), (5, .t (.d (.seq 3 (List.map cS_L19_Do p0)))), (6, .t (.d (.lit (.int .i64 (p0.length : Int))))), (7, .t (.d (.lit (.int .i64 z1))))]) (fun nl2 => (fun (z1 : Int) => m_L19_few_l2 p0 nl2 z1 = some r)) (p0.length + 1) 0 h ⟨(.refl _), ⟨(.refl _), ⟨(.refl _), ⟨(.refl _), trivial⟩⟩⟩⟩ rfl ?_
    rintro nl2 z1 h
    cases nl2 with
    | zero => exact none_ne h
    | succ nl2 =>
      refine c_seq ?_
      refine c_region ?_
      refine o_s (.t (.d (.lit (.bool (decide (z1 < (p0.length : Int))))))) (g0 rfl) rfl rfl rfl ?_
      refine o_nil ?_
      repeat (first | refine then_normal ?_ | refine then_exit ?_ | refine then_ret ?_ | refine block_normal ?_ | refine block_ret ?_ | refine block_exit ?_ | refine block_pass rfl ?_)
      refine c_seq ?_
      rcases bif_some h with ⟨h2, h⟩ | ⟨h2, h⟩
      · refine c_t h2 rfl ?_
        refine c_skip ?_
        repeat (first | refine then_normal ?_ | refine then_exit ?_ | refine then_ret ?_ | refine block_normal ?_ | refine block_ret ?_ | refine block_exit ?_ | refine block_pass rfl ?_)
        refine c_seq ?_
        refine c_block ?_
        refine c_seq ?_
        refine c_region ?_
        obtain ⟨x3, h4, h⟩ := bind_some h
        refine o_c (g0 rfl) rfl rfl rfl (idxE h4) (idxC h4) ?_
        refine o_s (.t (.agg [.lit (.int .i64 x3.Kind), .lit (.int .i64 x3.N), .seq 1 (List.map cI64 x3.L)])) (g0 rfl) rfl rfl rfl ?_
        refine o_s (.box [.d (.lit (.int .i64 0)), .d (.lit (.int .i64 0)), .d (.lit (.slice none 0 0))]) (g0 rfl) rfl rfl rfl ?_
        refine o_st (.box [.d (.lit (.int .i64 x3.Kind)), .d (.lit (.int .i64 x3.N)), .d (.seq 1 (List.map cI64 x3.L))]) (g0 rfl) rfl rfl rfl ?_
        refine o_nil ?_
        repeat (first | refine then_normal ?_ | refine then_exit ?_ | refine then_ret ?_ | refine block_normal ?_ | refine block_ret ?_ | refine block_exit ?_ | refine block_pass rfl ?_)
        refine c_seq ?_
        refine c_region ?_
        refine o_s (.ref 4 2) (g0 rfl) rfl rfl rfl ?_
        refine o_s (.t (.d (.seq 1 (List.map cI64 x3.L)))) (g0 rfl) rfl rfl rfl ?_
        refine o_c (g0 rfl) rfl rfl rfl (lenE _ _) trivial ?_
        refine o_s (.t (.d (.lit (.bool (decide ((x3.L.length : Int) > 30)))))) (g0 rfl) rfl rfl rfl ?_
        refine o_nil ?_
        repeat (first | refine then_normal ?_ | refine then_exit ?_ | refine then_ret ?_ | refine block_normal ?_ | refine block_ret ?_ | refine block_exit ?_ | refine block_pass rfl ?_)
        rcases bif_some h with ⟨h5, h⟩ | ⟨h5, h⟩
        · refine c_t h5 rfl ?_
          refine c_seq ?_
          refine c_region ?_
          refine o_s (.t (.d (.lit (.bool false)))) (g0 rfl) rfl rfl rfl ?_
          refine o_nil ?_
          repeat (first | refine then_normal ?_ | refine then_exit ?_ | refine then_ret ?_ | refine block_normal ?_ | refine block_ret ?_ | refine block_exit ?_ | refine block_pass rfl ?_)
          refine c_ret ?_
          repeat (first | refine then_normal ?_ | refine then_exit ?_ | refine then_ret ?_ | refine block_normal ?_ | refine block_ret ?_ | refine block_exit ?_ | refine block_pass rfl ?_)
          obtain rfl := Option.some.inj h
          exact end0 rfl (.refl _)
        · refine c_f h5 rfl ?_
          refine c_skip ?_
          repeat (first | refine then_normal ?_ | refine then_exit ?_ | refine then_ret ?_ | refine block_normal ?_ | refine block_ret ?_ | refine block_exit ?_ | refine block_pass rfl ?_)
          refine c_region ?_
          refine o_s (.t (.d (.lit (.int .i64 (wi (z1 + 1)))))) (g0 rfl) rfl rfl rfl ?_
          refine o_s (.t (.d (.lit (.int .i64 (wi (z1 + 1)))))) (g0 rfl) rfl rfl rfl ?_
          refine o_nil ?_
          repeat (first | refine then_normal ?_ | refine then_exit ?_ | refine then_ret ?_ | refine block_normal ?_ | refine block_ret ?_ | refine block_exit ?_ | refine block_pass rfl ?_)
          exact ⟨nl2, (wi (z1 + 1)), Nat.lt_succ_self nl2, h, ⟨(.refl _), ⟨(.refl _), ⟨(.refl _), ⟨(.refl _), trivial⟩⟩⟩⟩, rfl⟩
      · refine c_f h2 rfl ?_
        refine c_exit ?_
        repeat (first | refine then_normal ?_ | refine then_exit ?_ | refine then_ret ?_ | refine block_normal ?_ | refine block_ret ?_ | refine block_exit ?_ | refine block_pass rfl ?_)
        exact ⟨(), h, ⟨(.refl _), trivial⟩, rfl⟩
  · rintro ⟨⟩ h
    refine c_seq ?_
    refine c_region ?_
    refine o_s (.t (.d (.seq 3 (List.map cS_L19_Do p0)))) (g0 rfl) rfl rfl rfl ?_
    refine o_c (g0 rfl) rfl rfl rfl (lenE _ _) trivial ?_
    refine o_s (.t (.d (.lit (.bool (decide ((p0.length : Int) ≤ 30)))))) (g0 rfl) rfl rfl rfl ?_
    refine o_s (.t (.d (.lit (.bool (decide ((p0.length : Int) ≤ 30)))))) (g0 rfl) rfl rfl rfl ?_
    refine o_nil ?_
    repeat (first | refine then_normal ?_ | refine then_exit ?_ | refine then_ret ?_ | refine block_normal ?_ | refine block_ret ?_ | refine block_exit ?_ | refine block_pass rfl ?_)
    refine c_ret ?_
    repeat (first | refine then_normal ?_ | refine then_exit ?_ | refine then_ret ?_ | refine block_normal ?_ | refine block_ret ?_ | refine block_exit ?_ | refine block_pass rfl ?_)
    obtain rfl := Option.some.inj h
    exact end0 rfl (.refl _)

theorem fc_R19_Free (p0 : (List Bool)) (r : Int) (h : m_R19_Free p0 = some r) : FC Tryd.prog 28 [.t (.d (.seq 1 (List.map cBool p0)))] [] (.t (.d (.lit (.int .i64 r)))) := by
  refine fc_mk (rs := [.tmp 2]) (n := 19) Tryd.func28 rfl rfl (Nat.le_of_ble_eq_true rfl) rfl (pins := []) rfl (L := [(0, .t (.d (.seq 1 (List.map cBool p0))))]) rfl ?_
  refine c_seq ?_
  refine c_region ?_
  refine o_s (.t (.d (.lit (.int .i64 0)))) (g0 rfl) rfl rfl rfl ?_
  refine o_nil ?_
  repeat (first | refine then_normal ?_ | refine then_exit ?_ | refine then_ret ?_ | refine block_normal ?_ | refine block_ret ?_ | refine block_exit ?_ | refine block_pass rfl ?_)
  refine c_seq ?_
  refine c_region ?_
  refine o_s (.t (.d (.lit (.int .i64 0)))) (g0 rfl) rfl rfl rfl ?_
  refine o_nil ?_
  repeat (first | refine then_normal ?_ | refine then_exit ?_ | refine then_ret ?_ | refine block_normal ?_ | refine block_ret ?_ | refine block_exit ?_ | refine block_pass rfl ?_)
  refine c_seq ?_
  refine c_seq ?_
  refine c_region ?_
  refine o_s (.t (.d (.lit (.int .i64 0)))) (g0 rfl) rfl rfl rfl ?_
  refine o_nil ?_
  repeat (first | refine then_normal ?_ | refine then_exit ?_ | refine then_ret ?_ | refine block_normal ?_ | refine block_ret ?_ | refine block_exit ?_ | refine block_pass rfl ?_)
  refine c_block ?_
  refine c_fuel (fun (q : Int × Int) => [(0, .t (.d (.seq 1 (List.map cBool p0)))), (3, .t (.d (.lit (.int .i64 q.1)))), (4, .t (.d (.lit (.int .i64 q.2))))]) (fun nl1 => (fun (q : Int × Int) => m_R19_Free_l1 p0 nl1 q.1 q.2 = some r)) (p0.length + 1) (0, 0) h ⟨(.refl _), ⟨(.refl _), ⟨(.refl _), trivial⟩⟩⟩ rfl ?_
  rintro nl1 ⟨z1, z2⟩ h
  cases nl1 with
  | zero => exact none_ne h
  | succ nl1 =>
    refine c_seq ?_
    refine c_seq ?_
    refine c_region ?_
    refine o_s (.t (.d (.lit (.int .i64 z2)))) (g0 rfl) rfl rfl rfl ?_
    refine o_s (.t (.d (.seq 1 (List.map cBool p0)))) (g0 rfl) rfl rfl rfl ?_
    refine o_c (g0 rfl) rfl rfl rfl (lenE _ _) trivial ?_
    refine o_s (.t (.d (.lit (.bool (decide (z2 < (p0.length : Int))))))) (g0 rfl) rfl rfl rfl ?_
    refine o_nil ?_
    repeat (first | refine then_normal ?_ | refine then_exit ?_ | refine then_ret ?_ | refine block_normal ?_ | refine block_ret ?_ | refine block_exit ?_ | refine block_pass rfl ?_)
    rcases bif_some h with ⟨h3, h⟩ | ⟨h3, h⟩
    · refine c_t h3 rfl ?_
      refine c_skip ?_
      repeat (first | refine then_normal ?_ | refine then_exit ?_ | refine then_ret ?_ | refine block_normal ?_ | refine block_ret ?_ | refine block_exit ?_ | refine block_pass rfl ?_)
      refine c_cut (fun (y4 : Int) => [(0, .t (.d (.seq 1 (List.map cBool p0)))), (3, .t (.d (.lit (.int .i64 y4)))), (4, .t (.d (.lit (.int .i64 z2))))]) (fun (y4 : Int) => m_R19_Free_j2 (m_R19_Free_l1 p0 nl1) z2 y4 = some r) ?_ ?_
      · refine c_block ?_
        refine c_seq ?_
        refine c_region ?_
        refine o_s (.t (.d (.seq 1 (List.map cBool p0)))) (g0 rfl) rfl rfl rfl ?_
        refine o_s (.t (.d (.lit (.int .i64 z2)))) (g0 rfl) rfl rfl rfl ?_
        obtain ⟨x5, h6, h⟩ := bind_some h
        refine o_c (g0 rfl) rfl rfl rfl (idxE h6) (idxC h6) ?_
        refine o_s (.t (.d (.lit (.bool x5)))) (g0 rfl) rfl rfl rfl ?_
        refine o_s (.t (.d (.lit (.bool (!x5))))) (g0 rfl) rfl rfl rfl ?_
        refine o_nil ?_
        repeat (first | refine then_normal ?_ | refine then_exit ?_ | refine then_ret ?_ | refine block_normal ?_ | refine block_ret ?_ | refine block_exit ?_ | refine block_pass rfl ?_)
        rcases bif_some h with ⟨h7, h⟩ | ⟨h7, h⟩
        · refine c_t h7 rfl ?_
          refine c_region ?_
          refine o_s (.t (.d (.lit (.int .i64 z1)))) (g0 rfl) rfl rfl rfl ?_
          refine o_s (.t (.d (.lit (.int .i64 (wi (z1 + 1)))))) (g0 rfl) rfl rfl rfl ?_
          refine o_s (.t (.d (.lit (.int .i64 (wi (z1 + 1)))))) (g0 rfl) rfl rfl rfl ?_
          refine o_nil ?_
          repeat (first | refine then_normal ?_ | refine then_exit ?_ | refine then_ret ?_ | refine block_normal ?_ | refine block_ret ?_ | refine block_exit ?_ | refine block_pass rfl ?_)
          exact ⟨(wi (z1 + 1)), h, ⟨(.refl _), ⟨(.refl _), ⟨(.refl _), trivial⟩⟩⟩, rfl⟩
        · refine c_f h7 rfl ?_
          refine c_skip ?_
          repeat (first | refine then_normal ?_ | refine then_exit ?_ | refine then_ret ?_ | refine block_normal ?_ | refine block_ret ?_ | refine block_exit ?_ | refine block_pass rfl ?_)
          exact ⟨z1, h, ⟨(.refl _), ⟨(.refl _), ⟨(.refl _), trivial⟩⟩⟩, rfl⟩
      · rintro y4 h
        refine c_region ?_
        refine o_s (.t (.d (.lit (.int .i64 z2)))) (g0 rfl) rfl rfl rfl ?_
        refine o_s (.t (.d (.lit (.int .i64 (wi (z2 + 1)))))) (g0 rfl) rfl rfl rfl ?_
        refine o_s (.t (.d (.lit (.int .i64 (wi (z2 + 1)))))) (g0 rfl) rfl rfl rfl ?_
        refine o_nil ?_
        repeat (first | refine then_normal ?_ | refine then_exit ?_ | refine then_ret ?_ | refine block_normal ?_ | refine block_ret ?_ | refine block_exit ?_ | refine block_pass rfl ?_)
        exact ⟨nl1, (y4, (wi (z2 + 1))), Nat.lt_succ_self nl1, h, ⟨(.refl _), ⟨(.refl _), ⟨(.refl _), trivial⟩⟩⟩, rfl⟩
    · refine c_f h3 rfl ?_
      refine c_exit ?_
      repeat (first | refine then_normal ?_ | refine then_exit ?_ | refine then_ret ?_ | refine block_normal ?_ | refine block_ret ?_ | refine block_exit ?_ | refine block_pass rfl ?_)
      refine c_seq ?_
      refine c_region ?_
      refine o_s (.t (.d (.lit (.int .i64 z1)))) (g0 rfl) rfl rfl rfl ?_
      refine o_s (.t (.d (.lit (.int .i64 z1)))) (g0 rfl) rfl rfl rfl ?_
      refine o_nil ?_
      repeat (first | refine then_normal ?_ | refine then_exit ?_ | refine then_ret ?_ | refine block_normal ?_ | refine block_ret ?_ | refine block_exit ?_ | refine block_pass rfl ?_)
      refine c_ret ?_
      repeat (first | refine then_normal ?_ | refine then_exit ?_ | refine then_ret ?_ | refine block_normal ?_ | refine block_ret ?_ | refine block_exit ?_ | refine block_pass rfl ?_)
      obtain rfl := Option.some.inj h
      exact end0 rfl (.refl _)

theorem fc_R19_Bytes (p0 : (List Bool)) (r : (List UInt8)) (h : m_R19_Bytes p0 = some r) : FC Tryd.prog 30 [.t (.d (.seq 1 (List.map cBool p0)))] [] (.t (.own 5 1 (bytesD r))) := by
  refine fc_mk (rs := [.tmp 2]) (n := 41) Tryd.func30 rfl rfl (Nat.le_of_ble_eq_true rfl) rfl (pins := []) rfl (L := [(0, .t (.d (.seq 1 (List.map cBool p0))))]) rfl ?_
  refine c_seq ?_
  refine c_region ?_
  refine o_s (.t (.d (.lit (.slice none 0 0)))) (g0 rfl) rfl rfl rfl ?_
  refine o_nil ?_
  repeat (first | refine then_normal ?_ | refine then_exit ?_ | refine then_ret ?_ | refine block_normal ?_ | refine block_ret ?_ | refine block_exit ?_ | refine block_pass rfl ?_)
  refine c_seq ?_
  refine c_region ?_
  refine o_s (.t (.d (.lit (.slice none 0 0)))) (g0 rfl) rfl rfl rfl ?_
  refine o_nil ?_
  repeat (first | refine then_normal ?_ | refine then_exit ?_ | refine then_ret ?_ | refine block_normal ?_ | refine block_ret ?_ | refine block_exit ?_ | refine block_pass rfl ?_)
  refine c_seq ?_
  refine c_seq ?_
  refine c_region ?_
  refine o_s (.t (.d (.lit (.int .i64 0)))) (g0 rfl) rfl rfl rfl ?_
  refine o_nil ?_
  repeat (first | refine then_normal ?_ | refine then_exit ?_ | refine then_ret ?_ | refine block_normal ?_ | refine block_ret ?_ | refine block_exit ?_ | refine block_pass rfl ?_)
  refine c_block ?_
  refine c_fuel (fun (q : (List UInt8) × Int) => [(0, .t (.d (.seq 1 (List.map cBool p0)))), (3, .t (.own 5 1 (bytesD q.1))), (4, .t (.d (.lit (.int .i64 q.2))))]) (fun nl1 => (fun (q : (List UInt8) × Int) => m_R19_Bytes_l1 p0 nl1 q.1 q.2 = some r)) (p0.length + 1) ([], 0) h ⟨(.refl _), ⟨(.t (.nilOwn _ _)), ⟨(.refl _), trivial⟩⟩⟩ rfl ?_
  rintro nl1 ⟨z1, z2⟩ h
  cases nl1 with
  | zero => exact none_ne h
  | succ nl1 =>
    refine c_seq ?_
    refine c_seq ?_
    refine c_region ?_
    refine o_s (.t (.d (.lit (.int .i64 z2)))) (g0 rfl) rfl rfl rfl ?_
    refine o_s (.t (.d (.seq 1 (List.map cBool p0)))) (g0 rfl) rfl rfl rfl ?_
    refine o_c (g0 rfl) rfl rfl rfl (lenE _ _) trivial ?_
    refine o_s (.t (.d (.lit (.bool (decide (z2 < (p0.length : Int))))))) (g0 rfl) rfl rfl rfl ?_
    refine o_nil ?_
    repeat (first | refine then_normal ?_ | refine then_exit ?_ | refine then_ret ?_ | refine block_normal ?_ | refine block_ret ?_ | refine block_exit ?_ | refine block_pass rfl ?_)
    rcases bif_some h with ⟨h3, h⟩ | ⟨h3, h⟩
    · refine c_t h3 rfl ?_
      refine c_skip ?_
      repeat (first | refine then_normal ?_ | refine then_exit ?_ | refine then_ret ?_ | refine block_normal ?_ | refine block_ret ?_ | refine block_exit ?_ | refine block_pass rfl ?_)
      refine c_seq ?_
      refine c_block ?_
      refine c_seq ?_
      refine c_region ?_
      refine o_s (.t (.d (.lit (.int .i64 0)))) (g0 rfl) rfl rfl rfl ?_
      refine o_nil ?_
      repeat (first | refine then_normal ?_ | refine then_exit ?_ | refine then_ret ?_ | refine block_normal ?_ | refine block_ret ?_ | refine block_exit ?_ | refine block_pass rfl ?_)
      refine c_cut (fun (y4 : Int) => [(0, .t (.d (.seq 1 (List.map cBool p0)))), (3, .t (.own 5 1 (bytesD z1))), (4, .t (.d (.lit (.int .i64 z2)))), (5, .t (.d (.lit (.int .i64 y4))))]) (fun (y4 : Int) => m_R19_Bytes_j2 (m_R19_Bytes_l1 p0 nl1) z1 z2 y4 = some r) ?_ ?_
      · refine c_seq ?_
        refine c_region ?_
        refine o_s (.t (.d (.lit (.int .i64 7)))) (g0 rfl) rfl rfl rfl ?_
        refine o_nil ?_
        repeat (first | refine then_normal ?_ | refine then_exit ?_ | refine then_ret ?_ | refine block_normal ?_ | refine block_ret ?_ | refine block_exit ?_ | refine block_pass rfl ?_)
        refine c_block ?_
        refine c_fuel (fun (q : Int × Int) => [(0, .t (.d (.seq 1 (List.map cBool p0)))), (3, .t (.own 5 1 (bytesD z1))), (4, .t (.d (.lit (.int .i64 z2)))), (5, .t (.d (.lit (.int .i64 q.1)))), (6, .t (.d (.lit (.int .i64 q.2))))]) (fun nl3 => (fun (q : Int × Int) => m_R19_Bytes_l3 (m_R19_Bytes_l1 p0 nl1) z2 p0 z1 nl3 q.1 q.2 = some r)) (9) (0, 7) h ⟨(.refl _), ⟨(.refl _), ⟨(.refl _), ⟨(.refl _), ⟨(.refl _), trivial⟩⟩⟩⟩⟩ rfl ?_
        rintro nl3 ⟨z7, z8⟩ h
        cases nl3 with
        | zero => exact none_ne h
        | succ nl3 =>
          refine c_seq ?_
          refine c_seq ?_
          refine c_region ?_
          refine o_s (.t (.d (.lit (.int .i64 z8)))) (g0 rfl) rfl rfl rfl ?_
          refine o_s (.t (.d (.lit (.bool (decide (z8 ≥ 0)))))) (g0 rfl) rfl rfl rfl ?_
          refine o_nil ?_
          repeat (first | refine then_normal ?_ | refine then_exit ?_ | refine then_ret ?_ | refine block_normal ?_ | refine block_ret ?_ | refine block_exit ?_ | refine block_pass rfl ?_)
          rcases bif_some h with ⟨h9, h⟩ | ⟨h9, h⟩
          · refine c_t h9 rfl ?_
            refine c_skip ?_
            repeat (first | refine then_normal ?_ | refine then_exit ?_ | refine then_ret ?_ | refine block_normal ?_ | refine block_ret ?_ | refine block_exit ?_ | refine block_pass rfl ?_)
            refine c_cut (fun (y10 : Int) => [(0, .t (.d (.seq 1 (List.map cBool p0)))), (3, .t (.own 5 1 (bytesD z1))), (4, .t (.d (.lit (.int .i64 z2)))), (5, .t (.d (.lit (.int .i64 y10)))), (6, .t (.d (.lit (.int .i64 z8))))]) (fun (y10 : Int) => m_R19_Bytes_j4 (m_R19_Bytes_l3 (m_R19_Bytes_l1 p0 nl1) z2 p0 z1 nl3) z8 y10 = some r) ?_ ?_
            · refine c_block ?_
              refine c_seq ?_
              refine c_region ?_
              refine o_s (.t (.d (.lit (.int .i64 z7)))) (g0 rfl) rfl rfl rfl ?_
              refine o_s (.t (.d (.lit (.int .i64 (wi (2 * z7)))))) (g0 rfl) rfl rfl rfl ?_
              refine o_s (.t (.d (.lit (.int .i64 (wi (2 * z7)))))) (g0 rfl) rfl rfl rfl ?_
              refine o_nil ?_
              repeat (first | refine then_normal ?_ | refine then_exit ?_ | refine then_ret ?_ | refine block_normal ?_ | refine block_ret ?_ | refine block_exit ?_ | refine block_pass rfl ?_)
              refine c_seq ?_
              refine c_region ?_
              refine o_s (.t (.d (.lit (.int .i64 z2)))) (g0 rfl) rfl rfl rfl ?_
              refine o_s (.t (.d (.lit (.int .i64 z8)))) (g0 rfl) rfl rfl rfl ?_
              refine o_s (.t (.d (.lit (.int .i64 (wi (z2 + z8)))))) (g0 rfl) rfl rfl rfl ?_
              refine o_s (.t (.d (.seq 1 (List.map cBool p0)))) (g0 rfl) rfl rfl rfl ?_
              refine o_c (g0 rfl) rfl rfl rfl (lenE _ _) trivial ?_
              refine o_s (.t (.d (.lit (.bool (decide ((wi (z2 + z8)) < (p0.length : Int))))))) (g0 rfl) rfl rfl rfl ?_
              refine o_s (.t (.d (.lit (.bool (decide ((wi (z2 + z8)) < (p0.length : Int))))))) (g0 rfl) rfl rfl rfl ?_
              rcases bif_some h with ⟨h11, h⟩ | ⟨h11, h⟩
              · refine o_s (.t (.d (.seq 1 (List.map cBool p0)))) (gy rfl rfl rfl h11) rfl rfl rfl ?_
                refine o_s (.t (.d (.lit (.int .i64 z2)))) (gy rfl rfl rfl h11) rfl rfl rfl ?_
                refine o_s (.t (.d (.lit (.int .i64 z8)))) (gy rfl rfl rfl h11) rfl rfl rfl ?_
                refine o_s (.t (.d (.lit (.int .i64 (wi (z2 + z8)))))) (gy rfl rfl rfl h11) rfl rfl rfl ?_
                obtain ⟨x12, h13, h⟩ := bind_some h
                refine o_c (gy rfl rfl rfl h11) rfl rfl rfl (idxE h13) (idxC h13) ?_
                refine o_s (.t (.d (.lit (.bool x12)))) (gy rfl rfl rfl h11) rfl rfl rfl ?_
                refine o_pk (.t (.d (.lit (.bool x12)))) (b := true) h11 (g0 rfl) rfl rfl rfl rfl rfl ?_
                refine o_nil ?_
                repeat (first | refine then_normal ?_ | refine then_exit ?_ | refine then_ret ?_ | refine block_normal ?_ | refine block_ret ?_ | refine block_exit ?_ | refine block_pass rfl ?_)
                rcases bif_some h with ⟨h14, h⟩ | ⟨h14, h⟩
                · refine c_t h14 rfl ?_
                  refine c_region ?_
                  refine o_s (.t (.d (.lit (.int .i64 (wi (2 * z7)))))) (g0 rfl) rfl rfl rfl ?_
                  refine o_s (.t (.d (.lit (.int .i64 (wi ((wi (2 * z7)) + 1)))))) (g0 rfl) rfl rfl rfl ?_
                  refine o_s (.t (.d (.lit (.int .i64 (wi ((wi (2 * z7)) + 1)))))) (g0 rfl) rfl rfl rfl ?_
                  refine o_nil ?_
                  repeat (first | refine then_normal ?_ | refine then_exit ?_ | refine then_ret ?_ | refine block_normal ?_ | refine block_ret ?_ | refine block_exit ?_ | refine block_pass rfl ?_)
                  exact ⟨(wi ((wi (2 * z7)) + 1)), h, ⟨(.refl _), ⟨(.refl _), ⟨(.refl _), ⟨(.refl _), ⟨(.refl _), trivial⟩⟩⟩⟩⟩, rfl⟩
                · refine c_f h14 rfl ?_
                  refine c_skip ?_
                  repeat (first | refine then_normal ?_ | refine then_exit ?_ | refine then_ret ?_ | refine block_normal ?_ | refine block_ret ?_ | refine block_exit ?_ | refine block_pass rfl ?_)
                  exact ⟨(wi (2 * z7)), h, ⟨(.refl _), ⟨(.refl _), ⟨(.refl _), ⟨(.refl _), ⟨(.refl _), trivial⟩⟩⟩⟩⟩, rfl⟩
              · refine o_skip rfl rfl rfl h11 rfl rfl ?_
                refine o_skip rfl rfl rfl h11 rfl rfl ?_
                refine o_skip rfl rfl rfl h11 rfl rfl ?_
                refine o_skip rfl rfl rfl h11 rfl rfl ?_
                refine o_skip rfl rfl rfl h11 rfl rfl ?_
                refine o_skip rfl rfl rfl h11 rfl rfl ?_
                refine o_pk (.t (.d (.lit (.bool false)))) (b := false) h11 (g0 rfl) rfl rfl rfl rfl rfl ?_
                refine o_nil ?_
                repeat (first | refine then_normal ?_ | refine then_exit ?_ | refine then_ret ?_ | refine block_normal ?_ | refine block_ret ?_ | refine block_exit ?_ | refine block_pass rfl ?_)
                refine c_f rfl rfl ?_
                refine c_skip ?_
                repeat (first | refine then_normal ?_ | refine then_exit ?_ | refine then_ret ?_ | refine block_normal ?_ | refine block_ret ?_ | refine block_exit ?_ | refine block_pass rfl ?_)
                exact ⟨(wi (2 * z7)), h, ⟨(.refl _), ⟨(.refl _), ⟨(.refl _), ⟨(.refl _), ⟨(.refl _), trivial⟩⟩⟩⟩⟩, rfl⟩
            · rintro y10 h
              refine c_region ?_
              refine o_s (.t (.d (.lit (.int .i64 z8)))) (g0 rfl) rfl rfl rfl ?_
              refine o_s (.t (.d (.lit (.int .i64 (wi (z8 - 1)))))) (g0 rfl) rfl rfl rfl ?_
              refine o_s (.t (.d (.lit (.int .i64 (wi (z8 - 1)))))) (g0 rfl) rfl rfl rfl ?_
              refine o_nil ?_
              repeat (first | refine then_normal ?_ | refine then_exit ?_ | refine then_ret ?_ | refine block_normal ?_ | refine block_ret ?_ | refine block_exit ?_ | refine block_pass rfl ?_)
              exact ⟨nl3, (y10, (wi (z8 - 1))), Nat.lt_succ_self nl3, h, ⟨(.refl _), ⟨(.refl _), ⟨(.refl _), ⟨(.refl _), ⟨(.refl _), trivial⟩⟩⟩⟩⟩, rfl⟩
          · refine c_f h9 rfl ?_
            refine c_exit ?_
            repeat (first | refine then_normal ?_ | refine then_exit ?_ | refine then_ret ?_ | refine block_normal ?_ | refine block_ret ?_ | refine block_exit ?_ | refine block_pass rfl ?_)
            exact ⟨z7, h, ⟨(.refl _), ⟨(.refl _), ⟨(.refl _), ⟨(.refl _), trivial⟩⟩⟩⟩, rfl⟩
      · rintro y4 h
        refine c_region ?_
        refine o_2 (.t (.d (.seq 1 (bytesD z1)))) (.t (.own 5 1 (bytesD z1))) (g0 rfl) rfl rfl rfl ?_
        refine o_s (.t (.d (.lit (.int .i64 y4)))) (g0 rfl) rfl rfl rfl ?_
        refine o_c (g0 rfl) rfl rfl rfl (congrArg (fun z => A.t (.d (.lit (.int .u8 z)))) (u8c _)) trivial ?_
        refine o_s (.t (.own 5 1 (bytesD [(U8 y4)]))) (g0 rfl) rfl rfl rfl ?_
        obtain ⟨x5, h6, h⟩ := bind_some h
        refine o_2c (g0 rfl) rfl rfl rfl (appE (c := cU8) h6) (appC (c := cU8) h6) ?_
        refine o_2 (.t (.d (.seq 1 (bytesD x5)))) (.t (.own 5 1 (bytesD x5))) (g0 rfl) rfl rfl rfl ?_
        refine o_nil ?_
        repeat (first | refine then_normal ?_ | refine then_exit ?_ | refine then_ret ?_ | refine block_normal ?_ | refine block_ret ?_ | refine block_exit ?_ | refine block_pass rfl ?_)
        refine c_region ?_
        refine o_s (.t (.d (.lit (.int .i64 z2)))) (g0 rfl) rfl rfl rfl ?_
        refine o_s (.t (.d (.lit (.int .i64 (wi (z2 + 8)))))) (g0 rfl) rfl rfl rfl ?_
        refine o_s (.t (.d (.lit (.int .i64 (wi (z2 + 8)))))) (g0 rfl) rfl rfl rfl ?_
        refine o_nil ?_
        repeat (first | refine then_normal ?_ | refine then_exit ?_ | refine then_ret ?_ | refine block_normal ?_ | refine block_ret ?_ | refine block_exit ?_ | refine block_pass rfl ?_)
        exact ⟨nl1, (x5, (wi (z2 + 8))), Nat.lt_succ_self nl1, h, ⟨(.refl _), ⟨(.refl _), ⟨(.refl _), trivial⟩⟩⟩, rfl⟩
    · refine c_f h3 rfl ?_
      refine c_exit ?_
      repeat (first | refine then_normal ?_ | refine then_exit ?_ | refine then_ret ?_ | refine block_normal ?_ | refine block_ret ?_ | refine block_exit ?_ | refine block_pass rfl ?_)
      refine c_seq ?_
      refine c_region ?_
      refine o_2 (.t (.d (.seq 1 (bytesD z1)))) (.t (.own 5 1 (bytesD z1))) (g0 rfl) rfl rfl rfl ?_
      refine o_2 (.t (.d (.seq 1 (bytesD z1)))) (.t (.own 5 1 (bytesD z1))) (g0 rfl) rfl rfl rfl ?_
      refine o_nil ?_
      repeat (first | refine then_normal ?_ | refine then_exit ?_ | refine then_ret ?_ | refine block_normal ?_ | refine block_ret ?_ | refine block_exit ?_ | refine block_pass rfl ?_)
      refine c_ret ?_
      repeat (first | refine then_normal ?_ | refine then_exit ?_ | refine then_ret ?_ | refine block_normal ?_ | refine block_ret ?_ | refine block_exit ?_ | refine block_pass rfl ?_)
      obtain rfl := Option.some.inj h
      exact end0 rfl (.refl _)

theorem fch_R19_Read (p0 : Int) (p1 : (List UInt8)) (w0 : Hp) (r : ((List Bool) × Int)) (h : m_R19_Read p0 p1 = some r) : FCH Tryd.prog 22 [.t (.d (.lit (.int .i64 p0))), .t (.d (.seq 1 (bytesD p1)))] [] [] (hpA w0) (hpA w0) (.tup [.d (.seq 1 (List.map cBool r.1)), .d (.lit (.int .i64 r.2))]) := by
  refine fch_mk (rs := [.tmp 4, .tmp 5]) (n := 54) [0] Tryd.func22 rfl rfl (Nat.le_of_ble_eq_true rfl) rfl (pins := []) rfl (L := [(HK, .hp (hpA w0)), (OB + 0, .free), (0, .t (.d (.lit (.int .i64 p0)))), (1, .t (.d (.seq 1 (bytesD p1))))]) rfl ?_
  refine c_seq ?_
  refine c_region ?_
  refine o_s (.t (.d (.lit (.slice none 0 0)))) (g0 rfl) rfl rfl rfl ?_
  refine o_s (.t (.d (.lit (.int .i64 0)))) (g0 rfl) rfl rfl rfl ?_
  refine o_nil ?_
  repeat (first | refine then_normal ?_ | refine then_exit ?_ | refine then_ret ?_ | refine block_normal ?_ | refine block_ret ?_ | refine block_exit ?_ | refine block_pass rfl ?_)
  refine c_seq ?_
  refine c_seq ?_
  refine c_region ?_
  refine o_s (.t (.d (.seq 1 (bytesD p1)))) (g0 rfl) rfl rfl rfl ?_
  refine o_c (g0 rfl) rfl rfl rfl (lenE _ _) trivial ?_
  refine o_s (.t (.d (.lit (.int .i64 (wi (8 * (p1.length : Int))))))) (g0 rfl) rfl rfl rfl ?_
  refine o_s (.t (.d (.lit (.int .i64 p0)))) (g0 rfl) rfl rfl rfl ?_
  refine o_s (.t (.d (.lit (.bool (decide ((wi (8 * (p1.length : Int))) < p0)))))) (g0 rfl) rfl rfl rfl ?_
  refine o_nil ?_
  repeat (first | refine then_normal ?_ | refine then_exit ?_ | refine then_ret ?_ | refine block_normal ?_ | refine block_ret ?_ | refine block_exit ?_ | refine block_pass rfl ?_)
  rcases bif_some h with ⟨h1, h⟩ | ⟨h1, h⟩
  · refine c_t h1 rfl ?_
    refine c_seq ?_
    refine c_region ?_
    refine o_s (.t (.d (.lit (.slice none 0 0)))) (g0 rfl) rfl rfl rfl ?_
    refine o_s (.t (.d (.lit (.int .i64 10)))) (g0 rfl) rfl rfl rfl ?_
    refine o_nil ?_
    repeat (first | refine then_normal ?_ | refine then_exit ?_ | refine then_ret ?_ | refine block_normal ?_ | refine block_ret ?_ | refine block_exit ?_ | refine block_pass rfl ?_)
    refine c_ret ?_
    repeat (first | refine then_normal ?_ | refine then_exit ?_ | refine then_ret ?_ | refine block_normal ?_ | refine block_ret ?_ | refine block_exit ?_ | refine block_pass rfl ?_)
    obtain rfl := Option.some.inj h
    exact ⟨⟨_, rfl, (.tup (.cons (.d (.nil _)) (.cons (.refl _) .nil)))⟩, trivial, rfl⟩
  · refine c_f h1 rfl ?_
    refine c_skip ?_
    repeat (first | refine then_normal ?_ | refine then_exit ?_ | refine then_ret ?_ | refine block_normal ?_ | refine block_ret ?_ | refine block_exit ?_ | refine block_pass rfl ?_)
    refine c_seq ?_
    refine c_seq ?_
    refine c_region ?_
    refine o_s (.t (.d (.seq 1 (bytesD p1)))) (g0 rfl) rfl rfl rfl ?_
    refine o_c (g0 rfl) rfl rfl rfl (lenE _ _) trivial ?_
    refine o_s (.t (.d (.lit (.int .i64 (wi (8 * (p1.length : Int))))))) (g0 rfl) rfl rfl rfl ?_
    refine o_s (.t (.d (.lit (.int .i64 p0)))) (g0 rfl) rfl rfl rfl ?_
    refine o_s (.t (.d (.lit (.int .i64 (wi (p0 + 8)))))) (g0 rfl) rfl rfl rfl ?_
    refine o_s (.t (.d (.lit (.bool (decide ((wi (8 * (p1.length : Int))) ≥ (wi (p0 + 8)))))))) (g0 rfl) rfl rfl rfl ?_
    refine o_nil ?_
    repeat (first | refine then_normal ?_ | refine then_exit ?_ | refine then_ret ?_ | refine block_normal ?_ | refine block_ret ?_ | refine block_exit ?_ | refine block_pass rfl ?_)
    rcases bif_some h with ⟨h2, h⟩ | ⟨h2, h⟩
    · refine c_t h2 rfl ?_
      refine c_seq ?_
      refine c_region ?_
      refine o_s (.t (.d (.lit (.slice none 0 0)))) (g0 rfl) rfl rfl rfl ?_
      refine o_s (.t (.d (.lit (.int .i64 12)))) (g0 rfl) rfl rfl rfl ?_
      refine o_nil ?_
      repeat (first | refine then_normal ?_ | refine then_exit ?_ | refine then_ret ?_ | refine block_normal ?_ | refine block_ret ?_ | refine block_exit ?_ | refine block_pass rfl ?_)
      refine c_ret ?_
      repeat (first | refine then_normal ?_ | refine then_exit ?_ | refine then_ret ?_ | refine block_normal ?_ | refine block_ret ?_ | refine block_exit ?_ | refine block_pass rfl ?_)
      obtain rfl := Option.some.inj h
      exact ⟨⟨_, rfl, (.tup (.cons (.d (.nil _)) (.cons (.refl _) .nil)))⟩, trivial, rfl⟩
    · refine c_f h2 rfl ?_
      refine c_skip ?_
      repeat (first | refine then_normal ?_ | refine then_exit ?_ | refine then_ret ?_ | refine block_normal ?_ | refine block_ret ?_ | refine block_exit ?_ | refine block_pass rfl ?_)
      refine c_seq ?_
      refine c_region ?_
      refine o_s (.t (.d (.lit (.int .i64 p0)))) (g0 rfl) rfl rfl rfl ?_
      obtain ⟨x3, h4, h⟩ := bind_some h
      refine o_of (e := [((OB + 0), .box (fl (dT cBool) (List.replicate x3 (false : Bool)))), (22, .t (.view 0 0 4 1 x3))]) (g0 rfl) (h_mkl (Mk.refl _) rfl rfl rfl rfl rfl rfl rfl rfl rfl h4 (fl_rep (c := cBool) (z := (false : Bool)) rfl x3) rfl rfl rfl rfl) rfl ?_
      refine o_s (.t (.view 0 0 4 1 x3)) (g0 rfl) rfl rfl rfl ?_
      refine o_nil ?_
      repeat (first | refine then_normal ?_ | refine then_exit ?_ | refine then_ret ?_ | refine block_normal ?_ | refine block_ret ?_ | refine block_exit ?_ | refine block_pass rfl ?_)
      refine c_cutH (fun (y5 : (List Bool)) => [(6, .t (.view 0 0 4 1 y5.length)), ((OB + 0), .box (fl (dT cBool) y5)), (HK, .hp (hpA w0))]) (fun (y5 : (List Bool)) => m_R19_Read_j1 y5 = some r) ?_ ?_
      · refine c_seq ?_
        refine c_region ?_
        refine o_s (.t (.d (.lit (.int .i64 0)))) (g0 rfl) rfl rfl rfl ?_
        refine o_nil ?_
        repeat (first | refine then_normal ?_ | refine then_exit ?_ | refine then_ret ?_ | refine block_normal ?_ | refine block_ret ?_ | refine block_exit ?_ | refine block_pass rfl ?_)
        refine c_block ?_
        refine c_fuelH (fun (q : Int × (List Bool)) => [(0, .t (.d (.lit (.int .i64 p0)))), (1, .t (.d (.seq 1 (bytesD p1)))), (6, .t (.view 0 0 4 1 q.2.length)), (7, .t (.d (.lit (.int .i64 q.1)))), ((OB + 0), .box (fl (dT cBool) q.2)), (HK, .hp (hpA w0))]) (fun nl2 => (fun (q : Int × (List Bool)) => m_R19_Read_l2 p1 p0 nl2 q.1 q.2 = some r)) (Int.toNat (wi (8 * (p1.length : Int))) + 1) (0, (List.replicate x3 (false : Bool))) [] h rfl ⟨.inr ⟨_, rfl, pure_hpA _⟩, by (repeat (first | exact ObP.nil | refine ObP.cons (.inl rfl) ?_ | refine ObP.cons (.inr (fun _ => rfl)) ?_ | refine ObP.cons (.inr (ob_box (fl_noPt _ _))) ?_ | refine ObP.cons (.inr (ob_gb _ _)) ?_))⟩ ⟨(.refl _), ⟨(.refl _), ⟨(.vwn (by simp)), ⟨(.refl _), ⟨(.refl _), ⟨(.refl _), trivial⟩⟩⟩⟩⟩⟩ rfl ?_
        rintro nl2 ⟨z6, z7⟩ h
        cases nl2 with
        | zero => exact none_ne h
        | succ nl2 =>
          refine c_seq ?_
          refine c_seq ?_
          refine c_region ?_
          refine o_s (.t (.d (.lit (.int .i64 z6)))) (g0 rfl) rfl rfl rfl ?_
          refine o_s (.t (.d (.seq 1 (bytesD p1)))) (g0 rfl) rfl rfl rfl ?_
          refine o_c (g0 rfl) rfl rfl rfl (lenE _ _) trivial ?_
          refine o_s (.t (.d (.lit (.int .i64 (wi (8 * (p1.length : Int))))))) (g0 rfl) rfl rfl rfl ?_
          refine o_s (.t (.d (.lit (.bool (decide (z6 < (wi (8 * (p1.length : Int))))))))) (g0 rfl) rfl rfl rfl ?_
          refine o_nil ?_
          repeat (first | refine then_normal ?_ | refine then_exit ?_ | refine then_ret ?_ | refine block_normal ?_ | refine block_ret ?_ | refine block_exit ?_ | refine block_pass rfl ?_)
          rcases bif_some h with ⟨h8, h⟩ | ⟨h8, h⟩
          · refine c_t h8 rfl ?_
            refine c_skip ?_
            repeat (first | refine then_normal ?_ | refine then_exit ?_ | refine then_ret ?_ | refine block_normal ?_ | refine block_ret ?_ | refine block_exit ?_ | refine block_pass rfl ?_)
            refine c_cutH (fun (y9 : (List Bool)) => [(0, .t (.d (.lit (.int .i64 p0)))), (1, .t (.d (.seq 1 (bytesD p1)))), (6, .t (.view 0 0 4 1 y9.length)), (7, .t (.d (.lit (.int .i64 z6)))), ((OB + 0), .box (fl (dT cBool) y9)), (HK, .hp (hpA w0))]) (fun (y9 : (List Bool)) => m_R19_Read_j3 (m_R19_Read_l2 p1 p0 nl2) z6 y9 = some r) ?_ ?_
            · refine c_block ?_
              refine c_seq ?_
              refine c_region ?_
              refine o_s (.t (.d (.seq 1 (bytesD p1)))) (g0 rfl) rfl rfl rfl ?_
              refine o_s (.t (.d (.lit (.int .i64 z6)))) (g0 rfl) rfl rfl rfl ?_
              refine o_s (.t (.d (.lit (.int .i64 (wi (Int.tdiv z6 8)))))) (g0 rfl) rfl rfl rfl ?_
              obtain ⟨x10, h11, h⟩ := bind_some h
              refine o_c (g0 rfl) rfl rfl rfl (idxE h11) (idxC h11) ?_
              refine o_s (.t (.d (.lit (.int .u8 (x10.toNat : Int))))) (g0 rfl) rfl rfl rfl ?_
              refine o_c (g0 rfl) rfl rfl rfl (congrArg (fun z => A.t (.d (.lit (.int .i64 z)))) (i64_u8 _)) trivial ?_
              refine o_s (.t (.d (.lit (.int .i64 (x10.toNat : Int))))) (g0 rfl) rfl rfl rfl ?_
              refine o_nil ?_
              repeat (first | refine then_normal ?_ | refine then_exit ?_ | refine then_ret ?_ | refine block_normal ?_ | refine block_ret ?_ | refine block_exit ?_ | refine block_pass rfl ?_)
              refine c_cutH (fun (y12 : Int) => [(0, .t (.d (.lit (.int .i64 p0)))), (1, .t (.d (.seq 1 (bytesD p1)))), (6, .t (.view 0 0 4 1 z7.length)), (7, .t (.d (.lit (.int .i64 z6)))), (8, .t (.d (.lit (.int .i64 y12)))), ((OB + 0), .box (fl (dT cBool) z7)), (HK, .hp (hpA w0))]) (fun (y12 : Int) => m_R19_Read_j4 (m_R19_Read_l2 p1 p0 nl2) z6 p0 z7 y12 = some r) ?_ ?_
              · refine c_seq ?_
                refine c_region ?_
                refine o_s (.t (.d (.lit (.int .i64 0)))) (g0 rfl) rfl rfl rfl ?_
                refine o_nil ?_
                repeat (first | refine then_normal ?_ | refine then_exit ?_ | refine then_ret ?_ | refine block_normal ?_ | refine block_ret ?_ | refine block_exit ?_ | refine block_pass rfl ?_)
                refine c_block ?_
                refine c_fuelH (fun (q : Int × Int) => [(0, .t (.d (.lit (.int .i64 p0)))), (1, .t (.d (.seq 1 (bytesD p1)))), (6, .t (.view 0 0 4 1 z7.length)), (7, .t (.d (.lit (.int .i64 z6)))), (8, .t (.d (.lit (.int .i64 q.1)))), (9, .t (.d (.lit (.int .i64 q.2)))), ((OB + 0), .box (fl (dT cBool) z7)), (HK, .hp (hpA w0))]) (fun nl5 => (fun (q : Int × Int) => m_R19_Read_l5 (m_R19_Read_l2 p1 p0 nl2) z6 p0 z7 nl5 q.1 q.2 = some r)) (Int.toNat (Int.tmod z6 8) + 1) ((x10.toNat : Int), 0) [] h rfl ⟨.inr ⟨_, rfl, pure_hpA _⟩, by (repeat (first | exact ObP.nil | refine ObP.cons (.inl rfl) ?_ | refine ObP.cons (.inr (fun _ => rfl)) ?_ | refine ObP.cons (.inr (ob_box (fl_noPt _ _))) ?_ | refine ObP.cons (.inr (ob_gb _ _)) ?_))⟩ ⟨(.refl _), ⟨(.refl _), ⟨(.refl _), ⟨(.refl _), ⟨(.refl _), ⟨(.refl _), ⟨(.refl _), ⟨(.refl _), trivial⟩⟩⟩⟩⟩⟩⟩⟩ rfl ?_
                rintro nl5 ⟨z17, z18⟩ h
                cases nl5 with
                | zero => exact none_ne h
                | succ nl5 =>
                  refine c_seq ?_
                  refine c_seq ?_
                  refine c_region ?_
                  refine o_s (.t (.d (.lit (.int .i64 z18)))) (g0 rfl) rfl rfl rfl ?_
                  refine o_s (.t (.d (.lit (.int .i64 z6)))) (g0 rfl) rfl rfl rfl ?_
                  refine o_s (.t (.d (.lit (.int .i64 (Int.tmod z6 8))))) (g0 rfl) rfl rfl rfl ?_
                  refine o_s (.t (.d (.lit (.bool (decide (z18 < (Int.tmod z6 8))))))) (g0 rfl) rfl rfl rfl ?_
                  refine o_nil ?_
                  repeat (first | refine then_normal ?_ | refine then_exit ?_ | refine then_ret ?_ | refine block_normal ?_ | refine block_ret ?_ | refine block_exit ?_ | refine block_pass rfl ?_)
                  rcases bif_some h with ⟨h19, h⟩ | ⟨h19, h⟩
                  · refine c_t h19 rfl ?_
                    refine c_skip ?_
                    repeat (first | refine then_normal ?_ | refine then_exit ?_ | refine then_ret ?_ | refine block_normal ?_ | refine block_ret ?_ | refine block_exit ?_ | refine block_pass rfl ?_)
                    refine c_seq ?_
                    refine c_block ?_
                    refine c_region ?_
                    refine o_s (.t (.d (.lit (.int .i64 z17)))) (g0 rfl) rfl rfl rfl ?_
                    refine o_s (.t (.d (.lit (.int .i64 (wi (Int.tdiv z17 2)))))) (g0 rfl) rfl rfl rfl ?_
                    refine o_s (.t (.d (.lit (.int .i64 (wi (Int.tdiv z17 2)))))) (g0 rfl) rfl rfl rfl ?_
                    refine o_nil ?_
                    repeat (first | refine then_normal ?_ | refine then_exit ?_ | refine then_ret ?_ | refine block_normal ?_ | refine block_ret ?_ | refine block_exit ?_ | refine block_pass rfl ?_)
                    refine c_region ?_
                    refine o_s (.t (.d (.lit (.int .i64 z18)))) (g0 rfl) rfl rfl rfl ?_
                    refine o_s (.t (.d (.lit (.int .i64 (wi (z18 + 1)))))) (g0 rfl) rfl rfl rfl ?_
                    refine o_s (.t (.d (.lit (.int .i64 (wi (z18 + 1)))))) (g0 rfl) rfl rfl rfl ?_
                    refine o_nil ?_
                    repeat (first | refine then_normal ?_ | refine then_exit ?_ | refine then_ret ?_ | refine block_normal ?_ | refine block_ret ?_ | refine block_exit ?_ | refine block_pass rfl ?_)
                    exact ⟨nl5, ((wi (Int.tdiv z17 2)), (wi (z18 + 1))), [], Nat.lt_succ_self nl5, h, rfl, ⟨.inr ⟨_, rfl, pure_hpA _⟩, by (repeat (first | exact ObP.nil | refine ObP.cons (.inl rfl) ?_ | refine ObP.cons (.inr (fun _ => rfl)) ?_ | refine ObP.cons (.inr (ob_box (fl_noPt _ _))) ?_ | refine ObP.cons (.inr (ob_gb _ _)) ?_))⟩, ⟨(.refl _), ⟨(.refl _), ⟨(.refl _), ⟨(.refl _), ⟨(.refl _), ⟨(.refl _), ⟨(.refl _), ⟨(.refl _), trivial⟩⟩⟩⟩⟩⟩⟩⟩, rfl⟩
                  · refine c_f h19 rfl ?_
                    refine c_exit ?_
                    repeat (first | refine then_normal ?_ | refine then_exit ?_ | refine then_ret ?_ | refine block_normal ?_ | refine block_ret ?_ | refine block_exit ?_ | refine block_pass rfl ?_)
                    exact ⟨z17, [], h, rfl, ⟨.inr ⟨_, rfl, pure_hpA _⟩, by (repeat (first | exact ObP.nil | refine ObP.cons (.inl rfl) ?_ | refine ObP.cons (.inr (fun _ => rfl)) ?_ | refine ObP.cons (.inr (ob_box (fl_noPt _ _))) ?_ | refine ObP.cons (.inr (ob_gb _ _)) ?_))⟩, ⟨(.refl _), ⟨(.refl _), ⟨(.refl _), ⟨(.refl _), ⟨(.refl _), ⟨(.refl _), ⟨(.refl _), trivial⟩⟩⟩⟩⟩⟩⟩, rfl⟩
              · rintro y12 h
                refine c_seq ?_
                refine c_region ?_
                refine o_s (.t (.d (.lit (.int .i64 y12)))) (g0 rfl) rfl rfl rfl ?_
                refine o_s (.t (.d (.lit (.int .i64 (Int.tmod y12 2))))) (g0 rfl) rfl rfl rfl ?_
                refine o_s (.t (.d (.lit (.bool ((Int.tmod y12 2) == 1))))) (g0 rfl) rfl rfl rfl ?_
                refine o_nil ?_
                repeat (first | refine then_normal ?_ | refine then_exit ?_ | refine then_ret ?_ | refine block_normal ?_ | refine block_ret ?_ | refine block_exit ?_ | refine block_pass rfl ?_)
                rcases bif_some h with ⟨h13, h⟩ | ⟨h13, h⟩
                · refine c_t h13 rfl ?_
                  refine c_seq ?_
                  refine c_seq ?_
                  refine c_region ?_
                  refine o_s (.t (.d (.lit (.int .i64 z6)))) (g0 rfl) rfl rfl rfl ?_
                  refine o_s (.t (.d (.lit (.int .i64 p0)))) (g0 rfl) rfl rfl rfl ?_
                  refine o_s (.t (.d (.lit (.bool (decide (z6 ≥ p0)))))) (g0 rfl) rfl rfl rfl ?_
                  refine o_nil ?_
                  repeat (first | refine then_normal ?_ | refine then_exit ?_ | refine then_ret ?_ | refine block_normal ?_ | refine block_ret ?_ | refine block_exit ?_ | refine block_pass rfl ?_)
                  rcases bif_some h with ⟨h14, h⟩ | ⟨h14, h⟩
                  · refine c_t h14 rfl ?_
                    refine c_seq ?_
                    refine c_region ?_
                    refine o_s (.t (.d (.lit (.slice none 0 0)))) (g0 rfl) rfl rfl rfl ?_
                    refine o_s (.t (.d (.lit (.int .i64 11)))) (g0 rfl) rfl rfl rfl ?_
                    refine o_nil ?_
                    repeat (first | refine then_normal ?_ | refine then_exit ?_ | refine then_ret ?_ | refine block_normal ?_ | refine block_ret ?_ | refine block_exit ?_ | refine block_pass rfl ?_)
                    refine c_ret ?_
                    repeat (first | refine then_normal ?_ | refine then_exit ?_ | refine then_ret ?_ | refine block_normal ?_ | refine block_ret ?_ | refine block_exit ?_ | refine block_pass rfl ?_)
                    obtain rfl := Option.some.inj h
                    exact ⟨⟨_, rfl, (.tup (.cons (.d (.nil _)) (.cons (.refl _) .nil)))⟩, trivial, rfl⟩
                  · refine c_f h14 rfl ?_
                    refine c_skip ?_
                    repeat (first | refine then_normal ?_ | refine then_exit ?_ | refine then_ret ?_ | refine block_normal ?_ | refine block_ret ?_ | refine block_exit ?_ | refine block_pass rfl ?_)
                    refine c_region ?_
                    refine o_s (.t (.view 0 0 4 1 z7.length)) (g0 rfl) rfl rfl rfl ?_
                    refine o_s (.t (.d (.lit (.int .i64 z6)))) (g0 rfl) rfl rfl rfl ?_
                    obtain ⟨x15, h16, h⟩ := bind_some h
                    refine o_of (e := [(52, .ref (OB + 0) (0 + Int.toNat z6 * 1))]) (g0 rfl) (h_lix (Mk.refl _) rfl rfl rfl rfl rfl (idxV rfl h16) rfl rfl rfl) rfl ?_
                    refine o_of (e := [((OB + 0), .box (fl (dT cBool) (z7.set (Int.toNat z6) true)))]) (g0 rfl) (h_lst (Mk.refl _) rfl rfl rfl rfl rfl rfl rfl (fl_room h16 (fun _ => rfl)) (fl_put h16 true (fun _ => rfl) rfl)) rfl ?_
                    refine o_nil ?_
                    repeat (first | refine then_normal ?_ | refine then_exit ?_ | refine then_ret ?_ | refine block_normal ?_ | refine block_ret ?_ | refine block_exit ?_ | refine block_pass rfl ?_)
                    exact ⟨(z7.set (Int.toNat z6) true), [], h, rfl, ⟨.inr ⟨_, rfl, pure_hpA _⟩, by (repeat (first | exact ObP.nil | refine ObP.cons (.inl rfl) ?_ | refine ObP.cons (.inr (fun _ => rfl)) ?_ | refine ObP.cons (.inr (ob_box (fl_noPt _ _))) ?_ | refine ObP.cons (.inr (ob_gb _ _)) ?_))⟩, ⟨(.refl _), ⟨(.refl _), ⟨(.vwn (by simp)), ⟨(.refl _), ⟨(.refl _), ⟨(.refl _), trivial⟩⟩⟩⟩⟩⟩, rfl⟩
                · refine c_f h13 rfl ?_
                  refine c_skip ?_
                  repeat (first | refine then_normal ?_ | refine then_exit ?_ | refine then_ret ?_ | refine block_normal ?_ | refine block_ret ?_ | refine block_exit ?_ | refine block_pass rfl ?_)
                  exact ⟨z7, [], h, rfl, ⟨.inr ⟨_, rfl, pure_hpA _⟩, by (repeat (first | exact ObP.nil | refine ObP.cons (.inl rfl) ?_ | refine ObP.cons (.inr (fun _ => rfl)) ?_ | refine ObP.cons (.inr (ob_box (fl_noPt _ _))) ?_ | refine ObP.cons (.inr (ob_gb _ _)) ?_))⟩, ⟨(.refl _), ⟨(.refl _), ⟨(.refl _), ⟨(.refl _), ⟨(.refl _), ⟨(.refl _), trivial⟩⟩⟩⟩⟩⟩, rfl⟩
            · rintro y9 h
              refine c_region ?_
              refine o_s (.t (.d (.lit (.int .i64 z6)))) (g0 rfl) rfl rfl rfl ?_
              refine o_s (.t (.d (.lit (.int .i64 (wi (z6 + 1)))))) (g0 rfl) rfl rfl rfl ?_
              refine o_s (.t (.d (.lit (.int .i64 (wi (z6 + 1)))))) (g0 rfl) rfl rfl rfl ?_
              refine o_nil ?_
              repeat (first | refine then_normal ?_ | refine then_exit ?_ | refine then_ret ?_ | refine block_normal ?_ | refine block_ret ?_ | refine block_exit ?_ | refine block_pass rfl ?_)
              exact ⟨nl2, ((wi (z6 + 1)), y9), [], Nat.lt_succ_self nl2, h, rfl, ⟨.inr ⟨_, rfl, pure_hpA _⟩, by (repeat (first | exact ObP.nil | refine ObP.cons (.inl rfl) ?_ | refine ObP.cons (.inr (fun _ => rfl)) ?_ | refine ObP.cons (.inr (ob_box (fl_noPt _ _))) ?_ | refine ObP.cons (.inr (ob_gb _ _)) ?_))⟩, ⟨(.refl _), ⟨(.refl _), ⟨(.refl _), ⟨(.refl _), ⟨(.refl _), ⟨(.refl _), trivial⟩⟩⟩⟩⟩⟩, rfl⟩
          · refine c_f h8 rfl ?_
            refine c_exit ?_
            repeat (first | refine then_normal ?_ | refine then_exit ?_ | refine then_ret ?_ | refine block_normal ?_ | refine block_ret ?_ | refine block_exit ?_ | refine block_pass rfl ?_)
            exact ⟨z7, [], h, rfl, ⟨.inr ⟨_, rfl, pure_hpA _⟩, by (repeat (first | exact ObP.nil | refine ObP.cons (.inl rfl) ?_ | refine ObP.cons (.inr (fun _ => rfl)) ?_ | refine ObP.cons (.inr (ob_box (fl_noPt _ _))) ?_ | refine ObP.cons (.inr (ob_gb _ _)) ?_))⟩, ⟨(.refl _), ⟨(.refl _), ⟨(.refl _), trivial⟩⟩⟩, rfl⟩
      · rintro y5 h
        refine c_seq ?_
        refine c_region ?_
        refine o_s (.t (.view 0 0 4 1 y5.length)) (g0 rfl) rfl rfl rfl ?_
        refine o_s (.t (.view 0 0 4 1 y5.length)) (g0 rfl) rfl rfl rfl ?_
        refine o_s (.t (.d (.lit (.int .i64 0)))) (g0 rfl) rfl rfl rfl ?_
        refine o_nil ?_
        repeat (first | refine then_normal ?_ | refine then_exit ?_ | refine then_ret ?_ | refine block_normal ?_ | refine block_ret ?_ | refine block_exit ?_ | refine block_pass rfl ?_)
        refine c_frz 4 0 rfl rfl (by simp) (fl_flat _ _) (map_row (c := cBool) (fun _ => rfl) _) rfl ⟨.inr ⟨_, rfl, pure_hpA _⟩, by (repeat (first | exact ObP.nil | refine ObP.cons (.inl rfl) ?_ | refine ObP.cons (.inr (fun _ => rfl)) ?_ | refine ObP.cons (.inr (ob_box (fl_noPt _ _))) ?_ | refine ObP.cons (.inr (ob_gb _ _)) ?_))⟩ rfl ?_
        refine c_ret ?_
        repeat (first | refine then_normal ?_ | refine then_exit ?_ | refine then_ret ?_ | refine block_normal ?_ | refine block_ret ?_ | refine block_exit ?_ | refine block_pass rfl ?_)
        obtain rfl := Option.some.inj h
        exact ⟨⟨_, rfl, (.tup (.cons (.refl _) (.cons (.refl _) .nil)))⟩, trivial, rfl⟩

end Go.Proofs.YtimdogdplphmoaaDoor
