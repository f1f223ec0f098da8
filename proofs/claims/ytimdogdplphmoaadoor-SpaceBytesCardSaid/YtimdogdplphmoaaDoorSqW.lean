/-
  Walks of functions: each function does what its model tells. Printed by a program of this claim's own (gen.py) off the given translation.
-/
import Derived.Test.YtimdogdplphmoaaDoorSqM
import Derived.Test.YtimdogdplphmoaaDoorTop
import Derived.Test.YtimdogdplphmoaaDoorSqWa
namespace Go.Proofs.YtimdogdplphmoaaDoor
open Go Go.RowKit
set_option linter.unusedVariables false
set_option maxHeartbeats 4000000
set_option maxRecDepth 20000
theorem fch_L19_SpaceDoes (p0 : Int) (p1 : (List S_L19_Do)) (w0 : Hp) (r : (Bool × Hp)) (h : m_L19_SpaceDoes p0 p1 w0 = some r) : FCH Tryd.prog 3 [.t (.d (.lit (.int .i64 p0))), .t (.d (.seq 3 (List.map cS_L19_Do p1)))] [] [] (hpA w0) (hpA r.2) (.t (.d (.lit (.bool r.1)))) := by
  refine fch_mk (rs := [.tmp 4]) (n := 114) [0] Tryd.func3 rfl rfl (Nat.le_of_ble_eq_true rfl) rfl (pins := []) rfl (L := [(HK, .hp (hpA w0)), (OB + 0, .free), (0, .t (.d (.lit (.int .i64 p0)))), (1, .t (.d (.seq 3 (List.map cS_L19_Do p1))))]) rfl ?_
  refine c_seq ?_
  refine c_region ?_
  refine o_s (.t (.d (.lit (.bool false)))) (g0 rfl) rfl rfl rfl ?_
  refine o_nil ?_
  repeat (first | refine then_normal ?_ | refine then_exit ?_ | refine then_ret ?_ | refine block_normal ?_ | refine block_ret ?_ | refine block_exit ?_ | refine block_pass rfl ?_)
  refine c_seq ?_
  refine c_seq ?_
  refine c_region ?_
  obtain ⟨x1, h2, h⟩ := bind_some h
  refine o_of (e := [(HK, .hp (hpA x1.2)), (14, .t (.d (.lit (.bool x1.1))))]) (g0 rfl) (h_call (Mk.refl _) rfl (σ := []) (fr := []) rfl rfl rfl rfl rfl rfl rfl (fch_L19_awake w0 _ h2) (pure_hpA _) (pure_hpA _) rfl rfl rfl rfl .nil rfl (.t (.flat rfl))) rfl ?_
  refine o_s (.t (.d (.lit (.bool (!x1.1))))) (g0 rfl) rfl rfl rfl ?_
  refine o_nil ?_
  repeat (first | refine then_normal ?_ | refine then_exit ?_ | refine then_ret ?_ | refine block_normal ?_ | refine block_ret ?_ | refine block_exit ?_ | refine block_pass rfl ?_)
  rcases bif_some h with ⟨h3, h⟩ | ⟨h3, h⟩
  · refine c_t h3 rfl ?_
    refine c_seq ?_
    refine c_region ?_
    refine o_s (.t (.d (.lit (.bool false)))) (g0 rfl) rfl rfl rfl ?_
    refine o_nil ?_
    repeat (first | refine then_normal ?_ | refine then_exit ?_ | refine then_ret ?_ | refine block_normal ?_ | refine block_ret ?_ | refine block_exit ?_ | refine block_pass rfl ?_)
    refine c_ret ?_
    repeat (first | refine then_normal ?_ | refine then_exit ?_ | refine then_ret ?_ | refine block_normal ?_ | refine block_ret ?_ | refine block_exit ?_ | refine block_pass rfl ?_)
    obtain rfl := Option.some.inj h
    exact ⟨⟨_, rfl, (.refl _)⟩, trivial, rfl⟩
  · refine c_f h3 rfl ?_
    refine c_skip ?_
    repeat (first | refine then_normal ?_ | refine then_exit ?_ | refine then_ret ?_ | refine block_normal ?_ | refine block_ret ?_ | refine block_exit ?_ | refine block_pass rfl ?_)
    refine c_seq ?_
    refine c_region ?_
    refine o_s (.t (.d (.lit (.int .i64 p0)))) (g0 rfl) rfl rfl rfl ?_
    obtain ⟨x4, h5, h⟩ := bind_some h
    refine o_of (e := [(HK, .hp (hpA x4.2.2)), (18, .tup [(ptT 1 x4.1), .d (.lit (.int .i64 x4.2.1))])]) (g0 rfl) (h_call (Mk.refl _) rfl (σ := []) (fr := []) rfl rfl rfl rfl rfl rfl rfl (fch_space_New _ x1.2 _ h5) (pure_hpA _) (pure_hpA _) rfl rfl rfl rfl (.cons (.plain (.refl _) rfl) .nil) rfl (.tup (.cons (ptT_pt _ _) (.cons (.flat rfl) .nil)))) rfl ?_
    refine o_c (g0 rfl) rfl rfl rfl (congrArg A.tup (cp_cons (ptT_cp _ _) (cp_cons rfl cp_nil))) trivial ?_
    refine o_c (g0 rfl) rfl rfl rfl (congrArg A.t (ptT_cp _ _)) trivial ?_
    refine o_s (.t (.d (.lit (.int .i64 x4.2.1)))) (g0 rfl) rfl rfl rfl ?_
    refine o_of (e := [(5, .t ((ptT 1 x4.1)))]) (g0 rfl) (h_mv (Mk.refl _) (.inr rfl) (cpO_pt rfl) rfl rfl) rfl ?_
    refine o_s (.t (.d (.lit (.int .i64 x4.2.1)))) (g0 rfl) rfl rfl rfl ?_
    refine o_nil ?_
    repeat (first | refine then_normal ?_ | refine then_exit ?_ | refine then_ret ?_ | refine block_normal ?_ | refine block_ret ?_ | refine block_exit ?_ | refine block_pass rfl ?_)
    refine c_seq ?_
    refine c_seq ?_
    refine c_region ?_
    refine o_s (.t (.d (.lit (.int .i64 p0)))) (g0 rfl) rfl rfl rfl ?_
    refine o_s (.t (.d (.lit (.bool (decide (p0 < 0)))))) (g0 rfl) rfl rfl rfl ?_
    refine o_s (.t (.d (.lit (.bool (decide (p0 < 0)))))) (g0 rfl) rfl rfl rfl ?_
    rcases bif_some h with ⟨h6, h⟩ | ⟨h6, h⟩
    · refine o_skip rfl rfl rfl h6 rfl rfl ?_
      refine o_skip rfl rfl rfl h6 rfl rfl ?_
      refine o_pk (.t (.d (.lit (.bool true)))) (b := true) h6 (g0 rfl) rfl rfl rfl rfl rfl ?_
      refine o_nil ?_
      repeat (first | refine then_normal ?_ | refine then_exit ?_ | refine then_ret ?_ | refine block_normal ?_ | refine block_ret ?_ | refine block_exit ?_ | refine block_pass rfl ?_)
      refine c_t rfl rfl ?_
      refine c_seq ?_
      refine c_region ?_
      refine o_s (.t (.d (.lit (.int .i64 x4.2.1)))) (g0 rfl) rfl rfl rfl ?_
      refine o_s (.t (.d (.lit (.bool (x4.2.1 == 2))))) (g0 rfl) rfl rfl rfl ?_
      refine o_s (.t (.d (.lit (.bool (x4.2.1 == 2))))) (g0 rfl) rfl rfl rfl ?_
      rcases bif_some h with ⟨h7, h⟩ | ⟨h7, h⟩
      · refine o_of (e := [(30, .t ((ptT 1 x4.1)))]) (gy rfl rfl rfl h7) (h_mv (Mk.refl _) (.inl rfl) (cpO_pt rfl) rfl rfl) rfl ?_
        rcases ptM_some h with ⟨h8, h⟩ | ⟨i9, h8, h⟩
        · refine o_of (e := [(31, .t (.d (.lit (.bool true))))]) (gy rfl rfl rfl h7) (h_pn (Mk.refl _) (ng := false) rfl rfl rfl (pn_none rfl h8) rfl rfl) rfl ?_
          refine o_pk (.t (.d (.lit (.bool true)))) (b := true) h7 (g0 rfl) rfl rfl rfl rfl rfl ?_
          refine o_s (.t (.d (.lit (.bool true)))) (g0 rfl) rfl rfl rfl ?_
          refine o_nil ?_
          repeat (first | refine then_normal ?_ | refine then_exit ?_ | refine then_ret ?_ | refine block_normal ?_ | refine block_ret ?_ | refine block_exit ?_ | refine block_pass rfl ?_)
          refine c_ret ?_
          repeat (first | refine then_normal ?_ | refine then_exit ?_ | refine then_ret ?_ | refine block_normal ?_ | refine block_ret ?_ | refine block_exit ?_ | refine block_pass rfl ?_)
          obtain rfl := Option.some.inj h
          exact ⟨⟨_, rfl, (.refl _)⟩, trivial, rfl⟩
        · refine o_of (e := [(31, .t (.d (.lit (.bool false))))]) (gy rfl rfl rfl h7) (h_pn (Mk.refl _) (ng := false) rfl rfl rfl (pn_some rfl h8) rfl rfl) rfl ?_
          refine o_pk (.t (.d (.lit (.bool false)))) (b := true) h7 (g0 rfl) rfl rfl rfl rfl rfl ?_
          refine o_s (.t (.d (.lit (.bool false)))) (g0 rfl) rfl rfl rfl ?_
          refine o_nil ?_
          repeat (first | refine then_normal ?_ | refine then_exit ?_ | refine then_ret ?_ | refine block_normal ?_ | refine block_ret ?_ | refine block_exit ?_ | refine block_pass rfl ?_)
          refine c_ret ?_
          repeat (first | refine then_normal ?_ | refine then_exit ?_ | refine then_ret ?_ | refine block_normal ?_ | refine block_ret ?_ | refine block_exit ?_ | refine block_pass rfl ?_)
          obtain rfl := Option.some.inj h
          exact ⟨⟨_, rfl, (.refl _)⟩, trivial, rfl⟩
      · refine o_skip rfl rfl rfl h7 rfl rfl ?_
        refine o_skip rfl rfl rfl h7 rfl rfl ?_
        refine o_pk (.t (.d (.lit (.bool false)))) (b := false) h7 (g0 rfl) rfl rfl rfl rfl rfl ?_
        refine o_s (.t (.d (.lit (.bool false)))) (g0 rfl) rfl rfl rfl ?_
        refine o_nil ?_
        repeat (first | refine then_normal ?_ | refine then_exit ?_ | refine then_ret ?_ | refine block_normal ?_ | refine block_ret ?_ | refine block_exit ?_ | refine block_pass rfl ?_)
        refine c_ret ?_
        repeat (first | refine then_normal ?_ | refine then_exit ?_ | refine then_ret ?_ | refine block_normal ?_ | refine block_ret ?_ | refine block_exit ?_ | refine block_pass rfl ?_)
        obtain rfl := Option.some.inj h
        exact ⟨⟨_, rfl, (.refl _)⟩, trivial, rfl⟩
    · refine o_s (.t (.d (.lit (.int .i64 p0)))) (gy rfl rfl rfl h6) rfl rfl rfl ?_
      refine o_s (.t (.d (.lit (.bool (decide (p0 > 16384)))))) (gy rfl rfl rfl h6) rfl rfl rfl ?_
      refine o_pk (.t (.d (.lit (.bool (decide (p0 > 16384)))))) (b := false) h6 (g0 rfl) rfl rfl rfl rfl rfl ?_
      refine o_nil ?_
      repeat (first | refine then_normal ?_ | refine then_exit ?_ | refine then_ret ?_ | refine block_normal ?_ | refine block_ret ?_ | refine block_exit ?_ | refine block_pass rfl ?_)
      rcases bif_some h with ⟨h10, h⟩ | ⟨h10, h⟩
      · refine c_t h10 rfl ?_
        refine c_seq ?_
        refine c_region ?_
        refine o_s (.t (.d (.lit (.int .i64 x4.2.1)))) (g0 rfl) rfl rfl rfl ?_
        refine o_s (.t (.d (.lit (.bool (x4.2.1 == 2))))) (g0 rfl) rfl rfl rfl ?_
        refine o_s (.t (.d (.lit (.bool (x4.2.1 == 2))))) (g0 rfl) rfl rfl rfl ?_
        rcases bif_some h with ⟨h11, h⟩ | ⟨h11, h⟩
        · refine o_of (e := [(30, .t ((ptT 1 x4.1)))]) (gy rfl rfl rfl h11) (h_mv (Mk.refl _) (.inl rfl) (cpO_pt rfl) rfl rfl) rfl ?_
          rcases ptM_some h with ⟨h12, h⟩ | ⟨i13, h12, h⟩
          · refine o_of (e := [(31, .t (.d (.lit (.bool true))))]) (gy rfl rfl rfl h11) (h_pn (Mk.refl _) (ng := false) rfl rfl rfl (pn_none rfl h12) rfl rfl) rfl ?_
            refine o_pk (.t (.d (.lit (.bool true)))) (b := true) h11 (g0 rfl) rfl rfl rfl rfl rfl ?_
            refine o_s (.t (.d (.lit (.bool true)))) (g0 rfl) rfl rfl rfl ?_
            refine o_nil ?_
            repeat (first | refine then_normal ?_ | refine then_exit ?_ | refine then_ret ?_ | refine block_normal ?_ | refine block_ret ?_ | refine block_exit ?_ | refine block_pass rfl ?_)
            refine c_ret ?_
            repeat (first | refine then_normal ?_ | refine then_exit ?_ | refine then_ret ?_ | refine block_normal ?_ | refine block_ret ?_ | refine block_exit ?_ | refine block_pass rfl ?_)
            obtain rfl := Option.some.inj h
            exact ⟨⟨_, rfl, (.refl _)⟩, trivial, rfl⟩
          · refine o_of (e := [(31, .t (.d (.lit (.bool false))))]) (gy rfl rfl rfl h11) (h_pn (Mk.refl _) (ng := false) rfl rfl rfl (pn_some rfl h12) rfl rfl) rfl ?_
            refine o_pk (.t (.d (.lit (.bool false)))) (b := true) h11 (g0 rfl) rfl rfl rfl rfl rfl ?_
            refine o_s (.t (.d (.lit (.bool false)))) (g0 rfl) rfl rfl rfl ?_
            refine o_nil ?_
            repeat (first | refine then_normal ?_ | refine then_exit ?_ | refine then_ret ?_ | refine block_normal ?_ | refine block_ret ?_ | refine block_exit ?_ | refine block_pass rfl ?_)
            refine c_ret ?_
            repeat (first | refine then_normal ?_ | refine then_exit ?_ | refine then_ret ?_ | refine block_normal ?_ | refine block_ret ?_ | refine block_exit ?_ | refine block_pass rfl ?_)
            obtain rfl := Option.some.inj h
            exact ⟨⟨_, rfl, (.refl _)⟩, trivial, rfl⟩
        · refine o_skip rfl rfl rfl h11 rfl rfl ?_
          refine o_skip rfl rfl rfl h11 rfl rfl ?_
          refine o_pk (.t (.d (.lit (.bool false)))) (b := false) h11 (g0 rfl) rfl rfl rfl rfl rfl ?_
          refine o_s (.t (.d (.lit (.bool false)))) (g0 rfl) rfl rfl rfl ?_
          refine o_nil ?_
          repeat (first | refine then_normal ?_ | refine then_exit ?_ | refine then_ret ?_ | refine block_normal ?_ | refine block_ret ?_ | refine block_exit ?_ | refine block_pass rfl ?_)
          refine c_ret ?_
          repeat (first | refine then_normal ?_ | refine then_exit ?_ | refine then_ret ?_ | refine block_normal ?_ | refine block_ret ?_ | refine block_exit ?_ | refine block_pass rfl ?_)
          obtain rfl := Option.some.inj h
          exact ⟨⟨_, rfl, (.refl _)⟩, trivial, rfl⟩
      · refine c_f h10 rfl ?_
        refine c_skip ?_
        repeat (first | refine then_normal ?_ | refine then_exit ?_ | refine then_ret ?_ | refine block_normal ?_ | refine block_ret ?_ | refine block_exit ?_ | refine block_pass rfl ?_)
        refine c_seq ?_
        refine c_seq ?_
        refine c_region ?_
        refine o_s (.t (.d (.lit (.int .i64 x4.2.1)))) (g0 rfl) rfl rfl rfl ?_
        refine o_s (.t (.d (.lit (.bool (x4.2.1 != 0))))) (g0 rfl) rfl rfl rfl ?_
        refine o_s (.t (.d (.lit (.bool (x4.2.1 != 0))))) (g0 rfl) rfl rfl rfl ?_
        rcases bif_some h with ⟨h14, h⟩ | ⟨h14, h⟩
        · refine o_skip rfl rfl rfl h14 rfl rfl ?_
          refine o_skip rfl rfl rfl h14 rfl rfl ?_
          refine o_skip rfl rfl rfl h14 rfl rfl ?_
          refine o_skip rfl rfl rfl h14 rfl rfl ?_
          refine o_pk (.t (.d (.lit (.bool true)))) (b := true) h14 (g0 rfl) rfl rfl rfl rfl rfl ?_
          refine o_s (.t (.d (.lit (.bool true)))) (g0 rfl) rfl rfl rfl ?_
          refine o_skip rfl rfl rfl rfl rfl rfl ?_
          refine o_skip rfl rfl rfl rfl rfl rfl ?_
          refine o_skip rfl rfl rfl rfl rfl rfl ?_
          refine o_pk (.t (.d (.lit (.bool true)))) (b := true) rfl (g0 rfl) rfl rfl rfl rfl rfl ?_
          refine o_nil ?_
          repeat (first | refine then_normal ?_ | refine then_exit ?_ | refine then_ret ?_ | refine block_normal ?_ | refine block_ret ?_ | refine block_exit ?_ | refine block_pass rfl ?_)
          refine c_t rfl rfl ?_
          refine c_seq ?_
          refine c_region ?_
          refine o_s (.t (.d (.lit (.bool false)))) (g0 rfl) rfl rfl rfl ?_
          refine o_nil ?_
          repeat (first | refine then_normal ?_ | refine then_exit ?_ | refine then_ret ?_ | refine block_normal ?_ | refine block_ret ?_ | refine block_exit ?_ | refine block_pass rfl ?_)
          refine c_ret ?_
          repeat (first | refine then_normal ?_ | refine then_exit ?_ | refine then_ret ?_ | refine block_normal ?_ | refine block_ret ?_ | refine block_exit ?_ | refine block_pass rfl ?_)
          obtain rfl := Option.some.inj h
          exact ⟨⟨_, rfl, (.refl _)⟩, trivial, rfl⟩
        · refine o_of (e := [(36, .t ((ptT 1 x4.1)))]) (gy rfl rfl rfl h14) (h_mv (Mk.refl _) (.inl rfl) (cpO_pt rfl) rfl rfl) rfl ?_
          obtain ⟨x15, h16, h⟩ := bind_some h
          refine o_of (e := [(HK, .hp (hpA x15.2)), (37, .t (.d (.lit (.int .i64 x15.1))))]) (gy rfl rfl rfl h14) (h_call (Mk.refl _) rfl (σ := []) (fr := []) rfl rfl rfl rfl rfl rfl rfl (fch_space_Space_Free _ x4.2.2 _ h16) (pure_hpA _) (pure_hpA _) rfl rfl rfl rfl (.cons (argPt rfl) .nil) rfl (.t (.flat rfl))) rfl ?_
          refine o_s (.t (.d (.lit (.int .i64 p0)))) (gy rfl rfl rfl h14) rfl rfl rfl ?_
          refine o_s (.t (.d (.lit (.bool (x15.1 != p0))))) (gy rfl rfl rfl h14) rfl rfl rfl ?_
          refine o_pk (.t (.d (.lit (.bool (x15.1 != p0))))) (b := false) h14 (g0 rfl) rfl rfl rfl rfl rfl ?_
          refine o_s (.t (.d (.lit (.bool (x15.1 != p0))))) (g0 rfl) rfl rfl rfl ?_
          rcases bif_some h with ⟨h17, h⟩ | ⟨h17, h⟩
          · refine o_skip rfl rfl rfl h17 rfl rfl ?_
            refine o_skip rfl rfl rfl h17 rfl rfl ?_
            refine o_skip rfl rfl rfl h17 rfl rfl ?_
            refine o_pk (.t (.d (.lit (.bool true)))) (b := true) h17 (g0 rfl) rfl rfl rfl rfl rfl ?_
            refine o_nil ?_
            repeat (first | refine then_normal ?_ | refine then_exit ?_ | refine then_ret ?_ | refine block_normal ?_ | refine block_ret ?_ | refine block_exit ?_ | refine block_pass rfl ?_)
            refine c_t rfl rfl ?_
            refine c_seq ?_
            refine c_region ?_
            refine o_s (.t (.d (.lit (.bool false)))) (g0 rfl) rfl rfl rfl ?_
            refine o_nil ?_
            repeat (first | refine then_normal ?_ | refine then_exit ?_ | refine then_ret ?_ | refine block_normal ?_ | refine block_ret ?_ | refine block_exit ?_ | refine block_pass rfl ?_)
            refine c_ret ?_
            repeat (first | refine then_normal ?_ | refine then_exit ?_ | refine then_ret ?_ | refine block_normal ?_ | refine block_ret ?_ | refine block_exit ?_ | refine block_pass rfl ?_)
            obtain rfl := Option.some.inj h
            exact ⟨⟨_, rfl, (.refl _)⟩, trivial, rfl⟩
          · refine o_of (e := [(42, .t ((ptT 1 x4.1)))]) (gy rfl rfl rfl h17) (h_mv (Mk.refl _) (.inl rfl) (cpO_pt rfl) rfl rfl) rfl ?_
            obtain ⟨x18, h19, h⟩ := bind_some h
            refine o_of (e := [(HK, .hp (hpA x18.2)), (43, .t (.d (.lit (.int .i64 x18.1))))]) (gy rfl rfl rfl h17) (h_call (Mk.refl _) rfl (σ := []) (fr := []) rfl rfl rfl rfl rfl rfl rfl (fch_space_Space_Top _ x15.2 _ h19) (pure_hpA _) (pure_hpA _) rfl rfl rfl rfl (.cons (argPt rfl) .nil) rfl (.t (.flat rfl))) rfl ?_
            refine o_s (.t (.d (.lit (.bool (x18.1 != (-1)))))) (gy rfl rfl rfl h17) rfl rfl rfl ?_
            refine o_pk (.t (.d (.lit (.bool (x18.1 != (-1)))))) (b := false) h17 (g0 rfl) rfl rfl rfl rfl rfl ?_
            refine o_nil ?_
            repeat (first | refine then_normal ?_ | refine then_exit ?_ | refine then_ret ?_ | refine block_normal ?_ | refine block_ret ?_ | refine block_exit ?_ | refine block_pass rfl ?_)
            rcases bif_some h with ⟨h20, h⟩ | ⟨h20, h⟩
            · refine c_t h20 rfl ?_
              refine c_seq ?_
              refine c_region ?_
              refine o_s (.t (.d (.lit (.bool false)))) (g0 rfl) rfl rfl rfl ?_
              refine o_nil ?_
              repeat (first | refine then_normal ?_ | refine then_exit ?_ | refine then_ret ?_ | refine block_normal ?_ | refine block_ret ?_ | refine block_exit ?_ | refine block_pass rfl ?_)
              refine c_ret ?_
              repeat (first | refine then_normal ?_ | refine then_exit ?_ | refine then_ret ?_ | refine block_normal ?_ | refine block_ret ?_ | refine block_exit ?_ | refine block_pass rfl ?_)
              obtain rfl := Option.some.inj h
              exact ⟨⟨_, rfl, (.refl _)⟩, trivial, rfl⟩
            · refine c_f h20 rfl ?_
              refine c_skip ?_
              repeat (first | refine then_normal ?_ | refine then_exit ?_ | refine then_ret ?_ | refine block_normal ?_ | refine block_ret ?_ | refine block_exit ?_ | refine block_pass rfl ?_)
              refine c_seq ?_
              refine c_seq ?_
              refine c_region ?_
              refine o_s (.t (.d (.lit (.int .i64 p0)))) (g0 rfl) rfl rfl rfl ?_
              refine o_s (.t (.d (.lit (.bool (decide (p0 > 300)))))) (g0 rfl) rfl rfl rfl ?_
              refine o_s (.t (.d (.lit (.bool (decide (p0 > 300)))))) (g0 rfl) rfl rfl rfl ?_
              rcases bif_some h with ⟨h21, h⟩ | ⟨h21, h⟩
              · refine o_skip rfl rfl rfl h21 rfl rfl ?_
                refine o_skip rfl rfl rfl h21 rfl rfl ?_
                refine o_skip rfl rfl rfl h21 rfl rfl ?_
                refine o_pk (.t (.d (.lit (.bool true)))) (b := true) h21 (g0 rfl) rfl rfl rfl rfl rfl ?_
                refine o_nil ?_
                repeat (first | refine then_normal ?_ | refine then_exit ?_ | refine then_ret ?_ | refine block_normal ?_ | refine block_ret ?_ | refine block_exit ?_ | refine block_pass rfl ?_)
                refine c_t rfl rfl ?_
                refine c_seq ?_
                refine c_region ?_
                refine o_s (.t (.d (.lit (.bool true)))) (g0 rfl) rfl rfl rfl ?_
                refine o_nil ?_
                repeat (first | refine then_normal ?_ | refine then_exit ?_ | refine then_ret ?_ | refine block_normal ?_ | refine block_ret ?_ | refine block_exit ?_ | refine block_pass rfl ?_)
                refine c_ret ?_
                repeat (first | refine then_normal ?_ | refine then_exit ?_ | refine then_ret ?_ | refine block_normal ?_ | refine block_ret ?_ | refine block_exit ?_ | refine block_pass rfl ?_)
                obtain rfl := Option.some.inj h
                exact ⟨⟨_, rfl, (.refl _)⟩, trivial, rfl⟩
              · refine o_s (.t (.d (.seq 3 (List.map cS_L19_Do p1)))) (gy rfl rfl rfl h21) rfl rfl rfl ?_
                obtain ⟨x22, h23, h⟩ := bind_some h
                refine o_ca (fc_L19_few _ _ h23) (gy rfl rfl rfl h21) rfl rfl rfl rfl rfl rfl rfl (.cons (.refl _) .nil) rfl rfl ?_
                refine o_s (.t (.d (.lit (.bool (!x22))))) (gy rfl rfl rfl h21) rfl rfl rfl ?_
                refine o_pk (.t (.d (.lit (.bool (!x22))))) (b := false) h21 (g0 rfl) rfl rfl rfl rfl rfl ?_
                refine o_nil ?_
                repeat (first | refine then_normal ?_ | refine then_exit ?_ | refine then_ret ?_ | refine block_normal ?_ | refine block_ret ?_ | refine block_exit ?_ | refine block_pass rfl ?_)
                rcases bif_some h with ⟨h24, h⟩ | ⟨h24, h⟩
                · refine c_t h24 rfl ?_
                  refine c_seq ?_
                  refine c_region ?_
                  refine o_s (.t (.d (.lit (.bool true)))) (g0 rfl) rfl rfl rfl ?_
                  refine o_nil ?_
                  repeat (first | refine then_normal ?_ | refine then_exit ?_ | refine then_ret ?_ | refine block_normal ?_ | refine block_ret ?_ | refine block_exit ?_ | refine block_pass rfl ?_)
                  refine c_ret ?_
                  repeat (first | refine then_normal ?_ | refine then_exit ?_ | refine then_ret ?_ | refine block_normal ?_ | refine block_ret ?_ | refine block_exit ?_ | refine block_pass rfl ?_)
                  obtain rfl := Option.some.inj h
                  exact ⟨⟨_, rfl, (.refl _)⟩, trivial, rfl⟩
                · refine c_f h24 rfl ?_
                  refine c_skip ?_
                  repeat (first | refine then_normal ?_ | refine then_exit ?_ | refine then_ret ?_ | refine block_normal ?_ | refine block_ret ?_ | refine block_exit ?_ | refine block_pass rfl ?_)
                  refine c_seq ?_
                  refine c_region ?_
                  refine o_s (.t (.d (.lit (.int .i64 p0)))) (g0 rfl) rfl rfl rfl ?_
                  obtain ⟨x25, h26, h⟩ := bind_some h
                  refine o_of (e := [((OB + 0), .box (fl (dT cBool) (List.replicate x25 (false : Bool)))), (54, .t (.view 0 0 4 1 x25))]) (g0 rfl) (h_mkl (Mk.refl _) rfl rfl rfl rfl rfl rfl rfl rfl rfl h26 (fl_rep (c := cBool) (z := (false : Bool)) rfl x25) rfl rfl rfl rfl) rfl ?_
                  refine o_s (.t (.view 0 0 4 1 x25)) (g0 rfl) rfl rfl rfl ?_
                  refine o_nil ?_
                  repeat (first | refine then_normal ?_ | refine then_exit ?_ | refine then_ret ?_ | refine block_normal ?_ | refine block_ret ?_ | refine block_exit ?_ | refine block_pass rfl ?_)
                  refine c_cutH (fun (q : (List Bool) × Hp) => [(5, .t ((ptT 1 x4.1))), (7, .t (.view 0 0 4 1 q.1.length)), ((OB + 0), .box (fl (dT cBool) q.1)), (HK, .hp (hpA q.2))]) (fun (q : (List Bool) × Hp) => m_L19_SpaceDoes_j1 x4 q.1 q.2 = some r) ?_ ?_
                  · refine c_seq ?_
                    refine c_region ?_
                    refine o_s (.t (.d (.seq 3 (List.map cS_L19_Do p1)))) (g0 rfl) rfl rfl rfl ?_
                    refine o_c (g0 rfl) rfl rfl rfl (lenE _ _) trivial ?_
                    refine o_s (.t (.d (.lit (.int .i64 0)))) (g0 rfl) rfl rfl rfl ?_
                    refine o_nil ?_
                    repeat (first | refine then_normal ?_ | refine then_exit ?_ | refine then_ret ?_ | refine block_normal ?_ | refine block_ret ?_ | refine block_exit ?_ | refine block_pass rfl ?_)
                    refine c_block ?_
                    refine c_fuelH (fun (q : Int × (List Bool) × Hp) => [(5, .t ((ptT 1 x4.1))), (7, .t (.view 0 0 4 1 q.2.1.length)), (55, .t (.d (.seq 3 (List.map cS_L19_Do p1)))), (56, .t (.d (.lit (.int .i64 (p1.length : Int))))), (57, .t (.d (.lit (.int .i64 q.1)))), ((OB + 0), .box (fl (dT cBool) q.2.1)), (HK, .hp (hpA q.2.2))]) (fun nl2 => (fun (q : Int × (List Bool) × Hp) => m_L19_SpaceDoes_l2 p1 x4 nl2 q.1 q.2.1 q.2.2 = some r)) (p1.length + 1) (0, (List.replicate x25 (false : Bool)), x18.2) [] h rfl ⟨.inr ⟨_, rfl, pure_hpA _⟩, by (repeat (first | exact ObP.nil | refine ObP.cons (.inl rfl) ?_ | refine ObP.cons (.inr (fun _ => rfl)) ?_ | refine ObP.cons (.inr (ob_box (fl_noPt _ _))) ?_ | refine ObP.cons (.inr (ob_gb _ _)) ?_))⟩ ⟨(.refl _), ⟨(.vwn (by first | rfl | (simp; done) | (dsimp only; omega) | (simp; omega))), ⟨(.refl _), ⟨(.refl _), ⟨(.refl _), ⟨(.refl _), ⟨(.refl _), trivial⟩⟩⟩⟩⟩⟩⟩ rfl ?_
                    rintro nl2 ⟨z31, z32, z33⟩ h
                    cases nl2 with
                    | zero => exact none_ne h
                    | succ nl2 =>
                      refine c_seq ?_
                      refine c_region ?_
                      refine o_s (.t (.d (.lit (.bool (decide (z31 < (p1.length : Int))))))) (g0 rfl) rfl rfl rfl ?_
                      refine o_nil ?_
                      repeat (first | refine then_normal ?_ | refine then_exit ?_ | refine then_ret ?_ | refine block_normal ?_ | refine block_ret ?_ | refine block_exit ?_ | refine block_pass rfl ?_)
                      refine c_seq ?_
                      rcases bif_some h with ⟨h34, h⟩ | ⟨h34, h⟩
                      · refine c_t h34 rfl ?_
                        refine c_skip ?_
                        repeat (first | refine then_normal ?_ | refine then_exit ?_ | refine then_ret ?_ | refine block_normal ?_ | refine block_ret ?_ | refine block_exit ?_ | refine block_pass rfl ?_)
                        refine c_seq ?_
                        refine c_block ?_
                        refine c_seq ?_
                        refine c_region ?_
                        obtain ⟨x35, h36, h⟩ := bind_some h
                        refine o_c (g0 rfl) rfl rfl rfl (idxE h36) (idxC h36) ?_
                        refine o_s (.t (.agg [.lit (.int .i64 x35.Kind), .lit (.int .i64 x35.N), .seq 1 (List.map cI64 x35.L)])) (g0 rfl) rfl rfl rfl ?_
                        refine o_s (.box [.d (.lit (.int .i64 0)), .d (.lit (.int .i64 0)), .d (.lit (.slice none 0 0))]) (g0 rfl) rfl rfl rfl ?_
                        refine o_st (.box [.d (.lit (.int .i64 x35.Kind)), .d (.lit (.int .i64 x35.N)), .d (.seq 1 (List.map cI64 x35.L))]) (g0 rfl) rfl rfl rfl ?_
                        refine o_nil ?_
                        repeat (first | refine then_normal ?_ | refine then_exit ?_ | refine then_ret ?_ | refine block_normal ?_ | refine block_ret ?_ | refine block_exit ?_ | refine block_pass rfl ?_)
                        refine c_seq ?_
                        refine c_region ?_
                        refine o_s (.ref 9 0) (g0 rfl) rfl rfl rfl ?_
                        refine o_s (.t (.d (.lit (.int .i64 x35.Kind)))) (g0 rfl) rfl rfl rfl ?_
                        refine o_nil ?_
                        repeat (first | refine then_normal ?_ | refine then_exit ?_ | refine then_ret ?_ | refine block_normal ?_ | refine block_ret ?_ | refine block_exit ?_ | refine block_pass rfl ?_)
                        refine c_block ?_
                        refine c_seq ?_
                        refine c_region ?_
                        refine o_s (.t (.d (.lit (.bool (x35.Kind == 1))))) (g0 rfl) rfl rfl rfl ?_
                        refine o_s (.t (.d (.lit (.bool (x35.Kind == 1))))) (g0 rfl) rfl rfl rfl ?_
                        refine o_nil ?_
                        repeat (first | refine then_normal ?_ | refine then_exit ?_ | refine then_ret ?_ | refine block_normal ?_ | refine block_ret ?_ | refine block_exit ?_ | refine block_pass rfl ?_)
                        rcases bif_some h with ⟨h37, h⟩ | ⟨h37, h⟩
                        · refine c_t h37 rfl ?_
                          refine c_seq ?_
                          refine c_region ?_
                          refine o_of (e := [(66, .t ((ptT 1 x4.1)))]) (g0 rfl) (h_mv (Mk.refl _) (.inl rfl) (cpO_pt rfl) rfl rfl) rfl ?_
                          refine o_s (.ref 9 1) (g0 rfl) rfl rfl rfl ?_
                          refine o_s (.t (.d (.lit (.int .i64 x35.N)))) (g0 rfl) rfl rfl rfl ?_
                          obtain ⟨x38, h39, h⟩ := bind_some h
                          refine o_of (e := [(HK, .hp (hpA x38.2.2)), (69, .tup [.d (.seq 1 (List.map cI64 x38.1)), .d (.lit (.int .i64 x38.2.1))])]) (g0 rfl) (h_call (Mk.refl _) rfl (σ := []) (fr := []) rfl rfl rfl rfl rfl rfl rfl (fch_space_Space_Take _ _ z33 _ h39) (pure_hpA _) (pure_hpA _) rfl rfl rfl rfl (.cons (argPt rfl) (.cons (.plain (.refl _) rfl) .nil)) rfl (.tup (.cons (.flat rfl) (.cons (.flat rfl) .nil)))) rfl ?_
                          refine o_s (.tup [.d (.seq 1 (List.map cI64 x38.1)), .d (.lit (.int .i64 x38.2.1))]) (g0 rfl) rfl rfl rfl ?_
                          refine o_s (.t (.d (.seq 1 (List.map cI64 x38.1)))) (g0 rfl) rfl rfl rfl ?_
                          refine o_s (.t (.d (.lit (.int .i64 x38.2.1)))) (g0 rfl) rfl rfl rfl ?_
                          refine o_s (.t (.d (.seq 1 (List.map cI64 x38.1)))) (g0 rfl) rfl rfl rfl ?_
                          refine o_s (.t (.d (.lit (.int .i64 x38.2.1)))) (g0 rfl) rfl rfl rfl ?_
                          refine o_nil ?_
                          repeat (first | refine then_normal ?_ | refine then_exit ?_ | refine then_ret ?_ | refine block_normal ?_ | refine block_ret ?_ | refine block_exit ?_ | refine block_pass rfl ?_)
                          refine c_seq ?_
                          refine c_region ?_
                          refine o_s (.t (.view 0 0 4 1 z32.length)) (g0 rfl) rfl rfl rfl ?_
                          refine o_s (.ref 9 1) (g0 rfl) rfl rfl rfl ?_
                          refine o_s (.t (.d (.lit (.int .i64 x35.N)))) (g0 rfl) rfl rfl rfl ?_
                          obtain ⟨x40, h41, h⟩ := bind_some h
                          refine o_of (e := [((OB + 0), .box (fl (dT cBool) x40.2.2)), (HK, .hp (hpA x38.2.2)), (76, .tup [.d (.seq 1 (List.map cI64 x40.1)), .d (.lit (.int .i64 x40.2.1))])]) (g0 rfl) (h_call (Mk.refl _) rfl (σ := [0]) (fr := []) rfl rfl rfl rfl rfl rfl rfl (fch_R19_Take_v0 _ _ x38.2.2 _ h41) (pure_hpA _) (pure_hpA _) rfl (by simp [A.flatO, fl_noPt]) (by simp [A.flatO, fl_noPt]) rfl (.cons (argVw rfl rfl rfl) (.cons (.plain (.refl _) rfl) .nil)) rfl (.tup (.cons (.flat rfl) (.cons (.flat rfl) .nil)))) rfl ?_
                          obtain ⟨x42, h43, h⟩ := bind_some h
                          have h43 : x40.2.2.length = z32.length := lenI_eq h43
                          refine o_s (.tup [.d (.seq 1 (List.map cI64 x40.1)), .d (.lit (.int .i64 x40.2.1))]) (g0 rfl) rfl rfl rfl ?_
                          refine o_s (.t (.d (.seq 1 (List.map cI64 x40.1)))) (g0 rfl) rfl rfl rfl ?_
                          refine o_s (.t (.d (.lit (.int .i64 x40.2.1)))) (g0 rfl) rfl rfl rfl ?_
                          refine o_s (.t (.d (.seq 1 (List.map cI64 x40.1)))) (g0 rfl) rfl rfl rfl ?_
                          refine o_s (.t (.d (.lit (.int .i64 x40.2.1)))) (g0 rfl) rfl rfl rfl ?_
                          refine o_nil ?_
                          repeat (first | refine then_normal ?_ | refine then_exit ?_ | refine then_ret ?_ | refine block_normal ?_ | refine block_ret ?_ | refine block_exit ?_ | refine block_pass rfl ?_)
                          refine c_seq ?_
                          refine c_region ?_
                          refine o_s (.t (.d (.lit (.int .i64 x38.2.1)))) (g0 rfl) rfl rfl rfl ?_
                          refine o_s (.t (.d (.lit (.int .i64 x40.2.1)))) (g0 rfl) rfl rfl rfl ?_
                          refine o_s (.t (.d (.lit (.bool (x38.2.1 != x40.2.1))))) (g0 rfl) rfl rfl rfl ?_
                          refine o_s (.t (.d (.lit (.bool (x38.2.1 != x40.2.1))))) (g0 rfl) rfl rfl rfl ?_
                          rcases bif_some h with ⟨h44, h⟩ | ⟨h44, h⟩
                          · refine o_skip rfl rfl rfl h44 rfl rfl ?_
                            refine o_skip rfl rfl rfl h44 rfl rfl ?_
                            refine o_skip rfl rfl rfl h44 rfl rfl ?_
                            refine o_skip rfl rfl rfl h44 rfl rfl ?_
                            refine o_pk (.t (.d (.lit (.bool true)))) (b := true) h44 (g0 rfl) rfl rfl rfl rfl rfl ?_
                            refine o_nil ?_
                            repeat (first | refine then_normal ?_ | refine then_exit ?_ | refine then_ret ?_ | refine block_normal ?_ | refine block_ret ?_ | refine block_exit ?_ | refine block_pass rfl ?_)
                            refine c_t rfl rfl ?_
                            refine c_seq ?_
                            refine c_region ?_
                            refine o_s (.t (.d (.lit (.bool false)))) (g0 rfl) rfl rfl rfl ?_
                            refine o_nil ?_
                            repeat (first | refine then_normal ?_ | refine then_exit ?_ | refine then_ret ?_ | refine block_normal ?_ | refine block_ret ?_ | refine block_exit ?_ | refine block_pass rfl ?_)
                            refine c_ret ?_
                            repeat (first | refine then_normal ?_ | refine then_exit ?_ | refine then_ret ?_ | refine block_normal ?_ | refine block_ret ?_ | refine block_exit ?_ | refine block_pass rfl ?_)
                            obtain rfl := Option.some.inj h
                            exact ⟨⟨_, rfl, (.refl _)⟩, trivial, rfl⟩
                          · refine o_s (.t (.d (.seq 1 (List.map cI64 x38.1)))) (gy rfl rfl rfl h44) rfl rfl rfl ?_
                            refine o_s (.t (.d (.seq 1 (List.map cI64 x40.1)))) (gy rfl rfl rfl h44) rfl rfl rfl ?_
                            obtain ⟨x45, h46, h⟩ := bind_some h
                            refine o_ca (fc_R01_Ints _ _ _ h46) (gy rfl rfl rfl h44) rfl rfl rfl rfl rfl rfl rfl (.cons (.refl _) (.cons (.refl _) .nil)) rfl rfl ?_
                            refine o_s (.t (.d (.lit (.bool (!x45))))) (gy rfl rfl rfl h44) rfl rfl rfl ?_
                            refine o_pk (.t (.d (.lit (.bool (!x45))))) (b := false) h44 (g0 rfl) rfl rfl rfl rfl rfl ?_
                            refine o_nil ?_
                            repeat (first | refine then_normal ?_ | refine then_exit ?_ | refine then_ret ?_ | refine block_normal ?_ | refine block_ret ?_ | refine block_exit ?_ | refine block_pass rfl ?_)
                            rcases bif_some h with ⟨h47, h⟩ | ⟨h47, h⟩
                            · refine c_t h47 rfl ?_
                              refine c_seq ?_
                              refine c_region ?_
                              refine o_s (.t (.d (.lit (.bool false)))) (g0 rfl) rfl rfl rfl ?_
                              refine o_nil ?_
                              repeat (first | refine then_normal ?_ | refine then_exit ?_ | refine then_ret ?_ | refine block_normal ?_ | refine block_ret ?_ | refine block_exit ?_ | refine block_pass rfl ?_)
                              refine c_ret ?_
                              repeat (first | refine then_normal ?_ | refine then_exit ?_ | refine then_ret ?_ | refine block_normal ?_ | refine block_ret ?_ | refine block_exit ?_ | refine block_pass rfl ?_)
                              obtain rfl := Option.some.inj h
                              exact ⟨⟨_, rfl, (.refl _)⟩, trivial, rfl⟩
                            · refine c_f h47 rfl ?_
                              refine c_skip ?_
                              repeat (first | refine then_normal ?_ | refine then_exit ?_ | refine then_ret ?_ | refine block_normal ?_ | refine block_ret ?_ | refine block_exit ?_ | refine block_pass rfl ?_)
                              refine c_region ?_
                              refine o_s (.t (.d (.lit (.int .i64 (wi (z31 + 1)))))) (g0 rfl) rfl rfl rfl ?_
                              refine o_s (.t (.d (.lit (.int .i64 (wi (z31 + 1)))))) (g0 rfl) rfl rfl rfl ?_
                              refine o_nil ?_
                              repeat (first | refine then_normal ?_ | refine then_exit ?_ | refine then_ret ?_ | refine block_normal ?_ | refine block_ret ?_ | refine block_exit ?_ | refine block_pass rfl ?_)
                              exact ⟨nl2, ((wi (z31 + 1)), x40.2.2, x38.2.2), [], Nat.lt_succ_self nl2, h, rfl, ⟨.inr ⟨_, rfl, pure_hpA _⟩, by (repeat (first | exact ObP.nil | refine ObP.cons (.inl rfl) ?_ | refine ObP.cons (.inr (fun _ => rfl)) ?_ | refine ObP.cons (.inr (ob_box (fl_noPt _ _))) ?_ | refine ObP.cons (.inr (ob_gb _ _)) ?_))⟩, ⟨(.refl _), ⟨(.vwn (by first | rfl | (simp; done) | (dsimp only; omega) | (simp; omega))), ⟨(.refl _), ⟨(.refl _), ⟨(.refl _), ⟨(.refl _), ⟨(.refl _), trivial⟩⟩⟩⟩⟩⟩⟩, rfl⟩
                        · refine c_f h37 rfl ?_
                          refine c_seq ?_
                          refine c_region ?_
                          refine o_s (.t (.d (.lit (.bool (x35.Kind == 2))))) (g0 rfl) rfl rfl rfl ?_
                          refine o_s (.t (.d (.lit (.bool (x35.Kind == 2))))) (g0 rfl) rfl rfl rfl ?_
                          refine o_nil ?_
                          repeat (first | refine then_normal ?_ | refine then_exit ?_ | refine then_ret ?_ | refine block_normal ?_ | refine block_ret ?_ | refine block_exit ?_ | refine block_pass rfl ?_)
                          rcases bif_some h with ⟨h48, h⟩ | ⟨h48, h⟩
                          · refine c_t h48 rfl ?_
                            refine c_seq ?_
                            refine c_draw mixed (by kernel_rfl) ?_
                            refine d_h (e := [(90, .t ((ptT 1 x4.1)))]) (ks := [90]) rfl (dg0 rfl) rfl rfl (fun S' hM hk hok => h_mv hM (.inl rfl) (cpO_pt rfl) rfl (hok _ rfl rfl)) rfl ?_
                            refine d_s (.ref 9 2) rfl (dg0 rfl) rfl rfl rfl rfl ?_
                            refine d_s (.t (.d (.seq 1 (List.map cI64 x35.L)))) rfl (dg0 rfl) rfl rfl rfl rfl ?_
                            obtain ⟨x49, h50, h⟩ := bind_some h
                            refine d_h (e := [(HK, .hp (hpA x49.2)), (93, .t (.d (.lit (.int .i64 x49.1))))]) (ks := [HK, 93]) rfl (dg0 rfl) rfl rfl (fun S' hM hk hok => h_call hM hk (σ := []) (fr := []) rfl rfl rfl (hok _ rfl rfl) rfl rfl rfl (fch_space_Space_Claim _ _ z33 _ h50) (pure_hpA _) (pure_hpA _) rfl rfl rfl rfl (.cons (argPt rfl) (.cons (.plain (.refl _) rfl) .nil)) rfl (.t (.flat rfl))) rfl ?_
                            refine d_s (.t (.view 0 0 4 1 z32.length)) rfl (dg0 rfl) rfl rfl rfl rfl ?_
                            refine d_s (.ref 9 2) rfl (dg0 rfl) rfl rfl rfl rfl ?_
                            refine d_s (.t (.d (.seq 1 (List.map cI64 x35.L)))) rfl (dg0 rfl) rfl rfl rfl rfl ?_
                            obtain ⟨x51, h52, h⟩ := bind_some h
                            refine d_hm [OB + 0] (e := [((OB + 0), .box (fl (dT cBool) x51.2)), (HK, .hp (hpA x49.2)), (97, .t (.d (.lit (.int .i64 x51.1))))]) (ks := [(OB + 0), HK, 97]) rfl (dg0 rfl) rfl rfl (fun S' hM hk hS hok => h_call hM hk (σ := [0]) (fr := []) rfl rfl rfl (hok _ rfl rfl) rfl rfl rfl (fch_R19_Turn_v0 _ _ _ x49.2 _ h52) (pure_hpA _) (pure_hpA _) rfl (by simp [A.flatO, fl_noPt]) (by simp [A.flatO, fl_noPt]) (cons_eq (hS (OB + 0) rfl) (rfl)) (.cons (argVw rfl rfl rfl) (.cons (.plain (.refl _) rfl) (.cons (.plain (.refl _) rfl) .nil))) rfl (.t (.flat rfl))) rfl ?_
                            obtain ⟨x53, h54, h⟩ := bind_some h
                            have h54 : x51.2.length = z32.length := lenI_eq h54
                            refine d_s (.t (.d (.lit (.bool (x49.1 != x51.1))))) rfl (dg0 rfl) rfl rfl rfl rfl ?_
                            refine d_nil (by kernel_rfl) ?_
                            repeat (first | refine then_normal ?_ | refine then_exit ?_ | refine then_ret ?_ | refine block_normal ?_ | refine block_ret ?_ | refine block_exit ?_ | refine block_pass rfl ?_)
                            rcases bif_some h with ⟨h55, h⟩ | ⟨h55, h⟩
                            · refine c_t h55 rfl ?_
                              refine c_seq ?_
                              refine c_region ?_
                              refine o_s (.t (.d (.lit (.bool false)))) (g0 rfl) rfl rfl rfl ?_
                              refine o_nil ?_
                              repeat (first | refine then_normal ?_ | refine then_exit ?_ | refine then_ret ?_ | refine block_normal ?_ | refine block_ret ?_ | refine block_exit ?_ | refine block_pass rfl ?_)
                              refine c_ret ?_
                              repeat (first | refine then_normal ?_ | refine then_exit ?_ | refine then_ret ?_ | refine block_normal ?_ | refine block_ret ?_ | refine block_exit ?_ | refine block_pass rfl ?_)
                              obtain rfl := Option.some.inj h
                              exact ⟨⟨_, rfl, (.refl _)⟩, trivial, rfl⟩
                            · refine c_f h55 rfl ?_
                              refine c_skip ?_
                              repeat (first | refine then_normal ?_ | refine then_exit ?_ | refine then_ret ?_ | refine block_normal ?_ | refine block_ret ?_ | refine block_exit ?_ | refine block_pass rfl ?_)
                              refine c_region ?_
                              refine o_s (.t (.d (.lit (.int .i64 (wi (z31 + 1)))))) (g0 rfl) rfl rfl rfl ?_
                              refine o_s (.t (.d (.lit (.int .i64 (wi (z31 + 1)))))) (g0 rfl) rfl rfl rfl ?_
                              refine o_nil ?_
                              repeat (first | refine then_normal ?_ | refine then_exit ?_ | refine then_ret ?_ | refine block_normal ?_ | refine block_ret ?_ | refine block_exit ?_ | refine block_pass rfl ?_)
                              exact ⟨nl2, ((wi (z31 + 1)), x51.2, x49.2), [], Nat.lt_succ_self nl2, h, rfl, ⟨.inr ⟨_, rfl, pure_hpA _⟩, by (repeat (first | exact ObP.nil | refine ObP.cons (.inl rfl) ?_ | refine ObP.cons (.inr (fun _ => rfl)) ?_ | refine ObP.cons (.inr (ob_box (fl_noPt _ _))) ?_ | refine ObP.cons (.inr (ob_gb _ _)) ?_))⟩, ⟨(.refl _), ⟨(.vwn (by first | rfl | (simp; done) | (dsimp only; omega) | (simp; omega))), ⟨(.refl _), ⟨(.refl _), ⟨(.refl _), ⟨(.refl _), ⟨(.refl _), trivial⟩⟩⟩⟩⟩⟩⟩, rfl⟩
                          · refine c_f h48 rfl ?_
                            refine c_seq ?_
                            refine c_region ?_
                            refine o_s (.t (.d (.lit (.bool (x35.Kind == 3))))) (g0 rfl) rfl rfl rfl ?_
                            refine o_s (.t (.d (.lit (.bool (x35.Kind == 3))))) (g0 rfl) rfl rfl rfl ?_
                            refine o_nil ?_
                            repeat (first | refine then_normal ?_ | refine then_exit ?_ | refine then_ret ?_ | refine block_normal ?_ | refine block_ret ?_ | refine block_exit ?_ | refine block_pass rfl ?_)
                            rcases bif_some h with ⟨h56, h⟩ | ⟨h56, h⟩
                            · refine c_t h56 rfl ?_
                              refine c_seq ?_
                              refine c_draw mixed (by kernel_rfl) ?_
                              refine d_h (e := [(101, .t ((ptT 1 x4.1)))]) (ks := [101]) rfl (dg0 rfl) rfl rfl (fun S' hM hk hok => h_mv hM (.inl rfl) (cpO_pt rfl) rfl (hok _ rfl rfl)) rfl ?_
                              refine d_s (.ref 9 2) rfl (dg0 rfl) rfl rfl rfl rfl ?_
                              refine d_s (.t (.d (.seq 1 (List.map cI64 x35.L)))) rfl (dg0 rfl) rfl rfl rfl rfl ?_
                              obtain ⟨x57, h58, h⟩ := bind_some h
                              refine d_h (e := [(HK, .hp (hpA x57.2)), (104, .t (.d (.lit (.int .i64 x57.1))))]) (ks := [HK, 104]) rfl (dg0 rfl) rfl rfl (fun S' hM hk hok => h_call hM hk (σ := []) (fr := []) rfl rfl rfl (hok _ rfl rfl) rfl rfl rfl (fch_space_Space_Give _ _ z33 _ h58) (pure_hpA _) (pure_hpA _) rfl rfl rfl rfl (.cons (argPt rfl) (.cons (.plain (.refl _) rfl) .nil)) rfl (.t (.flat rfl))) rfl ?_
                              refine d_s (.t (.view 0 0 4 1 z32.length)) rfl (dg0 rfl) rfl rfl rfl rfl ?_
                              refine d_s (.ref 9 2) rfl (dg0 rfl) rfl rfl rfl rfl ?_
                              refine d_s (.t (.d (.seq 1 (List.map cI64 x35.L)))) rfl (dg0 rfl) rfl rfl rfl rfl ?_
                              obtain ⟨x59, h60, h⟩ := bind_some h
                              refine d_hm [OB + 0] (e := [((OB + 0), .box (fl (dT cBool) x59.2)), (HK, .hp (hpA x57.2)), (108, .t (.d (.lit (.int .i64 x59.1))))]) (ks := [(OB + 0), HK, 108]) rfl (dg0 rfl) rfl rfl (fun S' hM hk hS hok => h_call hM hk (σ := [0]) (fr := []) rfl rfl rfl (hok _ rfl rfl) rfl rfl rfl (fch_R19_Turn_v0 _ _ _ x57.2 _ h60) (pure_hpA _) (pure_hpA _) rfl (by simp [A.flatO, fl_noPt]) (by simp [A.flatO, fl_noPt]) (cons_eq (hS (OB + 0) rfl) (rfl)) (.cons (argVw rfl rfl rfl) (.cons (.plain (.refl _) rfl) (.cons (.plain (.refl _) rfl) .nil))) rfl (.t (.flat rfl))) rfl ?_
                              obtain ⟨x61, h62, h⟩ := bind_some h
                              have h62 : x59.2.length = z32.length := lenI_eq h62
                              refine d_s (.t (.d (.lit (.bool (x57.1 != x59.1))))) rfl (dg0 rfl) rfl rfl rfl rfl ?_
                              refine d_nil (by kernel_rfl) ?_
                              repeat (first | refine then_normal ?_ | refine then_exit ?_ | refine then_ret ?_ | refine block_normal ?_ | refine block_ret ?_ | refine block_exit ?_ | refine block_pass rfl ?_)
                              rcases bif_some h with ⟨h63, h⟩ | ⟨h63, h⟩
                              · refine c_t h63 rfl ?_
                                refine c_seq ?_
                                refine c_region ?_
                                refine o_s (.t (.d (.lit (.bool false)))) (g0 rfl) rfl rfl rfl ?_
                                refine o_nil ?_
                                repeat (first | refine then_normal ?_ | refine then_exit ?_ | refine then_ret ?_ | refine block_normal ?_ | refine block_ret ?_ | refine block_exit ?_ | refine block_pass rfl ?_)
                                refine c_ret ?_
                                repeat (first | refine then_normal ?_ | refine then_exit ?_ | refine then_ret ?_ | refine block_normal ?_ | refine block_ret ?_ | refine block_exit ?_ | refine block_pass rfl ?_)
                                obtain rfl := Option.some.inj h
                                exact ⟨⟨_, rfl, (.refl _)⟩, trivial, rfl⟩
                              · refine c_f h63 rfl ?_
                                refine c_skip ?_
                                repeat (first | refine then_normal ?_ | refine then_exit ?_ | refine then_ret ?_ | refine block_normal ?_ | refine block_ret ?_ | refine block_exit ?_ | refine block_pass rfl ?_)
                                refine c_region ?_
                                refine o_s (.t (.d (.lit (.int .i64 (wi (z31 + 1)))))) (g0 rfl) rfl rfl rfl ?_
                                refine o_s (.t (.d (.lit (.int .i64 (wi (z31 + 1)))))) (g0 rfl) rfl rfl rfl ?_
                                refine o_nil ?_
                                repeat (first | refine then_normal ?_ | refine then_exit ?_ | refine then_ret ?_ | refine block_normal ?_ | refine block_ret ?_ | refine block_exit ?_ | refine block_pass rfl ?_)
                                exact ⟨nl2, ((wi (z31 + 1)), x59.2, x57.2), [], Nat.lt_succ_self nl2, h, rfl, ⟨.inr ⟨_, rfl, pure_hpA _⟩, by (repeat (first | exact ObP.nil | refine ObP.cons (.inl rfl) ?_ | refine ObP.cons (.inr (fun _ => rfl)) ?_ | refine ObP.cons (.inr (ob_box (fl_noPt _ _))) ?_ | refine ObP.cons (.inr (ob_gb _ _)) ?_))⟩, ⟨(.refl _), ⟨(.vwn (by first | rfl | (simp; done) | (dsimp only; omega) | (simp; omega))), ⟨(.refl _), ⟨(.refl _), ⟨(.refl _), ⟨(.refl _), ⟨(.refl _), trivial⟩⟩⟩⟩⟩⟩⟩, rfl⟩
                            · refine c_f h56 rfl ?_
                              refine c_skip ?_
                              repeat (first | refine then_normal ?_ | refine then_exit ?_ | refine then_ret ?_ | refine block_normal ?_ | refine block_ret ?_ | refine block_exit ?_ | refine block_pass rfl ?_)
                              refine c_region ?_
                              refine o_s (.t (.d (.lit (.int .i64 (wi (z31 + 1)))))) (g0 rfl) rfl rfl rfl ?_
                              refine o_s (.t (.d (.lit (.int .i64 (wi (z31 + 1)))))) (g0 rfl) rfl rfl rfl ?_
                              refine o_nil ?_
                              repeat (first | refine then_normal ?_ | refine then_exit ?_ | refine then_ret ?_ | refine block_normal ?_ | refine block_ret ?_ | refine block_exit ?_ | refine block_pass rfl ?_)
                              exact ⟨nl2, ((wi (z31 + 1)), z32, z33), [], Nat.lt_succ_self nl2, h, rfl, ⟨.inr ⟨_, rfl, pure_hpA _⟩, by (repeat (first | exact ObP.nil | refine ObP.cons (.inl rfl) ?_ | refine ObP.cons (.inr (fun _ => rfl)) ?_ | refine ObP.cons (.inr (ob_box (fl_noPt _ _))) ?_ | refine ObP.cons (.inr (ob_gb _ _)) ?_))⟩, ⟨(.refl _), ⟨(.refl _), ⟨(.refl _), ⟨(.refl _), ⟨(.refl _), ⟨(.refl _), ⟨(.refl _), trivial⟩⟩⟩⟩⟩⟩⟩, rfl⟩
                      · refine c_f h34 rfl ?_
                        refine c_exit ?_
                        repeat (first | refine then_normal ?_ | refine then_exit ?_ | refine then_ret ?_ | refine block_normal ?_ | refine block_ret ?_ | refine block_exit ?_ | refine block_pass rfl ?_)
                        exact ⟨(z32, z33), [], h, rfl, ⟨.inr ⟨_, rfl, pure_hpA _⟩, by (repeat (first | exact ObP.nil | refine ObP.cons (.inl rfl) ?_ | refine ObP.cons (.inr (fun _ => rfl)) ?_ | refine ObP.cons (.inr (ob_box (fl_noPt _ _))) ?_ | refine ObP.cons (.inr (ob_gb _ _)) ?_))⟩, ⟨(.refl _), ⟨(.refl _), ⟨(.refl _), ⟨(.refl _), trivial⟩⟩⟩⟩, rfl⟩
                  · rintro ⟨y27, y28⟩ h
                    refine c_seq ?_
                    refine c_region ?_
                    refine o_of (e := [(111, .t ((ptT 1 x4.1)))]) (g0 rfl) (h_mv (Mk.refl _) (.inl rfl) (cpO_pt rfl) rfl rfl) rfl ?_
                    refine o_s (.t (.view 0 0 4 1 y27.length)) (g0 rfl) rfl rfl rfl ?_
                    obtain ⟨x29, h30, h⟩ := bind_some h
                    refine o_of (e := [((OB + 0), .box (fl (dT cBool) y27)), (HK, .hp (hpA x29.2)), (113, .t (.d (.lit (.bool x29.1))))]) (g0 rfl) (h_call (Mk.refl _) rfl (σ := [0]) (fr := []) rfl rfl rfl rfl rfl rfl rfl (fch_L19_whole_v1 _ _ y28 _ h30) (pure_hpA _) (pure_hpA _) rfl (by simp [A.flatO, fl_noPt]) (by simp [A.flatO, fl_noPt]) rfl (.cons (argPt rfl) (.cons (argVw rfl rfl rfl) .nil)) rfl (.t (.flat rfl))) rfl ?_
                    refine o_s (.t (.d (.lit (.bool x29.1)))) (g0 rfl) rfl rfl rfl ?_
                    refine o_nil ?_
                    repeat (first | refine then_normal ?_ | refine then_exit ?_ | refine then_ret ?_ | refine block_normal ?_ | refine block_ret ?_ | refine block_exit ?_ | refine block_pass rfl ?_)
                    refine c_ret ?_
                    repeat (first | refine then_normal ?_ | refine then_exit ?_ | refine then_ret ?_ | refine block_normal ?_ | refine block_ret ?_ | refine block_exit ?_ | refine block_pass rfl ?_)
                    obtain rfl := Option.some.inj h
                    exact ⟨⟨_, rfl, (.refl _)⟩, trivial, rfl⟩

theorem fch_L19_SpaceBytes (p0 : Int) (p1 : (List UInt8)) (w0 : Hp) (r : (Bool × Hp)) (h : m_L19_SpaceBytes p0 p1 w0 = some r) : FCH Tryd.prog 5 [.t (.d (.lit (.int .i64 p0))), .t (.d (.seq 1 (bytesD p1)))] [] [] (hpA w0) (hpA r.2) (.t (.d (.lit (.bool r.1)))) := by
  refine fch_mk (rs := [.tmp 4]) (n := 69) [] Tryd.func5 rfl rfl (Nat.le_of_ble_eq_true rfl) rfl (pins := []) rfl (L := [(HK, .hp (hpA w0)), (0, .t (.d (.lit (.int .i64 p0)))), (1, .t (.d (.seq 1 (bytesD p1))))]) rfl ?_
  refine c_seq ?_
  refine c_region ?_
  refine o_s (.t (.d (.lit (.bool false)))) (g0 rfl) rfl rfl rfl ?_
  refine o_nil ?_
  repeat (first | refine then_normal ?_ | refine then_exit ?_ | refine then_ret ?_ | refine block_normal ?_ | refine block_ret ?_ | refine block_exit ?_ | refine block_pass rfl ?_)
  refine c_seq ?_
  refine c_seq ?_
  refine c_region ?_
  obtain ⟨x1, h2, h⟩ := bind_some h
  refine o_of (e := [(HK, .hp (hpA x1.2)), (9, .t (.d (.lit (.bool x1.1))))]) (g0 rfl) (h_call (Mk.refl _) rfl (σ := []) (fr := []) rfl rfl rfl rfl rfl rfl rfl (fch_L19_awake w0 _ h2) (pure_hpA _) (pure_hpA _) rfl rfl rfl rfl .nil rfl (.t (.flat rfl))) rfl ?_
  refine o_s (.t (.d (.lit (.bool (!x1.1))))) (g0 rfl) rfl rfl rfl ?_
  refine o_nil ?_
  repeat (first | refine then_normal ?_ | refine then_exit ?_ | refine then_ret ?_ | refine block_normal ?_ | refine block_ret ?_ | refine block_exit ?_ | refine block_pass rfl ?_)
  rcases bif_some h with ⟨h3, h⟩ | ⟨h3, h⟩
  · refine c_t h3 rfl ?_
    refine c_seq ?_
    refine c_region ?_
    refine o_s (.t (.d (.lit (.bool false)))) (g0 rfl) rfl rfl rfl ?_
    refine o_nil ?_
    repeat (first | refine then_normal ?_ | refine then_exit ?_ | refine then_ret ?_ | refine block_normal ?_ | refine block_ret ?_ | refine block_exit ?_ | refine block_pass rfl ?_)
    refine c_ret ?_
    repeat (first | refine then_normal ?_ | refine then_exit ?_ | refine then_ret ?_ | refine block_normal ?_ | refine block_ret ?_ | refine block_exit ?_ | refine block_pass rfl ?_)
    obtain rfl := Option.some.inj h
    exact ⟨⟨_, rfl, (.refl _)⟩, trivial, rfl⟩
  · refine c_f h3 rfl ?_
    refine c_skip ?_
    repeat (first | refine then_normal ?_ | refine then_exit ?_ | refine then_ret ?_ | refine block_normal ?_ | refine block_ret ?_ | refine block_exit ?_ | refine block_pass rfl ?_)
    refine c_seq ?_
    refine c_region ?_
    refine o_s (.t (.d (.lit (.int .i64 p0)))) (g0 rfl) rfl rfl rfl ?_
    refine o_s (.t (.d (.seq 1 (bytesD p1)))) (g0 rfl) rfl rfl rfl ?_
    obtain ⟨x4, h5, h⟩ := bind_some h
    refine o_of (e := [(HK, .hp (hpA x4.2.2)), (14, .tup [(ptT 1 x4.1), .d (.lit (.int .i64 x4.2.1))])]) (g0 rfl) (h_call (Mk.refl _) rfl (σ := []) (fr := []) rfl rfl rfl rfl rfl rfl rfl (fch_space_Read _ _ x1.2 _ h5) (pure_hpA _) (pure_hpA _) rfl rfl rfl rfl (.cons (.plain (.refl _) rfl) (.cons (.plain (.refl _) rfl) .nil)) rfl (.tup (.cons (ptT_pt _ _) (.cons (.flat rfl) .nil)))) rfl ?_
    refine o_c (g0 rfl) rfl rfl rfl (congrArg A.tup (cp_cons (ptT_cp _ _) (cp_cons rfl cp_nil))) trivial ?_
    refine o_c (g0 rfl) rfl rfl rfl (congrArg A.t (ptT_cp _ _)) trivial ?_
    refine o_s (.t (.d (.lit (.int .i64 x4.2.1)))) (g0 rfl) rfl rfl rfl ?_
    refine o_of (e := [(5, .t ((ptT 1 x4.1)))]) (g0 rfl) (h_mv (Mk.refl _) (.inr rfl) (cpO_pt rfl) rfl rfl) rfl ?_
    refine o_s (.t (.d (.lit (.int .i64 x4.2.1)))) (g0 rfl) rfl rfl rfl ?_
    refine o_nil ?_
    repeat (first | refine then_normal ?_ | refine then_exit ?_ | refine then_ret ?_ | refine block_normal ?_ | refine block_ret ?_ | refine block_exit ?_ | refine block_pass rfl ?_)
    refine c_seq ?_
    refine c_seq ?_
    refine c_region ?_
    refine o_s (.t (.d (.lit (.int .i64 p0)))) (g0 rfl) rfl rfl rfl ?_
    refine o_s (.t (.d (.lit (.bool (decide (p0 < 0)))))) (g0 rfl) rfl rfl rfl ?_
    refine o_s (.t (.d (.lit (.bool (decide (p0 < 0)))))) (g0 rfl) rfl rfl rfl ?_
    rcases bif_some h with ⟨h6, h⟩ | ⟨h6, h⟩
    · refine o_skip rfl rfl rfl h6 rfl rfl ?_
      refine o_skip rfl rfl rfl h6 rfl rfl ?_
      refine o_pk (.t (.d (.lit (.bool true)))) (b := true) h6 (g0 rfl) rfl rfl rfl rfl rfl ?_
      refine o_nil ?_
      repeat (first | refine then_normal ?_ | refine then_exit ?_ | refine then_ret ?_ | refine block_normal ?_ | refine block_ret ?_ | refine block_exit ?_ | refine block_pass rfl ?_)
      refine c_t rfl rfl ?_
      refine c_seq ?_
      refine c_region ?_
      refine o_s (.t (.d (.lit (.int .i64 x4.2.1)))) (g0 rfl) rfl rfl rfl ?_
      refine o_s (.t (.d (.lit (.bool (x4.2.1 == 2))))) (g0 rfl) rfl rfl rfl ?_
      refine o_s (.t (.d (.lit (.bool (x4.2.1 == 2))))) (g0 rfl) rfl rfl rfl ?_
      rcases bif_some h with ⟨h7, h⟩ | ⟨h7, h⟩
      · refine o_of (e := [(26, .t ((ptT 1 x4.1)))]) (gy rfl rfl rfl h7) (h_mv (Mk.refl _) (.inl rfl) (cpO_pt rfl) rfl rfl) rfl ?_
        rcases ptM_some h with ⟨h8, h⟩ | ⟨i9, h8, h⟩
        · refine o_of (e := [(27, .t (.d (.lit (.bool true))))]) (gy rfl rfl rfl h7) (h_pn (Mk.refl _) (ng := false) rfl rfl rfl (pn_none rfl h8) rfl rfl) rfl ?_
          refine o_pk (.t (.d (.lit (.bool true)))) (b := true) h7 (g0 rfl) rfl rfl rfl rfl rfl ?_
          refine o_s (.t (.d (.lit (.bool true)))) (g0 rfl) rfl rfl rfl ?_
          refine o_nil ?_
          repeat (first | refine then_normal ?_ | refine then_exit ?_ | refine then_ret ?_ | refine block_normal ?_ | refine block_ret ?_ | refine block_exit ?_ | refine block_pass rfl ?_)
          refine c_ret ?_
          repeat (first | refine then_normal ?_ | refine then_exit ?_ | refine then_ret ?_ | refine block_normal ?_ | refine block_ret ?_ | refine block_exit ?_ | refine block_pass rfl ?_)
          obtain rfl := Option.some.inj h
          exact ⟨⟨_, rfl, (.refl _)⟩, trivial, rfl⟩
        · refine o_of (e := [(27, .t (.d (.lit (.bool false))))]) (gy rfl rfl rfl h7) (h_pn (Mk.refl _) (ng := false) rfl rfl rfl (pn_some rfl h8) rfl rfl) rfl ?_
          refine o_pk (.t (.d (.lit (.bool false)))) (b := true) h7 (g0 rfl) rfl rfl rfl rfl rfl ?_
          refine o_s (.t (.d (.lit (.bool false)))) (g0 rfl) rfl rfl rfl ?_
          refine o_nil ?_
          repeat (first | refine then_normal ?_ | refine then_exit ?_ | refine then_ret ?_ | refine block_normal ?_ | refine block_ret ?_ | refine block_exit ?_ | refine block_pass rfl ?_)
          refine c_ret ?_
          repeat (first | refine then_normal ?_ | refine then_exit ?_ | refine then_ret ?_ | refine block_normal ?_ | refine block_ret ?_ | refine block_exit ?_ | refine block_pass rfl ?_)
          obtain rfl := Option.some.inj h
          exact ⟨⟨_, rfl, (.refl _)⟩, trivial, rfl⟩
      · refine o_skip rfl rfl rfl h7 rfl rfl ?_
        refine o_skip rfl rfl rfl h7 rfl rfl ?_
        refine o_pk (.t (.d (.lit (.bool false)))) (b := false) h7 (g0 rfl) rfl rfl rfl rfl rfl ?_
        refine o_s (.t (.d (.lit (.bool false)))) (g0 rfl) rfl rfl rfl ?_
        refine o_nil ?_
        repeat (first | refine then_normal ?_ | refine then_exit ?_ | refine then_ret ?_ | refine block_normal ?_ | refine block_ret ?_ | refine block_exit ?_ | refine block_pass rfl ?_)
        refine c_ret ?_
        repeat (first | refine then_normal ?_ | refine then_exit ?_ | refine then_ret ?_ | refine block_normal ?_ | refine block_ret ?_ | refine block_exit ?_ | refine block_pass rfl ?_)
        obtain rfl := Option.some.inj h
        exact ⟨⟨_, rfl, (.refl _)⟩, trivial, rfl⟩
    · refine o_s (.t (.d (.lit (.int .i64 p0)))) (gy rfl rfl rfl h6) rfl rfl rfl ?_
      refine o_s (.t (.d (.lit (.bool (decide (p0 > 16384)))))) (gy rfl rfl rfl h6) rfl rfl rfl ?_
      refine o_pk (.t (.d (.lit (.bool (decide (p0 > 16384)))))) (b := false) h6 (g0 rfl) rfl rfl rfl rfl rfl ?_
      refine o_nil ?_
      repeat (first | refine then_normal ?_ | refine then_exit ?_ | refine then_ret ?_ | refine block_normal ?_ | refine block_ret ?_ | refine block_exit ?_ | refine block_pass rfl ?_)
      rcases bif_some h with ⟨h10, h⟩ | ⟨h10, h⟩
      · refine c_t h10 rfl ?_
        refine c_seq ?_
        refine c_region ?_
        refine o_s (.t (.d (.lit (.int .i64 x4.2.1)))) (g0 rfl) rfl rfl rfl ?_
        refine o_s (.t (.d (.lit (.bool (x4.2.1 == 2))))) (g0 rfl) rfl rfl rfl ?_
        refine o_s (.t (.d (.lit (.bool (x4.2.1 == 2))))) (g0 rfl) rfl rfl rfl ?_
        rcases bif_some h with ⟨h11, h⟩ | ⟨h11, h⟩
        · refine o_of (e := [(26, .t ((ptT 1 x4.1)))]) (gy rfl rfl rfl h11) (h_mv (Mk.refl _) (.inl rfl) (cpO_pt rfl) rfl rfl) rfl ?_
          rcases ptM_some h with ⟨h12, h⟩ | ⟨i13, h12, h⟩
          · refine o_of (e := [(27, .t (.d (.lit (.bool true))))]) (gy rfl rfl rfl h11) (h_pn (Mk.refl _) (ng := false) rfl rfl rfl (pn_none rfl h12) rfl rfl) rfl ?_
            refine o_pk (.t (.d (.lit (.bool true)))) (b := true) h11 (g0 rfl) rfl rfl rfl rfl rfl ?_
            refine o_s (.t (.d (.lit (.bool true)))) (g0 rfl) rfl rfl rfl ?_
            refine o_nil ?_
            repeat (first | refine then_normal ?_ | refine then_exit ?_ | refine then_ret ?_ | refine block_normal ?_ | refine block_ret ?_ | refine block_exit ?_ | refine block_pass rfl ?_)
            refine c_ret ?_
            repeat (first | refine then_normal ?_ | refine then_exit ?_ | refine then_ret ?_ | refine block_normal ?_ | refine block_ret ?_ | refine block_exit ?_ | refine block_pass rfl ?_)
            obtain rfl := Option.some.inj h
            exact ⟨⟨_, rfl, (.refl _)⟩, trivial, rfl⟩
          · refine o_of (e := [(27, .t (.d (.lit (.bool false))))]) (gy rfl rfl rfl h11) (h_pn (Mk.refl _) (ng := false) rfl rfl rfl (pn_some rfl h12) rfl rfl) rfl ?_
            refine o_pk (.t (.d (.lit (.bool false)))) (b := true) h11 (g0 rfl) rfl rfl rfl rfl rfl ?_
            refine o_s (.t (.d (.lit (.bool false)))) (g0 rfl) rfl rfl rfl ?_
            refine o_nil ?_
            repeat (first | refine then_normal ?_ | refine then_exit ?_ | refine then_ret ?_ | refine block_normal ?_ | refine block_ret ?_ | refine block_exit ?_ | refine block_pass rfl ?_)
            refine c_ret ?_
            repeat (first | refine then_normal ?_ | refine then_exit ?_ | refine then_ret ?_ | refine block_normal ?_ | refine block_ret ?_ | refine block_exit ?_ | refine block_pass rfl ?_)
            obtain rfl := Option.some.inj h
            exact ⟨⟨_, rfl, (.refl _)⟩, trivial, rfl⟩
        · refine o_skip rfl rfl rfl h11 rfl rfl ?_
          refine o_skip rfl rfl rfl h11 rfl rfl ?_
          refine o_pk (.t (.d (.lit (.bool false)))) (b := false) h11 (g0 rfl) rfl rfl rfl rfl rfl ?_
          refine o_s (.t (.d (.lit (.bool false)))) (g0 rfl) rfl rfl rfl ?_
          refine o_nil ?_
          repeat (first | refine then_normal ?_ | refine then_exit ?_ | refine then_ret ?_ | refine block_normal ?_ | refine block_ret ?_ | refine block_exit ?_ | refine block_pass rfl ?_)
          refine c_ret ?_
          repeat (first | refine then_normal ?_ | refine then_exit ?_ | refine then_ret ?_ | refine block_normal ?_ | refine block_ret ?_ | refine block_exit ?_ | refine block_pass rfl ?_)
          obtain rfl := Option.some.inj h
          exact ⟨⟨_, rfl, (.refl _)⟩, trivial, rfl⟩
      · refine c_f h10 rfl ?_
        refine c_skip ?_
        repeat (first | refine then_normal ?_ | refine then_exit ?_ | refine then_ret ?_ | refine block_normal ?_ | refine block_ret ?_ | refine block_exit ?_ | refine block_pass rfl ?_)
        refine c_seq ?_
        refine c_seq ?_
        refine c_region ?_
        refine o_s (.t (.d (.seq 1 (bytesD p1)))) (g0 rfl) rfl rfl rfl ?_
        refine o_c (g0 rfl) rfl rfl rfl (lenE _ _) trivial ?_
        refine o_s (.t (.d (.lit (.bool (decide ((p1.length : Int) > 3000)))))) (g0 rfl) rfl rfl rfl ?_
        refine o_nil ?_
        repeat (first | refine then_normal ?_ | refine then_exit ?_ | refine then_ret ?_ | refine block_normal ?_ | refine block_ret ?_ | refine block_exit ?_ | refine block_pass rfl ?_)
        rcases bif_some h with ⟨h14, h⟩ | ⟨h14, h⟩
        · refine c_t h14 rfl ?_
          refine c_seq ?_
          refine c_region ?_
          refine o_s (.t (.d (.lit (.int .i64 x4.2.1)))) (g0 rfl) rfl rfl rfl ?_
          refine o_s (.t (.d (.lit (.bool (x4.2.1 == 12))))) (g0 rfl) rfl rfl rfl ?_
          refine o_s (.t (.d (.lit (.bool (x4.2.1 == 12))))) (g0 rfl) rfl rfl rfl ?_
          rcases bif_some h with ⟨h15, h⟩ | ⟨h15, h⟩
          · refine o_of (e := [(35, .t ((ptT 1 x4.1)))]) (gy rfl rfl rfl h15) (h_mv (Mk.refl _) (.inl rfl) (cpO_pt rfl) rfl rfl) rfl ?_
            rcases ptM_some h with ⟨h16, h⟩ | ⟨i17, h16, h⟩
            · refine o_of (e := [(36, .t (.d (.lit (.bool true))))]) (gy rfl rfl rfl h15) (h_pn (Mk.refl _) (ng := false) rfl rfl rfl (pn_none rfl h16) rfl rfl) rfl ?_
              refine o_pk (.t (.d (.lit (.bool true)))) (b := true) h15 (g0 rfl) rfl rfl rfl rfl rfl ?_
              refine o_s (.t (.d (.lit (.bool true)))) (g0 rfl) rfl rfl rfl ?_
              refine o_nil ?_
              repeat (first | refine then_normal ?_ | refine then_exit ?_ | refine then_ret ?_ | refine block_normal ?_ | refine block_ret ?_ | refine block_exit ?_ | refine block_pass rfl ?_)
              refine c_ret ?_
              repeat (first | refine then_normal ?_ | refine then_exit ?_ | refine then_ret ?_ | refine block_normal ?_ | refine block_ret ?_ | refine block_exit ?_ | refine block_pass rfl ?_)
              obtain rfl := Option.some.inj h
              exact ⟨⟨_, rfl, (.refl _)⟩, trivial, rfl⟩
            · refine o_of (e := [(36, .t (.d (.lit (.bool false))))]) (gy rfl rfl rfl h15) (h_pn (Mk.refl _) (ng := false) rfl rfl rfl (pn_some rfl h16) rfl rfl) rfl ?_
              refine o_pk (.t (.d (.lit (.bool false)))) (b := true) h15 (g0 rfl) rfl rfl rfl rfl rfl ?_
              refine o_s (.t (.d (.lit (.bool false)))) (g0 rfl) rfl rfl rfl ?_
              refine o_nil ?_
              repeat (first | refine then_normal ?_ | refine then_exit ?_ | refine then_ret ?_ | refine block_normal ?_ | refine block_ret ?_ | refine block_exit ?_ | refine block_pass rfl ?_)
              refine c_ret ?_
              repeat (first | refine then_normal ?_ | refine then_exit ?_ | refine then_ret ?_ | refine block_normal ?_ | refine block_ret ?_ | refine block_exit ?_ | refine block_pass rfl ?_)
              obtain rfl := Option.some.inj h
              exact ⟨⟨_, rfl, (.refl _)⟩, trivial, rfl⟩
          · refine o_skip rfl rfl rfl h15 rfl rfl ?_
            refine o_skip rfl rfl rfl h15 rfl rfl ?_
            refine o_pk (.t (.d (.lit (.bool false)))) (b := false) h15 (g0 rfl) rfl rfl rfl rfl rfl ?_
            refine o_s (.t (.d (.lit (.bool false)))) (g0 rfl) rfl rfl rfl ?_
            refine o_nil ?_
            repeat (first | refine then_normal ?_ | refine then_exit ?_ | refine then_ret ?_ | refine block_normal ?_ | refine block_ret ?_ | refine block_exit ?_ | refine block_pass rfl ?_)
            refine c_ret ?_
            repeat (first | refine then_normal ?_ | refine then_exit ?_ | refine then_ret ?_ | refine block_normal ?_ | refine block_ret ?_ | refine block_exit ?_ | refine block_pass rfl ?_)
            obtain rfl := Option.some.inj h
            exact ⟨⟨_, rfl, (.refl _)⟩, trivial, rfl⟩
        · refine c_f h14 rfl ?_
          refine c_skip ?_
          repeat (first | refine then_normal ?_ | refine then_exit ?_ | refine then_ret ?_ | refine block_normal ?_ | refine block_ret ?_ | refine block_exit ?_ | refine block_pass rfl ?_)
          refine c_seq ?_
          refine c_region ?_
          refine o_s (.t (.d (.lit (.int .i64 p0)))) (g0 rfl) rfl rfl rfl ?_
          refine o_s (.t (.d (.seq 1 (bytesD p1)))) (g0 rfl) rfl rfl rfl ?_
          obtain ⟨x18, h19, h⟩ := bind_some h
          refine o_of (e := [(HK, .hp (hpA x4.2.2)), (41, .tup [.d (.seq 1 (List.map cBool x18.1)), .d (.lit (.int .i64 x18.2))])]) (g0 rfl) (h_call (Mk.refl _) rfl (σ := []) (fr := []) rfl rfl rfl rfl rfl rfl rfl (fch_R19_Read _ _ x4.2.2 _ h19) (pure_hpA _) (pure_hpA _) rfl rfl rfl rfl (.cons (.plain (.refl _) rfl) (.cons (.plain (.refl _) rfl) .nil)) rfl (.tup (.cons (.flat rfl) (.cons (.flat rfl) .nil)))) rfl ?_
          refine o_s (.tup [.d (.seq 1 (List.map cBool x18.1)), .d (.lit (.int .i64 x18.2))]) (g0 rfl) rfl rfl rfl ?_
          refine o_s (.t (.d (.seq 1 (List.map cBool x18.1)))) (g0 rfl) rfl rfl rfl ?_
          refine o_s (.t (.d (.lit (.int .i64 x18.2)))) (g0 rfl) rfl rfl rfl ?_
          refine o_s (.t (.d (.seq 1 (List.map cBool x18.1)))) (g0 rfl) rfl rfl rfl ?_
          refine o_s (.t (.d (.lit (.int .i64 x18.2)))) (g0 rfl) rfl rfl rfl ?_
          refine o_nil ?_
          repeat (first | refine then_normal ?_ | refine then_exit ?_ | refine then_ret ?_ | refine block_normal ?_ | refine block_ret ?_ | refine block_exit ?_ | refine block_pass rfl ?_)
          refine c_cutH (fun (_ : Unit) => [(0, .t (.d (.lit (.int .i64 p0)))), (1, .t (.d (.seq 1 (bytesD p1)))), (5, .t ((ptT 1 x4.1))), (7, .t (.d (.seq 1 (List.map cBool x18.1)))), (8, .t (.d (.lit (.int .i64 x18.2)))), (HK, .hp (hpA x4.2.2))]) (fun (_ : Unit) => m_L19_SpaceBytes_j1 x18 x4 p1 p0 = some r) ?_ ?_
          · refine c_seq ?_
            refine c_region ?_
            refine o_s (.t (.d (.lit (.int .i64 x4.2.1)))) (g0 rfl) rfl rfl rfl ?_
            refine o_s (.t (.d (.lit (.int .i64 x18.2)))) (g0 rfl) rfl rfl rfl ?_
            refine o_s (.t (.d (.lit (.bool (x4.2.1 != x18.2))))) (g0 rfl) rfl rfl rfl ?_
            refine o_s (.t (.d (.lit (.bool (x4.2.1 != x18.2))))) (g0 rfl) rfl rfl rfl ?_
            rcases bif_some h with ⟨h29, h⟩ | ⟨h29, h⟩
            · refine o_skip rfl rfl rfl h29 rfl rfl ?_
              refine o_skip rfl rfl rfl h29 rfl rfl ?_
              refine o_skip rfl rfl rfl h29 rfl rfl ?_
              refine o_skip rfl rfl rfl h29 rfl rfl ?_
              refine o_skip rfl rfl rfl h29 rfl rfl ?_
              refine o_pk (.t (.d (.lit (.bool true)))) (b := true) h29 (g0 rfl) rfl rfl rfl rfl rfl ?_
              refine o_nil ?_
              repeat (first | refine then_normal ?_ | refine then_exit ?_ | refine then_ret ?_ | refine block_normal ?_ | refine block_ret ?_ | refine block_exit ?_ | refine block_pass rfl ?_)
              refine c_t rfl rfl ?_
              refine c_seq ?_
              refine c_region ?_
              refine o_s (.t (.d (.lit (.bool false)))) (g0 rfl) rfl rfl rfl ?_
              refine o_nil ?_
              repeat (first | refine then_normal ?_ | refine then_exit ?_ | refine then_ret ?_ | refine block_normal ?_ | refine block_ret ?_ | refine block_exit ?_ | refine block_pass rfl ?_)
              refine c_ret ?_
              repeat (first | refine then_normal ?_ | refine then_exit ?_ | refine then_ret ?_ | refine block_normal ?_ | refine block_ret ?_ | refine block_exit ?_ | refine block_pass rfl ?_)
              obtain rfl := Option.some.inj h
              exact ⟨⟨_, rfl, (.refl _)⟩, trivial, rfl⟩
            · refine o_of (e := [(48, .t ((ptT 1 x4.1)))]) (gy rfl rfl rfl h29) (h_mv (Mk.refl _) (.inl rfl) (cpO_pt rfl) rfl rfl) rfl ?_
              rcases ptM_some h with ⟨h30, h⟩ | ⟨i31, h30, h⟩
              · refine o_of (e := [(49, .t (.d (.lit (.bool true))))]) (gy rfl rfl rfl h29) (h_pn (Mk.refl _) (ng := false) rfl rfl rfl (pn_none rfl h30) rfl rfl) rfl ?_
                refine o_s (.t (.d (.lit (.int .i64 x18.2)))) (gy rfl rfl rfl h29) rfl rfl rfl ?_
                refine o_s (.t (.d (.lit (.bool (x18.2 != 0))))) (gy rfl rfl rfl h29) rfl rfl rfl ?_
                refine o_s (.t (.d (.lit (.bool (!(true == (x18.2 != 0))))))) (gy rfl rfl rfl h29) rfl rfl rfl ?_
                refine o_pk (.t (.d (.lit (.bool (!(true == (x18.2 != 0))))))) (b := false) h29 (g0 rfl) rfl rfl rfl rfl rfl ?_
                refine o_nil ?_
                repeat (first | refine then_normal ?_ | refine then_exit ?_ | refine then_ret ?_ | refine block_normal ?_ | refine block_ret ?_ | refine block_exit ?_ | refine block_pass rfl ?_)
                rcases bif_some h with ⟨h32, h⟩ | ⟨h32, h⟩
                · refine c_t h32 rfl ?_
                  refine c_seq ?_
                  refine c_region ?_
                  refine o_s (.t (.d (.lit (.bool false)))) (g0 rfl) rfl rfl rfl ?_
                  refine o_nil ?_
                  repeat (first | refine then_normal ?_ | refine then_exit ?_ | refine then_ret ?_ | refine block_normal ?_ | refine block_ret ?_ | refine block_exit ?_ | refine block_pass rfl ?_)
                  refine c_ret ?_
                  repeat (first | refine then_normal ?_ | refine then_exit ?_ | refine then_ret ?_ | refine block_normal ?_ | refine block_ret ?_ | refine block_exit ?_ | refine block_pass rfl ?_)
                  obtain rfl := Option.some.inj h
                  exact ⟨⟨_, rfl, (.refl _)⟩, trivial, rfl⟩
                · refine c_f h32 rfl ?_
                  refine c_skip ?_
                  repeat (first | refine then_normal ?_ | refine then_exit ?_ | refine then_ret ?_ | refine block_normal ?_ | refine block_ret ?_ | refine block_exit ?_ | refine block_pass rfl ?_)
                  exact ⟨(), [], h, rfl, ⟨.inr ⟨_, rfl, pure_hpA _⟩, by (repeat (first | exact ObP.nil | refine ObP.cons (.inl rfl) ?_ | refine ObP.cons (.inr (fun _ => rfl)) ?_ | refine ObP.cons (.inr (ob_box (fl_noPt _ _))) ?_ | refine ObP.cons (.inr (ob_gb _ _)) ?_))⟩, ⟨(.refl _), ⟨(.refl _), ⟨(.refl _), ⟨(.refl _), ⟨(.refl _), ⟨(.refl _), trivial⟩⟩⟩⟩⟩⟩, rfl⟩
              · refine o_of (e := [(49, .t (.d (.lit (.bool false))))]) (gy rfl rfl rfl h29) (h_pn (Mk.refl _) (ng := false) rfl rfl rfl (pn_some rfl h30) rfl rfl) rfl ?_
                refine o_s (.t (.d (.lit (.int .i64 x18.2)))) (gy rfl rfl rfl h29) rfl rfl rfl ?_
                refine o_s (.t (.d (.lit (.bool (x18.2 != 0))))) (gy rfl rfl rfl h29) rfl rfl rfl ?_
                refine o_s (.t (.d (.lit (.bool (!(false == (x18.2 != 0))))))) (gy rfl rfl rfl h29) rfl rfl rfl ?_
                refine o_pk (.t (.d (.lit (.bool (!(false == (x18.2 != 0))))))) (b := false) h29 (g0 rfl) rfl rfl rfl rfl rfl ?_
                refine o_nil ?_
                repeat (first | refine then_normal ?_ | refine then_exit ?_ | refine then_ret ?_ | refine block_normal ?_ | refine block_ret ?_ | refine block_exit ?_ | refine block_pass rfl ?_)
                rcases bif_some h with ⟨h33, h⟩ | ⟨h33, h⟩
                · refine c_t h33 rfl ?_
                  refine c_seq ?_
                  refine c_region ?_
                  refine o_s (.t (.d (.lit (.bool false)))) (g0 rfl) rfl rfl rfl ?_
                  refine o_nil ?_
                  repeat (first | refine then_normal ?_ | refine then_exit ?_ | refine then_ret ?_ | refine block_normal ?_ | refine block_ret ?_ | refine block_exit ?_ | refine block_pass rfl ?_)
                  refine c_ret ?_
                  repeat (first | refine then_normal ?_ | refine then_exit ?_ | refine then_ret ?_ | refine block_normal ?_ | refine block_ret ?_ | refine block_exit ?_ | refine block_pass rfl ?_)
                  obtain rfl := Option.some.inj h
                  exact ⟨⟨_, rfl, (.refl _)⟩, trivial, rfl⟩
                · refine c_f h33 rfl ?_
                  refine c_skip ?_
                  repeat (first | refine then_normal ?_ | refine then_exit ?_ | refine then_ret ?_ | refine block_normal ?_ | refine block_ret ?_ | refine block_exit ?_ | refine block_pass rfl ?_)
                  exact ⟨(), [], h, rfl, ⟨.inr ⟨_, rfl, pure_hpA _⟩, by (repeat (first | exact ObP.nil | refine ObP.cons (.inl rfl) ?_ | refine ObP.cons (.inr (fun _ => rfl)) ?_ | refine ObP.cons (.inr (ob_box (fl_noPt _ _))) ?_ | refine ObP.cons (.inr (ob_gb _ _)) ?_))⟩, ⟨(.refl _), ⟨(.refl _), ⟨(.refl _), ⟨(.refl _), ⟨(.refl _), ⟨(.refl _), trivial⟩⟩⟩⟩⟩⟩, rfl⟩
          · rintro ⟨⟩ h
            refine c_seq ?_
            refine c_seq ?_
            refine c_region ?_
            refine o_s (.t (.d (.lit (.int .i64 x18.2)))) (g0 rfl) rfl rfl rfl ?_
            refine o_s (.t (.d (.lit (.bool (x18.2 != 0))))) (g0 rfl) rfl rfl rfl ?_
            refine o_nil ?_
            repeat (first | refine then_normal ?_ | refine then_exit ?_ | refine then_ret ?_ | refine block_normal ?_ | refine block_ret ?_ | refine block_exit ?_ | refine block_pass rfl ?_)
            rcases bif_some h with ⟨h20, h⟩ | ⟨h20, h⟩
            · refine c_t h20 rfl ?_
              refine c_seq ?_
              refine c_region ?_
              refine o_s (.t (.d (.lit (.bool true)))) (g0 rfl) rfl rfl rfl ?_
              refine o_nil ?_
              repeat (first | refine then_normal ?_ | refine then_exit ?_ | refine then_ret ?_ | refine block_normal ?_ | refine block_ret ?_ | refine block_exit ?_ | refine block_pass rfl ?_)
              refine c_ret ?_
              repeat (first | refine then_normal ?_ | refine then_exit ?_ | refine then_ret ?_ | refine block_normal ?_ | refine block_ret ?_ | refine block_exit ?_ | refine block_pass rfl ?_)
              obtain rfl := Option.some.inj h
              exact ⟨⟨_, rfl, (.refl _)⟩, trivial, rfl⟩
            · refine c_f h20 rfl ?_
              refine c_skip ?_
              repeat (first | refine then_normal ?_ | refine then_exit ?_ | refine then_ret ?_ | refine block_normal ?_ | refine block_ret ?_ | refine block_exit ?_ | refine block_pass rfl ?_)
              refine c_seq ?_
              refine c_region ?_
              refine o_of (e := [(56, .t ((ptT 1 x4.1)))]) (g0 rfl) (h_mv (Mk.refl _) (.inl rfl) (cpO_pt rfl) rfl rfl) rfl ?_
              obtain ⟨x21, h22, h⟩ := bind_some h
              refine o_of (e := [(HK, .hp (hpA x21.2)), (57, .t (.d (.seq 1 (bytesD x21.1))))]) (g0 rfl) (h_call (Mk.refl _) rfl (σ := []) (fr := []) rfl rfl rfl rfl rfl rfl rfl (fch_space_Space_Bytes _ x4.2.2 _ h22) (pure_hpA _) (pure_hpA _) rfl rfl rfl rfl (.cons (argPt rfl) .nil) rfl (.t (.flat rfl))) rfl ?_
              refine o_s (.t (.d (.seq 1 (bytesD p1)))) (g0 rfl) rfl rfl rfl ?_
              obtain ⟨x23, h24, h⟩ := bind_some h
              refine o_ca (fc_R01_Same _ _ _ h24) (g0 rfl) rfl rfl rfl rfl rfl rfl rfl (.cons (.refl _) (.cons (.refl _) .nil)) rfl rfl ?_
              refine o_s (.t (.d (.lit (.bool x23)))) (g0 rfl) rfl rfl rfl ?_
              rcases bif_some h with ⟨h25, h⟩ | ⟨h25, h⟩
              · refine o_s (.t (.d (.lit (.int .i64 p0)))) (gy rfl rfl rfl h25) rfl rfl rfl ?_
                refine o_s (.t (.d (.lit (.bool (decide (p0 > 300)))))) (gy rfl rfl rfl h25) rfl rfl rfl ?_
                refine o_s (.t (.d (.lit (.bool (decide (p0 > 300)))))) (gy rfl rfl rfl h25) rfl rfl rfl ?_
                rcases bif_some h with ⟨h26, h⟩ | ⟨h26, h⟩
                · refine o_skip rfl rfl rfl h26 rfl rfl ?_
                  refine o_skip rfl rfl rfl h26 rfl rfl ?_
                  refine o_skip rfl rfl rfl h26 rfl rfl ?_
                  refine o_pk (.t (.d (.lit (.bool true)))) (b := true) h26 (gy rfl rfl rfl h25) rfl rfl rfl rfl rfl ?_
                  refine o_pk (.t (.d (.lit (.bool true)))) (b := true) h25 (g0 rfl) rfl rfl rfl rfl rfl ?_
                  refine o_s (.t (.d (.lit (.bool true)))) (g0 rfl) rfl rfl rfl ?_
                  refine o_nil ?_
                  repeat (first | refine then_normal ?_ | refine then_exit ?_ | refine then_ret ?_ | refine block_normal ?_ | refine block_ret ?_ | refine block_exit ?_ | refine block_pass rfl ?_)
                  refine c_ret ?_
                  repeat (first | refine then_normal ?_ | refine then_exit ?_ | refine then_ret ?_ | refine block_normal ?_ | refine block_ret ?_ | refine block_exit ?_ | refine block_pass rfl ?_)
                  obtain rfl := Option.some.inj h
                  exact ⟨⟨_, rfl, (.refl _)⟩, trivial, rfl⟩
                · refine o_of (e := [(64, .t ((ptT 1 x4.1)))]) (gy rfl rfl rfl h26) (h_mv (Mk.refl _) (.inl rfl) (cpO_pt rfl) rfl rfl) rfl ?_
                  refine o_s (.t (.d (.seq 1 (List.map cBool x18.1)))) (gy rfl rfl rfl h26) rfl rfl rfl ?_
                  obtain ⟨x27, h28, h⟩ := bind_some h
                  refine o_of (e := [(HK, .hp (hpA x27.2)), (66, .t (.d (.lit (.bool x27.1))))]) (gy rfl rfl rfl h26) (h_call (Mk.refl _) rfl (σ := []) (fr := []) rfl rfl rfl rfl rfl rfl rfl (fch_L19_whole _ _ x21.2 _ h28) (pure_hpA _) (pure_hpA _) rfl rfl rfl rfl (.cons (argPt rfl) (.cons (.plain (.refl _) rfl) .nil)) rfl (.t (.flat rfl))) rfl ?_
                  refine o_pk (.t (.d (.lit (.bool x27.1)))) (b := false) h26 (gy rfl rfl rfl h25) rfl rfl rfl rfl rfl ?_
                  refine o_pk (.t (.d (.lit (.bool x27.1)))) (b := true) h25 (g0 rfl) rfl rfl rfl rfl rfl ?_
                  refine o_s (.t (.d (.lit (.bool x27.1)))) (g0 rfl) rfl rfl rfl ?_
                  refine o_nil ?_
                  repeat (first | refine then_normal ?_ | refine then_exit ?_ | refine then_ret ?_ | refine block_normal ?_ | refine block_ret ?_ | refine block_exit ?_ | refine block_pass rfl ?_)
                  refine c_ret ?_
                  repeat (first | refine then_normal ?_ | refine then_exit ?_ | refine then_ret ?_ | refine block_normal ?_ | refine block_ret ?_ | refine block_exit ?_ | refine block_pass rfl ?_)
                  obtain rfl := Option.some.inj h
                  exact ⟨⟨_, rfl, (.refl _)⟩, trivial, rfl⟩
              · refine o_skip rfl rfl rfl h25 rfl rfl ?_
                refine o_skip rfl rfl rfl h25 rfl rfl ?_
                refine o_skip rfl rfl rfl h25 rfl rfl ?_
                refine o_un rfl rfl rfl rfl rfl ?_
                refine o_un rfl rfl rfl rfl rfl ?_
                refine o_un rfl rfl rfl rfl rfl ?_
                refine o_skip rfl rfl rfl h25 rfl rfl ?_
                refine o_pk (.t (.d (.lit (.bool false)))) (b := false) h25 (g0 rfl) rfl rfl rfl rfl rfl ?_
                refine o_s (.t (.d (.lit (.bool false)))) (g0 rfl) rfl rfl rfl ?_
                refine o_nil ?_
                repeat (first | refine then_normal ?_ | refine then_exit ?_ | refine then_ret ?_ | refine block_normal ?_ | refine block_ret ?_ | refine block_exit ?_ | refine block_pass rfl ?_)
                refine c_ret ?_
                repeat (first | refine then_normal ?_ | refine then_exit ?_ | refine then_ret ?_ | refine block_normal ?_ | refine block_ret ?_ | refine block_exit ?_ | refine block_pass rfl ?_)
                obtain rfl := Option.some.inj h
                exact ⟨⟨_, rfl, (.refl _)⟩, trivial, rfl⟩

end Go.Proofs.YtimdogdplphmoaaDoor
