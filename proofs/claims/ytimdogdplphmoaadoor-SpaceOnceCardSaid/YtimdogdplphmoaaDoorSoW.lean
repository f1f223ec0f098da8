/-
  Walks of functions: each function does what its model tells. Printed by a program of this claim's own (gen.py) off the given translation.
-/
import Derived.Test.YtimdogdplphmoaaDoorSoM
import Derived.Test.YtimdogdplphmoaaDoorTop
import Derived.Test.YtimdogdplphmoaaDoorMap
namespace Go.Proofs.YtimdogdplphmoaaDoor
open Go Go.RowKit
set_option linter.unusedVariables false
set_option maxHeartbeats 4000000
set_option maxRecDepth 20000
theorem fch_L19_SpaceOnce (p0 : UInt8) (p1 : (List S_L19_Do)) (w0 : Hp) (r : (Bool × Hp)) (h : m_L19_SpaceOnce p0 p1 w0 = some r) : FCH Tryd.prog 4 [.t (.d (.lit (.int .u8 (p0.toNat : Int)))), .t (.d (.seq 3 (List.map cS_L19_Do p1)))] [] [] (hpA w0) (hpA r.2) (.t (.d (.lit (.bool r.1)))) := by
  refine fch_mk (rs := [.tmp 4]) (n := 215) [0, 1] Tryd.func4 rfl rfl (Nat.le_of_ble_eq_true rfl) rfl (pins := []) rfl (L := [(HK, .hp (hpA w0)), (OB + 0, .free), (OB + 1, .free), (0, .t (.d (.lit (.int .u8 (p0.toNat : Int))))), (1, .t (.d (.seq 3 (List.map cS_L19_Do p1))))]) rfl ?_
  refine c_seq ?_
  refine c_region ?_
  refine o_s (.t (.d (.lit (.bool false)))) (g0 rfl) rfl rfl rfl ?_
  refine o_nil ?_
  repeat (first | refine then_normal ?_ | refine then_exit ?_ | refine then_ret ?_ | refine block_normal ?_ | refine block_ret ?_ | refine block_exit ?_ | refine block_pass rfl ?_)
  refine c_seq ?_
  refine c_seq ?_
  refine c_region ?_
  obtain ⟨x1, h2, h⟩ := bind_some h
  refine o_of (e := [(HK, .hp (hpA x1.2)), (23, .t (.d (.lit (.bool x1.1))))]) (g0 rfl) (h_call (Mk.refl _) rfl (σ := []) (fr := []) rfl rfl rfl rfl rfl rfl rfl (fch_L19_awake w0 _ h2) (pure_hpA _) (pure_hpA _) rfl rfl rfl rfl .nil rfl (.t (.flat rfl))) rfl ?_
  refine o_s (.t (.d (.lit (.bool (!x1.1))))) (g0 rfl) rfl rfl rfl ?_
  refine o_nil ?_
  repeat (first | refine then_normal ?_ | refine then_exit ?_ | refine then_ret ?_ | refine block_normal ?_ | refine block_ret ?_ | refine block_exit ?_ | refine block_pass rfl ?_)
  rcases bif_some h with ⟨h3, h⟩ | ⟨h3, h⟩
  · refine c_t h3 rfl ?_
    refine c_seq ?_
    refine c_region ?_
    refine o_s (.t (.d (.lit (.bool false)))) (g0 rfl) rfl rfl rfl ?_
    refine o_nil ?_
    repeat (first | refine then_normal ?_ | refine then_exit ?_ | refine then_ret ?_ | refine block_normal ?_ | refine block_ret ?_ | refine block_exit ?_ | refine block_pass rfl ?_)
    refine c_ret ?_
    repeat (first | refine then_normal ?_ | refine then_exit ?_ | refine then_ret ?_ | refine block_normal ?_ | refine block_ret ?_ | refine block_exit ?_ | refine block_pass rfl ?_)
    obtain rfl := Option.some.inj h
    exact ⟨⟨_, rfl, (.refl _)⟩, trivial, rfl⟩
  · refine c_f h3 rfl ?_
    refine c_skip ?_
    repeat (first | refine then_normal ?_ | refine then_exit ?_ | refine then_ret ?_ | refine block_normal ?_ | refine block_ret ?_ | refine block_exit ?_ | refine block_pass rfl ?_)
    refine c_seq ?_
    refine c_region ?_
    refine o_of (e := [(5, .t (.d (.lit (.pointer none))))]) (g0 rfl) (h_mv (Mk.refl _) (.inr rfl) rfl rfl rfl) rfl ?_
    refine o_nil ?_
    repeat (first | refine then_normal ?_ | refine then_exit ?_ | refine then_ret ?_ | refine block_normal ?_ | refine block_ret ?_ | refine block_exit ?_ | refine block_pass rfl ?_)
    refine c_seq ?_
    refine c_seq ?_
    refine c_region ?_
    refine o_of (e := [(26, .t (.d (.lit (.pointer none))))]) (g0 rfl) (h_mv (Mk.refl _) (.inl rfl) rfl rfl rfl) rfl ?_
    obtain ⟨x4, h5, h⟩ := bind_some h
    refine o_of (e := [(HK, .hp (hpA x4.2.2)), (27, .tup [.d (.seq 1 (List.map cI64 x4.1)), .d (.lit (.int .i64 x4.2.1))])]) (g0 rfl) (h_call (Mk.refl _) rfl (σ := []) (fr := []) rfl rfl rfl rfl rfl rfl rfl (fch_space_Space_Take _ _ x1.2 _ h5) (pure_hpA _) (pure_hpA _) rfl rfl rfl rfl (.cons (.plain (.refl _) rfl) (.cons (.plain (.refl _) rfl) .nil)) rfl (.tup (.cons (.flat rfl) (.cons (.flat rfl) .nil)))) rfl ?_
    refine o_s (.tup [.d (.seq 1 (List.map cI64 x4.1)), .d (.lit (.int .i64 x4.2.1))]) (g0 rfl) rfl rfl rfl ?_
    refine o_s (.t (.d (.seq 1 (List.map cI64 x4.1)))) (g0 rfl) rfl rfl rfl ?_
    refine o_s (.t (.d (.lit (.int .i64 x4.2.1)))) (g0 rfl) rfl rfl rfl ?_
    refine o_s (.t (.d (.seq 1 (List.map cI64 x4.1)))) (g0 rfl) rfl rfl rfl ?_
    refine o_s (.t (.d (.lit (.int .i64 x4.2.1)))) (g0 rfl) rfl rfl rfl ?_
    refine o_nil ?_
    repeat (first | refine then_normal ?_ | refine then_exit ?_ | refine then_ret ?_ | refine block_normal ?_ | refine block_ret ?_ | refine block_exit ?_ | refine block_pass rfl ?_)
    refine c_seq ?_
    refine c_region ?_
    refine o_s (.t (.d (.lit (.int .i64 x4.2.1)))) (g0 rfl) rfl rfl rfl ?_
    refine o_s (.t (.d (.lit (.bool (x4.2.1 != 1))))) (g0 rfl) rfl rfl rfl ?_
    refine o_s (.t (.d (.lit (.bool (x4.2.1 != 1))))) (g0 rfl) rfl rfl rfl ?_
    rcases bif_some h with ⟨h6, h⟩ | ⟨h6, h⟩
    · refine o_skip rfl rfl rfl h6 rfl rfl ?_
      refine o_skip rfl rfl rfl h6 rfl rfl ?_
      refine o_skip rfl rfl rfl h6 rfl rfl ?_
      refine o_pk (.t (.d (.lit (.bool true)))) (b := true) h6 (g0 rfl) rfl rfl rfl rfl rfl ?_
      refine o_s (.t (.d (.lit (.bool true)))) (g0 rfl) rfl rfl rfl ?_
      refine o_skip rfl rfl rfl rfl rfl rfl ?_
      refine o_skip rfl rfl rfl rfl rfl rfl ?_
      refine o_skip rfl rfl rfl rfl rfl rfl ?_
      refine o_pk (.t (.d (.lit (.bool true)))) (b := true) rfl (g0 rfl) rfl rfl rfl rfl rfl ?_
      refine o_s (.t (.d (.lit (.bool true)))) (g0 rfl) rfl rfl rfl ?_
      refine o_skip rfl rfl rfl rfl rfl rfl ?_
      refine o_skip rfl rfl rfl rfl rfl rfl ?_
      refine o_skip rfl rfl rfl rfl rfl rfl ?_
      refine o_pk (.t (.d (.lit (.bool true)))) (b := true) rfl (g0 rfl) rfl rfl rfl rfl rfl ?_
      refine o_s (.t (.d (.lit (.bool true)))) (g0 rfl) rfl rfl rfl ?_
      refine o_skip rfl rfl rfl rfl rfl rfl ?_
      refine o_skip rfl rfl rfl rfl rfl rfl ?_
      refine o_skip rfl rfl rfl rfl rfl rfl ?_
      refine o_skip rfl rfl rfl rfl rfl rfl ?_
      refine o_skip rfl rfl rfl rfl rfl rfl ?_
      refine o_skip rfl rfl rfl rfl rfl rfl ?_
      refine o_skip rfl rfl rfl rfl rfl rfl ?_
      refine o_skip rfl rfl rfl rfl rfl rfl ?_
      refine o_skip rfl rfl rfl rfl rfl rfl ?_
      refine o_skip rfl rfl rfl rfl rfl rfl ?_
      refine o_skip rfl rfl rfl rfl rfl rfl ?_
      refine o_pk (.t (.d (.lit (.bool true)))) (b := true) rfl (g0 rfl) rfl rfl rfl rfl rfl ?_
      refine o_s (.t (.d (.lit (.bool true)))) (g0 rfl) rfl rfl rfl ?_
      refine o_skip rfl rfl rfl rfl rfl rfl ?_
      refine o_skip rfl rfl rfl rfl rfl rfl ?_
      refine o_pk (.t (.d (.lit (.bool true)))) (b := true) rfl (g0 rfl) rfl rfl rfl rfl rfl ?_
      refine o_nil ?_
      repeat (first | refine then_normal ?_ | refine then_exit ?_ | refine then_ret ?_ | refine block_normal ?_ | refine block_ret ?_ | refine block_exit ?_ | refine block_pass rfl ?_)
      refine c_t rfl rfl ?_
      refine c_seq ?_
      refine c_region ?_
      refine o_s (.t (.d (.lit (.bool false)))) (g0 rfl) rfl rfl rfl ?_
      refine o_nil ?_
      repeat (first | refine then_normal ?_ | refine then_exit ?_ | refine then_ret ?_ | refine block_normal ?_ | refine block_ret ?_ | refine block_exit ?_ | refine block_pass rfl ?_)
      refine c_ret ?_
      repeat (first | refine then_normal ?_ | refine then_exit ?_ | refine then_ret ?_ | refine block_normal ?_ | refine block_ret ?_ | refine block_exit ?_ | refine block_pass rfl ?_)
      obtain rfl := Option.some.inj h
      exact ⟨⟨_, rfl, (.refl _)⟩, trivial, rfl⟩
    · refine o_of (e := [(33, .t (.d (.lit (.pointer none))))]) (gy rfl rfl rfl h6) (h_mv (Mk.refl _) (.inl rfl) rfl rfl rfl) rfl ?_
      obtain ⟨x7, h8, h⟩ := bind_some h
      refine o_of (e := [(HK, .hp (hpA x7.2)), (34, .t (.d (.lit (.int .i64 x7.1))))]) (gy rfl rfl rfl h6) (h_call (Mk.refl _) rfl (σ := []) (fr := []) rfl rfl rfl rfl rfl rfl rfl (fch_space_Space_Claim _ _ x4.2.2 _ h8) (pure_hpA _) (pure_hpA _) rfl rfl rfl rfl (.cons (.plain (.refl _) rfl) (.cons (.plain (.t (.d (.nil _))) rfl) .nil)) rfl (.t (.flat rfl))) rfl ?_
      refine o_s (.t (.d (.lit (.bool (x7.1 != 1))))) (gy rfl rfl rfl h6) rfl rfl rfl ?_
      refine o_pk (.t (.d (.lit (.bool (x7.1 != 1))))) (b := false) h6 (g0 rfl) rfl rfl rfl rfl rfl ?_
      refine o_s (.t (.d (.lit (.bool (x7.1 != 1))))) (g0 rfl) rfl rfl rfl ?_
      rcases bif_some h with ⟨h9, h⟩ | ⟨h9, h⟩
      · refine o_skip rfl rfl rfl h9 rfl rfl ?_
        refine o_skip rfl rfl rfl h9 rfl rfl ?_
        refine o_skip rfl rfl rfl h9 rfl rfl ?_
        refine o_pk (.t (.d (.lit (.bool true)))) (b := true) h9 (g0 rfl) rfl rfl rfl rfl rfl ?_
        refine o_s (.t (.d (.lit (.bool true)))) (g0 rfl) rfl rfl rfl ?_
        refine o_skip rfl rfl rfl rfl rfl rfl ?_
        refine o_skip rfl rfl rfl rfl rfl rfl ?_
        refine o_skip rfl rfl rfl rfl rfl rfl ?_
        refine o_pk (.t (.d (.lit (.bool true)))) (b := true) rfl (g0 rfl) rfl rfl rfl rfl rfl ?_
        refine o_s (.t (.d (.lit (.bool true)))) (g0 rfl) rfl rfl rfl ?_
        refine o_skip rfl rfl rfl rfl rfl rfl ?_
        refine o_skip rfl rfl rfl rfl rfl rfl ?_
        refine o_skip rfl rfl rfl rfl rfl rfl ?_
        refine o_skip rfl rfl rfl rfl rfl rfl ?_
        refine o_skip rfl rfl rfl rfl rfl rfl ?_
        refine o_skip rfl rfl rfl rfl rfl rfl ?_
        refine o_skip rfl rfl rfl rfl rfl rfl ?_
        refine o_skip rfl rfl rfl rfl rfl rfl ?_
        refine o_skip rfl rfl rfl rfl rfl rfl ?_
        refine o_skip rfl rfl rfl rfl rfl rfl ?_
        refine o_skip rfl rfl rfl rfl rfl rfl ?_
        refine o_pk (.t (.d (.lit (.bool true)))) (b := true) rfl (g0 rfl) rfl rfl rfl rfl rfl ?_
        refine o_s (.t (.d (.lit (.bool true)))) (g0 rfl) rfl rfl rfl ?_
        refine o_skip rfl rfl rfl rfl rfl rfl ?_
        refine o_skip rfl rfl rfl rfl rfl rfl ?_
        refine o_pk (.t (.d (.lit (.bool true)))) (b := true) rfl (g0 rfl) rfl rfl rfl rfl rfl ?_
        refine o_nil ?_
        repeat (first | refine then_normal ?_ | refine then_exit ?_ | refine then_ret ?_ | refine block_normal ?_ | refine block_ret ?_ | refine block_exit ?_ | refine block_pass rfl ?_)
        refine c_t rfl rfl ?_
        refine c_seq ?_
        refine c_region ?_
        refine o_s (.t (.d (.lit (.bool false)))) (g0 rfl) rfl rfl rfl ?_
        refine o_nil ?_
        repeat (first | refine then_normal ?_ | refine then_exit ?_ | refine then_ret ?_ | refine block_normal ?_ | refine block_ret ?_ | refine block_exit ?_ | refine block_pass rfl ?_)
        refine c_ret ?_
        repeat (first | refine then_normal ?_ | refine then_exit ?_ | refine then_ret ?_ | refine block_normal ?_ | refine block_ret ?_ | refine block_exit ?_ | refine block_pass rfl ?_)
        obtain rfl := Option.some.inj h
        exact ⟨⟨_, rfl, (.refl _)⟩, trivial, rfl⟩
      · refine o_of (e := [(38, .t (.d (.lit (.pointer none))))]) (gy rfl rfl rfl h9) (h_mv (Mk.refl _) (.inl rfl) rfl rfl rfl) rfl ?_
        obtain ⟨x10, h11, h⟩ := bind_some h
        refine o_of (e := [(HK, .hp (hpA x10.2)), (39, .t (.d (.lit (.int .i64 x10.1))))]) (gy rfl rfl rfl h9) (h_call (Mk.refl _) rfl (σ := []) (fr := []) rfl rfl rfl rfl rfl rfl rfl (fch_space_Space_Give _ _ x7.2 _ h11) (pure_hpA _) (pure_hpA _) rfl rfl rfl rfl (.cons (.plain (.refl _) rfl) (.cons (.plain (.t (.d (.nil _))) rfl) .nil)) rfl (.t (.flat rfl))) rfl ?_
        refine o_s (.t (.d (.lit (.bool (x10.1 != 1))))) (gy rfl rfl rfl h9) rfl rfl rfl ?_
        refine o_pk (.t (.d (.lit (.bool (x10.1 != 1))))) (b := false) h9 (g0 rfl) rfl rfl rfl rfl rfl ?_
        refine o_s (.t (.d (.lit (.bool (x10.1 != 1))))) (g0 rfl) rfl rfl rfl ?_
        rcases bif_some h with ⟨h12, h⟩ | ⟨h12, h⟩
        · refine o_skip rfl rfl rfl h12 rfl rfl ?_
          refine o_skip rfl rfl rfl h12 rfl rfl ?_
          refine o_skip rfl rfl rfl h12 rfl rfl ?_
          refine o_pk (.t (.d (.lit (.bool true)))) (b := true) h12 (g0 rfl) rfl rfl rfl rfl rfl ?_
          refine o_s (.t (.d (.lit (.bool true)))) (g0 rfl) rfl rfl rfl ?_
          refine o_skip rfl rfl rfl rfl rfl rfl ?_
          refine o_skip rfl rfl rfl rfl rfl rfl ?_
          refine o_skip rfl rfl rfl rfl rfl rfl ?_
          refine o_skip rfl rfl rfl rfl rfl rfl ?_
          refine o_skip rfl rfl rfl rfl rfl rfl ?_
          refine o_skip rfl rfl rfl rfl rfl rfl ?_
          refine o_skip rfl rfl rfl rfl rfl rfl ?_
          refine o_skip rfl rfl rfl rfl rfl rfl ?_
          refine o_skip rfl rfl rfl rfl rfl rfl ?_
          refine o_skip rfl rfl rfl rfl rfl rfl ?_
          refine o_skip rfl rfl rfl rfl rfl rfl ?_
          refine o_pk (.t (.d (.lit (.bool true)))) (b := true) rfl (g0 rfl) rfl rfl rfl rfl rfl ?_
          refine o_s (.t (.d (.lit (.bool true)))) (g0 rfl) rfl rfl rfl ?_
          refine o_skip rfl rfl rfl rfl rfl rfl ?_
          refine o_skip rfl rfl rfl rfl rfl rfl ?_
          refine o_pk (.t (.d (.lit (.bool true)))) (b := true) rfl (g0 rfl) rfl rfl rfl rfl rfl ?_
          refine o_nil ?_
          repeat (first | refine then_normal ?_ | refine then_exit ?_ | refine then_ret ?_ | refine block_normal ?_ | refine block_ret ?_ | refine block_exit ?_ | refine block_pass rfl ?_)
          refine c_t rfl rfl ?_
          refine c_seq ?_
          refine c_region ?_
          refine o_s (.t (.d (.lit (.bool false)))) (g0 rfl) rfl rfl rfl ?_
          refine o_nil ?_
          repeat (first | refine then_normal ?_ | refine then_exit ?_ | refine then_ret ?_ | refine block_normal ?_ | refine block_ret ?_ | refine block_exit ?_ | refine block_pass rfl ?_)
          refine c_ret ?_
          repeat (first | refine then_normal ?_ | refine then_exit ?_ | refine then_ret ?_ | refine block_normal ?_ | refine block_ret ?_ | refine block_exit ?_ | refine block_pass rfl ?_)
          obtain rfl := Option.some.inj h
          exact ⟨⟨_, rfl, (.refl _)⟩, trivial, rfl⟩
        · refine o_of (e := [(43, .t (.d (.lit (.pointer none))))]) (gy rfl rfl rfl h12) (h_mv (Mk.refl _) (.inl rfl) rfl rfl rfl) rfl ?_
          obtain ⟨x13, h14, h⟩ := bind_some h
          refine o_of (e := [(HK, .hp (hpA x13.2)), (44, .t (.d (.lit (.int .i64 x13.1))))]) (gy rfl rfl rfl h12) (h_call (Mk.refl _) rfl (σ := []) (fr := []) rfl rfl rfl rfl rfl rfl rfl (fch_space_Space_Top _ x10.2 _ h14) (pure_hpA _) (pure_hpA _) rfl rfl rfl rfl (.cons (.plain (.refl _) rfl) .nil) rfl (.t (.flat rfl))) rfl ?_
          refine o_s (.t (.d (.lit (.bool (x13.1 != (-1)))))) (gy rfl rfl rfl h12) rfl rfl rfl ?_
          refine o_pk (.t (.d (.lit (.bool (x13.1 != (-1)))))) (b := false) h12 (g0 rfl) rfl rfl rfl rfl rfl ?_
          refine o_s (.t (.d (.lit (.bool (x13.1 != (-1)))))) (g0 rfl) rfl rfl rfl ?_
          rcases bif_some h with ⟨h15, h⟩ | ⟨h15, h⟩
          · refine o_skip rfl rfl rfl h15 rfl rfl ?_
            refine o_skip rfl rfl rfl h15 rfl rfl ?_
            refine o_skip rfl rfl rfl h15 rfl rfl ?_
            refine o_skip rfl rfl rfl h15 rfl rfl ?_
            refine o_skip rfl rfl rfl h15 rfl rfl ?_
            refine o_skip rfl rfl rfl h15 rfl rfl ?_
            refine o_skip rfl rfl rfl h15 rfl rfl ?_
            refine o_skip rfl rfl rfl h15 rfl rfl ?_
            refine o_skip rfl rfl rfl h15 rfl rfl ?_
            refine o_skip rfl rfl rfl h15 rfl rfl ?_
            refine o_skip rfl rfl rfl h15 rfl rfl ?_
            refine o_pk (.t (.d (.lit (.bool true)))) (b := true) h15 (g0 rfl) rfl rfl rfl rfl rfl ?_
            refine o_s (.t (.d (.lit (.bool true)))) (g0 rfl) rfl rfl rfl ?_
            refine o_skip rfl rfl rfl rfl rfl rfl ?_
            refine o_skip rfl rfl rfl rfl rfl rfl ?_
            refine o_pk (.t (.d (.lit (.bool true)))) (b := true) rfl (g0 rfl) rfl rfl rfl rfl rfl ?_
            refine o_nil ?_
            repeat (first | refine then_normal ?_ | refine then_exit ?_ | refine then_ret ?_ | refine block_normal ?_ | refine block_ret ?_ | refine block_exit ?_ | refine block_pass rfl ?_)
            refine c_t rfl rfl ?_
            refine c_seq ?_
            refine c_region ?_
            refine o_s (.t (.d (.lit (.bool false)))) (g0 rfl) rfl rfl rfl ?_
            refine o_nil ?_
            repeat (first | refine then_normal ?_ | refine then_exit ?_ | refine then_ret ?_ | refine block_normal ?_ | refine block_ret ?_ | refine block_exit ?_ | refine block_pass rfl ?_)
            refine c_ret ?_
            repeat (first | refine then_normal ?_ | refine then_exit ?_ | refine then_ret ?_ | refine block_normal ?_ | refine block_ret ?_ | refine block_exit ?_ | refine block_pass rfl ?_)
            obtain rfl := Option.some.inj h
            exact ⟨⟨_, rfl, (.refl _)⟩, trivial, rfl⟩
          · refine o_of (e := [(48, .t (.d (.lit (.pointer none))))]) (gy rfl rfl rfl h15) (h_mv (Mk.refl _) (.inl rfl) rfl rfl rfl) rfl ?_
            obtain ⟨x16, h17, h⟩ := bind_some h
            refine o_of (e := [(HK, .hp (hpA x16.2)), (49, .t (.d (.lit (.int .i64 x16.1))))]) (gy rfl rfl rfl h15) (h_call (Mk.refl _) rfl (σ := []) (fr := []) rfl rfl rfl rfl rfl rfl rfl (fch_space_Space_Free _ x13.2 _ h17) (pure_hpA _) (pure_hpA _) rfl rfl rfl rfl (.cons (.plain (.refl _) rfl) .nil) rfl (.t (.flat rfl))) rfl ?_
            refine o_of (e := [(50, .t (.d (.lit (.pointer none))))]) (gy rfl rfl rfl h15) (h_mv (Mk.refl _) (.inl rfl) rfl rfl rfl) rfl ?_
            obtain ⟨x18, h19, h⟩ := bind_some h
            refine o_of (e := [(HK, .hp (hpA x18.2)), (51, .t (.d (.seq 1 (bytesD x18.1))))]) (gy rfl rfl rfl h15) (h_call (Mk.refl _) rfl (σ := []) (fr := []) rfl rfl rfl rfl rfl rfl rfl (fch_space_Space_Bytes _ x16.2 _ h19) (pure_hpA _) (pure_hpA _) rfl rfl rfl rfl (.cons (.plain (.refl _) rfl) .nil) rfl (.t (.flat rfl))) rfl ?_
            refine o_c (gy rfl rfl rfl h15) rfl rfl rfl (lenE _ _) trivial ?_
            refine o_s (.t (.d (.lit (.int .i64 (wi (x16.1 + (x18.1.length : Int))))))) (gy rfl rfl rfl h15) rfl rfl rfl ?_
            refine o_of (e := [(54, .t (.d (.lit (.pointer none))))]) (gy rfl rfl rfl h15) (h_mv (Mk.refl _) (.inl rfl) rfl rfl rfl) rfl ?_
            obtain ⟨x20, h21, h⟩ := bind_some h
            refine o_of (e := [(HK, .hp (hpA x20.2)), (55, .t (.d (.seq 2 (List.map cS_api_Run x20.1))))]) (gy rfl rfl rfl h15) (h_call (Mk.refl _) rfl (σ := []) (fr := []) rfl rfl rfl rfl rfl rfl rfl (fch_space_Space_Runs _ x18.2 _ h21) (pure_hpA _) (pure_hpA _) rfl rfl rfl rfl (.cons (.plain (.refl _) rfl) .nil) rfl (.t (.flat rfl))) rfl ?_
            refine o_c (gy rfl rfl rfl h15) rfl rfl rfl (lenE _ _) trivial ?_
            refine o_s (.t (.d (.lit (.int .i64 (wi ((wi (x16.1 + (x18.1.length : Int))) + (x20.1.length : Int))))))) (gy rfl rfl rfl h15) rfl rfl rfl ?_
            refine o_s (.t (.d (.lit (.bool ((wi ((wi (x16.1 + (x18.1.length : Int))) + (x20.1.length : Int))) != 0))))) (gy rfl rfl rfl h15) rfl rfl rfl ?_
            refine o_pk (.t (.d (.lit (.bool ((wi ((wi (x16.1 + (x18.1.length : Int))) + (x20.1.length : Int))) != 0))))) (b := false) h15 (g0 rfl) rfl rfl rfl rfl rfl ?_
            refine o_s (.t (.d (.lit (.bool ((wi ((wi (x16.1 + (x18.1.length : Int))) + (x20.1.length : Int))) != 0))))) (g0 rfl) rfl rfl rfl ?_
            rcases bif_some h with ⟨h22, h⟩ | ⟨h22, h⟩
            · refine o_skip rfl rfl rfl h22 rfl rfl ?_
              refine o_skip rfl rfl rfl h22 rfl rfl ?_
              refine o_pk (.t (.d (.lit (.bool true)))) (b := true) h22 (g0 rfl) rfl rfl rfl rfl rfl ?_
              refine o_nil ?_
              repeat (first | refine then_normal ?_ | refine then_exit ?_ | refine then_ret ?_ | refine block_normal ?_ | refine block_ret ?_ | refine block_exit ?_ | refine block_pass rfl ?_)
              refine c_t rfl rfl ?_
              refine c_seq ?_
              refine c_region ?_
              refine o_s (.t (.d (.lit (.bool false)))) (g0 rfl) rfl rfl rfl ?_
              refine o_nil ?_
              repeat (first | refine then_normal ?_ | refine then_exit ?_ | refine then_ret ?_ | refine block_normal ?_ | refine block_ret ?_ | refine block_exit ?_ | refine block_pass rfl ?_)
              refine c_ret ?_
              repeat (first | refine then_normal ?_ | refine then_exit ?_ | refine then_ret ?_ | refine block_normal ?_ | refine block_ret ?_ | refine block_exit ?_ | refine block_pass rfl ?_)
              obtain rfl := Option.some.inj h
              exact ⟨⟨_, rfl, (.refl _)⟩, trivial, rfl⟩
            · refine o_of (e := [(61, .t (.d (.lit (.pointer none))))]) (gy rfl rfl rfl h22) (h_mv (Mk.refl _) (.inl rfl) rfl rfl rfl) rfl ?_
              obtain ⟨x23, h24, h⟩ := bind_some h
              refine o_of (e := [(HK, .hp (hpA x23.2)), (62, .t (.d (.lit (.bool x23.1))))]) (gy rfl rfl rfl h22) (h_call (Mk.refl _) rfl (σ := []) (fr := []) rfl rfl rfl rfl rfl rfl rfl (fch_space_Space_Has _ _ x20.2 _ h24) (pure_hpA _) (pure_hpA _) rfl rfl rfl rfl (.cons (.plain (.refl _) rfl) (.cons (.plain (.refl _) rfl) .nil)) rfl (.t (.flat rfl))) rfl ?_
              refine o_pk (.t (.d (.lit (.bool x23.1)))) (b := false) h22 (g0 rfl) rfl rfl rfl rfl rfl ?_
              refine o_nil ?_
              repeat (first | refine then_normal ?_ | refine then_exit ?_ | refine then_ret ?_ | refine block_normal ?_ | refine block_ret ?_ | refine block_exit ?_ | refine block_pass rfl ?_)
              rcases bif_some h with ⟨h25, h⟩ | ⟨h25, h⟩
              · refine c_t h25 rfl ?_
                refine c_seq ?_
                refine c_region ?_
                refine o_s (.t (.d (.lit (.bool false)))) (g0 rfl) rfl rfl rfl ?_
                refine o_nil ?_
                repeat (first | refine then_normal ?_ | refine then_exit ?_ | refine then_ret ?_ | refine block_normal ?_ | refine block_ret ?_ | refine block_exit ?_ | refine block_pass rfl ?_)
                refine c_ret ?_
                repeat (first | refine then_normal ?_ | refine then_exit ?_ | refine then_ret ?_ | refine block_normal ?_ | refine block_ret ?_ | refine block_exit ?_ | refine block_pass rfl ?_)
                obtain rfl := Option.some.inj h
                exact ⟨⟨_, rfl, (.refl _)⟩, trivial, rfl⟩
              · refine c_f h25 rfl ?_
                refine c_skip ?_
                repeat (first | refine then_normal ?_ | refine then_exit ?_ | refine then_ret ?_ | refine block_normal ?_ | refine block_ret ?_ | refine block_exit ?_ | refine block_pass rfl ?_)
                refine c_seq ?_
                refine c_seq ?_
                refine c_region ?_
                refine o_s (.t (.d (.seq 3 (List.map cS_L19_Do p1)))) (g0 rfl) rfl rfl rfl ?_
                obtain ⟨x26, h27, h⟩ := bind_some h
                refine o_ca (fc_L19_few _ _ h27) (g0 rfl) rfl rfl rfl rfl rfl rfl rfl (.cons (.refl _) .nil) rfl rfl ?_
                refine o_s (.t (.d (.lit (.bool (!x26))))) (g0 rfl) rfl rfl rfl ?_
                refine o_nil ?_
                repeat (first | refine then_normal ?_ | refine then_exit ?_ | refine then_ret ?_ | refine block_normal ?_ | refine block_ret ?_ | refine block_exit ?_ | refine block_pass rfl ?_)
                rcases bif_some h with ⟨h28, h⟩ | ⟨h28, h⟩
                · refine c_t h28 rfl ?_
                  refine c_seq ?_
                  refine c_region ?_
                  refine o_s (.t (.d (.lit (.bool true)))) (g0 rfl) rfl rfl rfl ?_
                  refine o_nil ?_
                  repeat (first | refine then_normal ?_ | refine then_exit ?_ | refine then_ret ?_ | refine block_normal ?_ | refine block_ret ?_ | refine block_exit ?_ | refine block_pass rfl ?_)
                  refine c_ret ?_
                  repeat (first | refine then_normal ?_ | refine then_exit ?_ | refine then_ret ?_ | refine block_normal ?_ | refine block_ret ?_ | refine block_exit ?_ | refine block_pass rfl ?_)
                  obtain rfl := Option.some.inj h
                  exact ⟨⟨_, rfl, (.refl _)⟩, trivial, rfl⟩
                · refine c_f h28 rfl ?_
                  refine c_skip ?_
                  repeat (first | refine then_normal ?_ | refine then_exit ?_ | refine then_ret ?_ | refine block_normal ?_ | refine block_ret ?_ | refine block_exit ?_ | refine block_pass rfl ?_)
                  refine c_seq ?_
                  refine c_region ?_
                  refine o_s (.t (.d (.lit (.int .u8 (p0.toNat : Int))))) (g0 rfl) rfl rfl rfl ?_
                  refine o_c (g0 rfl) rfl rfl rfl (congrArg (fun z => A.t (.d (.lit (.int .i64 z)))) (i64_u8 _)) trivial ?_
                  obtain ⟨x29, h30, h⟩ := bind_some h
                  refine o_of (e := [(HK, .hp (hpA x29.2.2)), (70, .tup [(ptT 1 x29.1), .d (.lit (.int .i64 x29.2.1))])]) (g0 rfl) (h_call (Mk.refl _) rfl (σ := []) (fr := []) rfl rfl rfl rfl rfl rfl rfl (fch_space_New _ x23.2 _ h30) (pure_hpA _) (pure_hpA _) rfl rfl rfl rfl (.cons (.plain (.refl _) rfl) .nil) rfl (.tup (.cons (ptT_pt _ _) (.cons (.flat rfl) .nil)))) rfl ?_
                  refine o_c (g0 rfl) rfl rfl rfl (congrArg A.tup (cp_cons (ptT_cp _ _) (cp_cons rfl cp_nil))) trivial ?_
                  rcases ptM_some h with ⟨h31, h⟩ | ⟨i32, h31, h⟩
                  · exact none_ne h
                  · refine o_c (g0 rfl) rfl rfl rfl (congrArg A.t ((ptT_cp _ _).trans (ptT_some h31))) trivial ?_
                    refine o_s (.t (.d (.lit (.int .i64 x29.2.1)))) (g0 rfl) rfl rfl rfl ?_
                    refine o_of (e := [(8, .t (.hpt (cd 1 i32) 0))]) (g0 rfl) (h_mv (Mk.refl _) (.inr rfl) rfl rfl rfl) rfl ?_
                    refine o_s (.t (.d (.lit (.int .i64 x29.2.1)))) (g0 rfl) rfl rfl rfl ?_
                    refine o_nil ?_
                    repeat (first | refine then_normal ?_ | refine then_exit ?_ | refine then_ret ?_ | refine block_normal ?_ | refine block_ret ?_ | refine block_exit ?_ | refine block_pass rfl ?_)
                    refine c_seq ?_
                    refine c_seq ?_
                    refine c_region ?_
                    refine o_s (.t (.d (.lit (.int .i64 x29.2.1)))) (g0 rfl) rfl rfl rfl ?_
                    refine o_s (.t (.d (.lit (.bool (x29.2.1 != 0))))) (g0 rfl) rfl rfl rfl ?_
                    refine o_nil ?_
                    repeat (first | refine then_normal ?_ | refine then_exit ?_ | refine then_ret ?_ | refine block_normal ?_ | refine block_ret ?_ | refine block_exit ?_ | refine block_pass rfl ?_)
                    rcases bif_some h with ⟨h33, h⟩ | ⟨h33, h⟩
                    · refine c_t h33 rfl ?_
                      refine c_seq ?_
                      refine c_region ?_
                      refine o_s (.t (.d (.lit (.bool false)))) (g0 rfl) rfl rfl rfl ?_
                      refine o_nil ?_
                      repeat (first | refine then_normal ?_ | refine then_exit ?_ | refine then_ret ?_ | refine block_normal ?_ | refine block_ret ?_ | refine block_exit ?_ | refine block_pass rfl ?_)
                      refine c_ret ?_
                      repeat (first | refine then_normal ?_ | refine then_exit ?_ | refine then_ret ?_ | refine block_normal ?_ | refine block_ret ?_ | refine block_exit ?_ | refine block_pass rfl ?_)
                      obtain rfl := Option.some.inj h
                      exact ⟨⟨_, rfl, (.refl _)⟩, trivial, rfl⟩
                    · refine c_f h33 rfl ?_
                      refine c_skip ?_
                      repeat (first | refine then_normal ?_ | refine then_exit ?_ | refine then_ret ?_ | refine block_normal ?_ | refine block_ret ?_ | refine block_exit ?_ | refine block_pass rfl ?_)
                      refine c_seq ?_
                      refine c_region ?_
                      refine o_of (e := [((OB + 0), mpA (fun z : Int => Value.int .i64 z) (fun z : Int => D.lit (.int .i64 z)) ([] : (List (Int × Int)))), (75, .t (.mpt 0))]) (g0 rfl) (h_mkm (Mk.refl _) rfl rfl rfl rfl rfl rfl) rfl ?_
                      refine o_s (.t (.mpt 0)) (g0 rfl) rfl rfl rfl ?_
                      refine o_nil ?_
                      repeat (first | refine then_normal ?_ | refine then_exit ?_ | refine then_ret ?_ | refine block_normal ?_ | refine block_ret ?_ | refine block_exit ?_ | refine block_pass rfl ?_)
                      refine c_seq ?_
                      refine c_region ?_
                      refine o_of (e := [(11, .t (.view 1 0 31 1 0))]) (g0 rfl) (h_nilv (.inr rfl) rfl rfl rfl) rfl ?_
                      refine o_nil ?_
                      repeat (first | refine then_normal ?_ | refine then_exit ?_ | refine then_ret ?_ | refine block_normal ?_ | refine block_ret ?_ | refine block_exit ?_ | refine block_pass rfl ?_)
                      refine c_cutH (fun (q : (List (List Int)) × Hp) => [(0, .t (.d (.lit (.int .u8 (p0.toNat : Int))))), (8, .t (.hpt (cd 1 i32) 0)), (11, .t (.view 1 0 31 1 q.1.length)), ((OB + 1), gbA (cSl 1 cI64) q.1), (HK, .hp (hpA q.2)), (OB + 0, .free)]) (fun (q : (List (List Int)) × Hp) => m_L19_SpaceOnce_j1 i32 p0 q.1 q.2 = some r) ?_ ?_
                      · refine c_seq ?_
                        refine c_region ?_
                        refine o_s (.t (.d (.seq 3 (List.map cS_L19_Do p1)))) (g0 rfl) rfl rfl rfl ?_
                        refine o_c (g0 rfl) rfl rfl rfl (lenE _ _) trivial ?_
                        refine o_s (.t (.d (.lit (.int .i64 0)))) (g0 rfl) rfl rfl rfl ?_
                        refine o_nil ?_
                        repeat (first | refine then_normal ?_ | refine then_exit ?_ | refine then_ret ?_ | refine block_normal ?_ | refine block_ret ?_ | refine block_exit ?_ | refine block_pass rfl ?_)
                        refine c_block ?_
                        refine c_fuelH (fun (q : Int × (List (Int × Int)) × (List (List Int)) × Hp) => [(0, .t (.d (.lit (.int .u8 (p0.toNat : Int))))), (8, .t (.hpt (cd 1 i32) 0)), (10, .t (.mpt 0)), (11, .t (.view 1 0 31 1 q.2.2.1.length)), (76, .t (.d (.seq 3 (List.map cS_L19_Do p1)))), (77, .t (.d (.lit (.int .i64 (p1.length : Int))))), (78, .t (.d (.lit (.int .i64 q.1)))), ((OB + 0), mpA (fun z : Int => Value.int .i64 z) (fun z : Int => D.lit (.int .i64 z)) q.2.1), ((OB + 1), gbA (cSl 1 cI64) q.2.2.1), (HK, .hp (hpA q.2.2.2))]) (fun nl4 => (fun (q : Int × (List (Int × Int)) × (List (List Int)) × Hp) => m_L19_SpaceOnce_l4 p1 i32 p0 nl4 q.1 q.2.1 q.2.2.1 q.2.2.2 = some r)) (p1.length + 1) (0, ([] : (List (Int × Int))), [], x29.2.2) [] h rfl ⟨.inr ⟨_, rfl, pure_hpA _⟩, by (repeat (first | exact ObP.nil | refine ObP.cons (.inl rfl) ?_ | refine ObP.cons (.inr (fun _ => rfl)) ?_ | refine ObP.cons (.inr (ob_box (fl_noPt _ _))) ?_ | refine ObP.cons (.inr (ob_gb _ _)) ?_))⟩ ⟨(.refl _), ⟨(.refl _), ⟨(.refl _), ⟨(.vwn (by first | rfl | (simp; done) | (dsimp only; omega) | (simp; omega))), ⟨(.refl _), ⟨(.refl _), ⟨(.refl _), ⟨(.refl _), ⟨(.refl _), ⟨(.refl _), trivial⟩⟩⟩⟩⟩⟩⟩⟩⟩⟩ (by ((refine nr_of ?_; repeat (first | exact nr_nil | refine nr_cons rfl ?_ | refine nr_cons (nr_gb _ _ _) ?_)))) ?_
                        rintro nl4 ⟨z50, z51, z52, z53⟩ h
                        cases nl4 with
                        | zero => exact none_ne h
                        | succ nl4 =>
                          refine c_seq ?_
                          refine c_region ?_
                          refine o_s (.t (.d (.lit (.bool (decide (z50 < (p1.length : Int))))))) (g0 rfl) rfl rfl rfl ?_
                          refine o_nil ?_
                          repeat (first | refine then_normal ?_ | refine then_exit ?_ | refine then_ret ?_ | refine block_normal ?_ | refine block_ret ?_ | refine block_exit ?_ | refine block_pass rfl ?_)
                          refine c_seq ?_
                          rcases bif_some h with ⟨h54, h⟩ | ⟨h54, h⟩
                          · refine c_t h54 rfl ?_
                            refine c_skip ?_
                            repeat (first | refine then_normal ?_ | refine then_exit ?_ | refine then_ret ?_ | refine block_normal ?_ | refine block_ret ?_ | refine block_exit ?_ | refine block_pass rfl ?_)
                            refine c_seq ?_
                            refine c_block ?_
                            refine c_seq ?_
                            refine c_region ?_
                            refine o_s (.t (.d (.lit (.int .i64 z50)))) (g0 rfl) rfl rfl rfl ?_
                            obtain ⟨x55, h56, h⟩ := bind_some h
                            refine o_c (g0 rfl) rfl rfl rfl (idxE h56) (idxC h56) ?_
                            refine o_s (.t (.agg [.lit (.int .i64 x55.Kind), .lit (.int .i64 x55.N), .seq 1 (List.map cI64 x55.L)])) (g0 rfl) rfl rfl rfl ?_
                            refine o_s (.box [.d (.lit (.int .i64 0)), .d (.lit (.int .i64 0)), .d (.lit (.slice none 0 0))]) (g0 rfl) rfl rfl rfl ?_
                            refine o_s (.t (.d (.lit (.int .i64 z50)))) (g0 rfl) rfl rfl rfl ?_
                            refine o_st (.box [.d (.lit (.int .i64 x55.Kind)), .d (.lit (.int .i64 x55.N)), .d (.seq 1 (List.map cI64 x55.L))]) (g0 rfl) rfl rfl rfl ?_
                            refine o_nil ?_
                            repeat (first | refine then_normal ?_ | refine then_exit ?_ | refine then_ret ?_ | refine block_normal ?_ | refine block_ret ?_ | refine block_exit ?_ | refine block_pass rfl ?_)
                            refine c_cutH (fun (q : (List (Int × Int)) × (List (List Int)) × Hp) => [(0, .t (.d (.lit (.int .u8 (p0.toNat : Int))))), (8, .t (.hpt (cd 1 i32) 0)), (10, .t (.mpt 0)), (11, .t (.view 1 0 31 1 q.2.1.length)), (76, .t (.d (.seq 3 (List.map cS_L19_Do p1)))), (77, .t (.d (.lit (.int .i64 (p1.length : Int))))), (78, .t (.d (.lit (.int .i64 z50)))), ((OB + 0), mpA (fun z : Int => Value.int .i64 z) (fun z : Int => D.lit (.int .i64 z)) q.1), ((OB + 1), gbA (cSl 1 cI64) q.2.1), (HK, .hp (hpA q.2.2))]) (fun (q : (List (Int × Int)) × (List (List Int)) × Hp) => m_L19_SpaceOnce_j5 (m_L19_SpaceOnce_l4 p1 i32 p0 nl4) i32 p0 z50 q.1 q.2.1 q.2.2 = some r) ?_ ?_
                            · refine c_seq ?_
                              refine c_region ?_
                              refine o_s (.ref 13 0) (g0 rfl) rfl rfl rfl ?_
                              refine o_s (.t (.d (.lit (.int .i64 x55.Kind)))) (g0 rfl) rfl rfl rfl ?_
                              refine o_nil ?_
                              repeat (first | refine then_normal ?_ | refine then_exit ?_ | refine then_ret ?_ | refine block_normal ?_ | refine block_ret ?_ | refine block_exit ?_ | refine block_pass rfl ?_)
                              refine c_block ?_
                              refine c_seq ?_
                              refine c_region ?_
                              refine o_s (.t (.d (.lit (.bool (x55.Kind == 1))))) (g0 rfl) rfl rfl rfl ?_
                              refine o_s (.t (.d (.lit (.bool (x55.Kind == 1))))) (g0 rfl) rfl rfl rfl ?_
                              refine o_nil ?_
                              repeat (first | refine then_normal ?_ | refine then_exit ?_ | refine then_ret ?_ | refine block_normal ?_ | refine block_ret ?_ | refine block_exit ?_ | refine block_pass rfl ?_)
                              rcases bif_some h with ⟨h63, h⟩ | ⟨h63, h⟩
                              · refine c_t h63 rfl ?_
                                refine c_seq ?_
                                refine c_region ?_
                                refine o_of (e := [(88, .t (.hpt (cd 1 i32) 0))]) (g0 rfl) (h_mv (Mk.refl _) (.inl rfl) rfl rfl rfl) rfl ?_
                                refine o_s (.ref 13 1) (g0 rfl) rfl rfl rfl ?_
                                refine o_s (.t (.d (.lit (.int .i64 x55.N)))) (g0 rfl) rfl rfl rfl ?_
                                obtain ⟨x64, h65, h⟩ := bind_some h
                                refine o_of (e := [(HK, .hp (hpA x64.2.2)), (91, .tup [.d (.seq 1 (List.map cI64 x64.1)), .d (.lit (.int .i64 x64.2.1))])]) (g0 rfl) (h_call (Mk.refl _) rfl (σ := []) (fr := []) rfl rfl rfl rfl rfl rfl rfl (fch_space_Space_Take _ _ z53 _ h65) (pure_hpA _) (pure_hpA _) rfl rfl rfl rfl (.cons (.hpt _ _) (.cons (.plain (.refl _) rfl) .nil)) rfl (.tup (.cons (.flat rfl) (.cons (.flat rfl) .nil)))) rfl ?_
                                refine o_s (.tup [.d (.seq 1 (List.map cI64 x64.1)), .d (.lit (.int .i64 x64.2.1))]) (g0 rfl) rfl rfl rfl ?_
                                refine o_s (.t (.d (.seq 1 (List.map cI64 x64.1)))) (g0 rfl) rfl rfl rfl ?_
                                refine o_s (.t (.d (.lit (.int .i64 x64.2.1)))) (g0 rfl) rfl rfl rfl ?_
                                refine o_s (.t (.d (.seq 1 (List.map cI64 x64.1)))) (g0 rfl) rfl rfl rfl ?_
                                refine o_s (.t (.d (.lit (.int .i64 x64.2.1)))) (g0 rfl) rfl rfl rfl ?_
                                refine o_nil ?_
                                repeat (first | refine then_normal ?_ | refine then_exit ?_ | refine then_ret ?_ | refine block_normal ?_ | refine block_ret ?_ | refine block_exit ?_ | refine block_pass rfl ?_)
                                refine c_seq ?_
                                refine c_seq ?_
                                refine c_region ?_
                                refine o_s (.t (.d (.lit (.int .i64 x64.2.1)))) (g0 rfl) rfl rfl rfl ?_
                                refine o_s (.t (.d (.lit (.bool (x64.2.1 != 0))))) (g0 rfl) rfl rfl rfl ?_
                                refine o_nil ?_
                                repeat (first | refine then_normal ?_ | refine then_exit ?_ | refine then_ret ?_ | refine block_normal ?_ | refine block_ret ?_ | refine block_exit ?_ | refine block_pass rfl ?_)
                                rcases bif_some h with ⟨h66, h⟩ | ⟨h66, h⟩
                                · refine c_t h66 rfl ?_
                                  refine c_exit ?_
                                  repeat (first | refine then_normal ?_ | refine then_exit ?_ | refine then_ret ?_ | refine block_normal ?_ | refine block_ret ?_ | refine block_exit ?_ | refine block_pass rfl ?_)
                                  refine c_region ?_
                                  refine o_s (.t (.d (.lit (.int .i64 (wi (z50 + 1)))))) (g0 rfl) rfl rfl rfl ?_
                                  refine o_s (.t (.d (.lit (.int .i64 (wi (z50 + 1)))))) (g0 rfl) rfl rfl rfl ?_
                                  refine o_nil ?_
                                  repeat (first | refine then_normal ?_ | refine then_exit ?_ | refine then_ret ?_ | refine block_normal ?_ | refine block_ret ?_ | refine block_exit ?_ | refine block_pass rfl ?_)
                                  exact ⟨nl4, ((wi (z50 + 1)), z51, z52, x64.2.2), [], Nat.lt_succ_self nl4, h, rfl, ⟨.inr ⟨_, rfl, pure_hpA _⟩, by (repeat (first | exact ObP.nil | refine ObP.cons (.inl rfl) ?_ | refine ObP.cons (.inr (fun _ => rfl)) ?_ | refine ObP.cons (.inr (ob_box (fl_noPt _ _))) ?_ | refine ObP.cons (.inr (ob_gb _ _)) ?_))⟩, ⟨(.refl _), ⟨(.refl _), ⟨(.refl _), ⟨(.refl _), ⟨(.refl _), ⟨(.refl _), ⟨(.refl _), ⟨(.refl _), ⟨(.refl _), ⟨(.refl _), trivial⟩⟩⟩⟩⟩⟩⟩⟩⟩⟩, (by ((refine nr_of ?_; repeat (first | exact nr_nil | refine nr_cons rfl ?_ | refine nr_cons (nr_gb _ _ _) ?_))))⟩
                                · refine c_f h66 rfl ?_
                                  refine c_skip ?_
                                  repeat (first | refine then_normal ?_ | refine then_exit ?_ | refine then_ret ?_ | refine block_normal ?_ | refine block_ret ?_ | refine block_exit ?_ | refine block_pass rfl ?_)
                                  refine c_cutH (fun (q : (List (Int × Int)) × Hp) => [(0, .t (.d (.lit (.int .u8 (p0.toNat : Int))))), (8, .t (.hpt (cd 1 i32) 0)), (10, .t (.mpt 0)), (11, .t (.view 1 0 31 1 z52.length)), (14, .t (.d (.seq 1 (List.map cI64 x64.1)))), (76, .t (.d (.seq 3 (List.map cS_L19_Do p1)))), (77, .t (.d (.lit (.int .i64 (p1.length : Int))))), (78, .t (.d (.lit (.int .i64 z50)))), ((OB + 0), mpA (fun z : Int => Value.int .i64 z) (fun z : Int => D.lit (.int .i64 z)) q.1), ((OB + 1), gbA (cSl 1 cI64) z52), (HK, .hp (hpA q.2))]) (fun (q : (List (Int × Int)) × Hp) => m_L19_SpaceOnce_j6 (m_L19_SpaceOnce_l4 p1 i32 p0 nl4) z52 x64 i32 p0 z50 q.1 q.2 = some r) ?_ ?_
                                  · refine c_seq ?_
                                    refine c_region ?_
                                    refine o_s (.t (.d (.seq 1 (List.map cI64 x64.1)))) (g0 rfl) rfl rfl rfl ?_
                                    refine o_c (g0 rfl) rfl rfl rfl (lenE _ _) trivial ?_
                                    refine o_s (.t (.d (.lit (.int .i64 0)))) (g0 rfl) rfl rfl rfl ?_
                                    refine o_nil ?_
                                    repeat (first | refine then_normal ?_ | refine then_exit ?_ | refine then_ret ?_ | refine block_normal ?_ | refine block_ret ?_ | refine block_exit ?_ | refine block_pass rfl ?_)
                                    refine c_block ?_
                                    refine c_fuelH (fun (q : Int × (List (Int × Int)) × Hp) => [(0, .t (.d (.lit (.int .u8 (p0.toNat : Int))))), (8, .t (.hpt (cd 1 i32) 0)), (10, .t (.mpt 0)), (11, .t (.view 1 0 31 1 z52.length)), (12, .t (.d (.lit (.int .i64 z50)))), (14, .t (.d (.seq 1 (List.map cI64 x64.1)))), (76, .t (.d (.seq 3 (List.map cS_L19_Do p1)))), (77, .t (.d (.lit (.int .i64 (p1.length : Int))))), (78, .t (.d (.lit (.int .i64 z50)))), (96, .t (.d (.seq 1 (List.map cI64 x64.1)))), (97, .t (.d (.lit (.int .i64 (x64.1.length : Int))))), (98, .t (.d (.lit (.int .i64 q.1)))), ((OB + 0), mpA (fun z : Int => Value.int .i64 z) (fun z : Int => D.lit (.int .i64 z)) q.2.1), ((OB + 1), gbA (cSl 1 cI64) z52), (HK, .hp (hpA q.2.2))]) (fun nl7 => (fun (q : Int × (List (Int × Int)) × Hp) => m_L19_SpaceOnce_l7 (m_L19_SpaceOnce_l4 p1 i32 p0 nl4) x64 i32 z50 z52 p0 nl7 q.1 q.2.1 q.2.2 = some r)) (x64.1.length + 1) (0, z51, x64.2.2) [] h rfl ⟨.inr ⟨_, rfl, pure_hpA _⟩, by (repeat (first | exact ObP.nil | refine ObP.cons (.inl rfl) ?_ | refine ObP.cons (.inr (fun _ => rfl)) ?_ | refine ObP.cons (.inr (ob_box (fl_noPt _ _))) ?_ | refine ObP.cons (.inr (ob_gb _ _)) ?_))⟩ ⟨(.refl _), ⟨(.refl _), ⟨(.refl _), ⟨(.refl _), ⟨(.refl _), ⟨(.refl _), ⟨(.refl _), ⟨(.refl _), ⟨(.refl _), ⟨(.refl _), ⟨(.refl _), ⟨(.refl _), ⟨(.refl _), ⟨(.refl _), ⟨(.refl _), trivial⟩⟩⟩⟩⟩⟩⟩⟩⟩⟩⟩⟩⟩⟩⟩ (by ((refine nr_of ?_; repeat (first | exact nr_nil | refine nr_cons rfl ?_ | refine nr_cons (nr_gb _ _ _) ?_)))) ?_
                                    rintro nl7 ⟨z71, z72, z73⟩ h
                                    cases nl7 with
                                    | zero => exact none_ne h
                                    | succ nl7 =>
                                      refine c_seq ?_
                                      refine c_region ?_
                                      refine o_s (.t (.d (.lit (.bool (decide (z71 < (x64.1.length : Int))))))) (g0 rfl) rfl rfl rfl ?_
                                      refine o_nil ?_
                                      repeat (first | refine then_normal ?_ | refine then_exit ?_ | refine then_ret ?_ | refine block_normal ?_ | refine block_ret ?_ | refine block_exit ?_ | refine block_pass rfl ?_)
                                      refine c_seq ?_
                                      rcases bif_some h with ⟨h74, h⟩ | ⟨h74, h⟩
                                      · refine c_t h74 rfl ?_
                                        refine c_skip ?_
                                        repeat (first | refine then_normal ?_ | refine then_exit ?_ | refine then_ret ?_ | refine block_normal ?_ | refine block_ret ?_ | refine block_exit ?_ | refine block_pass rfl ?_)
                                        refine c_seq ?_
                                        refine c_block ?_
                                        refine c_seq ?_
                                        refine c_region ?_
                                        obtain ⟨x75, h76, h⟩ := bind_some h
                                        refine o_c (g0 rfl) rfl rfl rfl (idxE h76) (idxC h76) ?_
                                        refine o_s (.t (.d (.lit (.int .i64 x75)))) (g0 rfl) rfl rfl rfl ?_
                                        refine o_s (.t (.d (.lit (.int .i64 x75)))) (g0 rfl) rfl rfl rfl ?_
                                        refine o_nil ?_
                                        repeat (first | refine then_normal ?_ | refine then_exit ?_ | refine then_ret ?_ | refine block_normal ?_ | refine block_ret ?_ | refine block_exit ?_ | refine block_pass rfl ?_)
                                        refine c_seq ?_
                                        refine c_seq ?_
                                        refine c_region ?_
                                        refine o_s (.t (.mpt 0)) (g0 rfl) rfl rfl rfl ?_
                                        refine o_s (.t (.d (.lit (.int .i64 x75)))) (g0 rfl) rfl rfl rfl ?_
                                        refine o_of (e := [(104, .t (.d (.lit (.int .i64 ((mfind z72 x75).getD (0 : Int))))))]) (g0 rfl) (h_mlk (kv := (fun z : Int => Value.int .i64 z)) (cv := (fun z : Int => D.lit (.int .i64 z))) (Mk.refl _) rfl rfl rfl rfl rfl (keyInt (by kernel_rfl)) rfl rfl (fun _ => .lit _ rfl) rfl rfl rfl) rfl ?_
                                        refine o_s (.t (.d (.lit (.bool (decide (((mfind z72 x75).getD (0 : Int)) > 0)))))) (g0 rfl) rfl rfl rfl ?_
                                        refine o_s (.t (.d (.lit (.bool (decide (((mfind z72 x75).getD (0 : Int)) > 0)))))) (g0 rfl) rfl rfl rfl ?_
                                        rcases bif_some h with ⟨h77, h⟩ | ⟨h77, h⟩
                                        · refine o_skip rfl rfl rfl h77 rfl rfl ?_
                                          refine o_skip rfl rfl rfl h77 rfl rfl ?_
                                          refine o_skip rfl rfl rfl h77 rfl rfl ?_
                                          refine o_pk (.t (.d (.lit (.bool true)))) (b := true) h77 (g0 rfl) rfl rfl rfl rfl rfl ?_
                                          refine o_nil ?_
                                          repeat (first | refine then_normal ?_ | refine then_exit ?_ | refine then_ret ?_ | refine block_normal ?_ | refine block_ret ?_ | refine block_exit ?_ | refine block_pass rfl ?_)
                                          refine c_t rfl rfl ?_
                                          refine c_seq ?_
                                          refine c_region ?_
                                          refine o_s (.t (.d (.lit (.bool false)))) (g0 rfl) rfl rfl rfl ?_
                                          refine o_nil ?_
                                          repeat (first | refine then_normal ?_ | refine then_exit ?_ | refine then_ret ?_ | refine block_normal ?_ | refine block_ret ?_ | refine block_exit ?_ | refine block_pass rfl ?_)
                                          refine c_ret ?_
                                          repeat (first | refine then_normal ?_ | refine then_exit ?_ | refine then_ret ?_ | refine block_normal ?_ | refine block_ret ?_ | refine block_exit ?_ | refine block_pass rfl ?_)
                                          obtain rfl := Option.some.inj h
                                          exact ⟨⟨_, rfl, (.refl _)⟩, trivial, rfl⟩
                                        · refine o_of (e := [(107, .t (.hpt (cd 1 i32) 0))]) (gy rfl rfl rfl h77) (h_mv (Mk.refl _) (.inl rfl) rfl rfl rfl) rfl ?_
                                          refine o_s (.t (.d (.lit (.int .i64 x75)))) (gy rfl rfl rfl h77) rfl rfl rfl ?_
                                          obtain ⟨x78, h79, h⟩ := bind_some h
                                          refine o_of (e := [(HK, .hp (hpA x78.2)), (109, .t (.d (.lit (.bool x78.1))))]) (gy rfl rfl rfl h77) (h_call (Mk.refl _) rfl (σ := []) (fr := []) rfl rfl rfl rfl rfl rfl rfl (fch_space_Space_Has _ _ z73 _ h79) (pure_hpA _) (pure_hpA _) rfl rfl rfl rfl (.cons (.hpt _ _) (.cons (.plain (.refl _) rfl) .nil)) rfl (.t (.flat rfl))) rfl ?_
                                          refine o_pk (.t (.d (.lit (.bool x78.1)))) (b := false) h77 (g0 rfl) rfl rfl rfl rfl rfl ?_
                                          refine o_nil ?_
                                          repeat (first | refine then_normal ?_ | refine then_exit ?_ | refine then_ret ?_ | refine block_normal ?_ | refine block_ret ?_ | refine block_exit ?_ | refine block_pass rfl ?_)
                                          rcases bif_some h with ⟨h80, h⟩ | ⟨h80, h⟩
                                          · refine c_t h80 rfl ?_
                                            refine c_seq ?_
                                            refine c_region ?_
                                            refine o_s (.t (.d (.lit (.bool false)))) (g0 rfl) rfl rfl rfl ?_
                                            refine o_nil ?_
                                            repeat (first | refine then_normal ?_ | refine then_exit ?_ | refine then_ret ?_ | refine block_normal ?_ | refine block_ret ?_ | refine block_exit ?_ | refine block_pass rfl ?_)
                                            refine c_ret ?_
                                            repeat (first | refine then_normal ?_ | refine then_exit ?_ | refine then_ret ?_ | refine block_normal ?_ | refine block_ret ?_ | refine block_exit ?_ | refine block_pass rfl ?_)
                                            obtain rfl := Option.some.inj h
                                            exact ⟨⟨_, rfl, (.refl _)⟩, trivial, rfl⟩
                                          · refine c_f h80 rfl ?_
                                            refine c_skip ?_
                                            repeat (first | refine then_normal ?_ | refine then_exit ?_ | refine then_ret ?_ | refine block_normal ?_ | refine block_ret ?_ | refine block_exit ?_ | refine block_pass rfl ?_)
                                            refine c_seq ?_
                                            refine c_region ?_
                                            refine o_s (.t (.mpt 0)) (g0 rfl) rfl rfl rfl ?_
                                            refine o_s (.t (.d (.lit (.int .i64 x75)))) (g0 rfl) rfl rfl rfl ?_
                                            refine o_s (.t (.d (.lit (.int .i64 z50)))) (g0 rfl) rfl rfl rfl ?_
                                            refine o_s (.t (.d (.lit (.int .i64 (wi (z50 + 1)))))) (g0 rfl) rfl rfl rfl ?_
                                            refine o_of (e := [((OB + 0), mpA (fun z : Int => Value.int .i64 z) (fun z : Int => D.lit (.int .i64 z)) (mset z72 x75 (wi (z50 + 1))))]) (g0 rfl) (h_mup (kv := (fun z : Int => Value.int .i64 z)) (cv := (fun z : Int => D.lit (.int .i64 z))) (Mk.refl _) rfl rfl rfl rfl rfl rfl (keyInt (by kernel_rfl)) rfl rfl) rfl ?_
                                            refine o_nil ?_
                                            repeat (first | refine then_normal ?_ | refine then_exit ?_ | refine then_ret ?_ | refine block_normal ?_ | refine block_ret ?_ | refine block_exit ?_ | refine block_pass rfl ?_)
                                            refine c_seq ?_
                                            refine c_region ?_
                                            refine o_s (.t (.d (.lit (.int .i64 x75)))) (g0 rfl) rfl rfl rfl ?_
                                            refine o_s (.t (.d (.lit (.int .i64 0)))) (g0 rfl) rfl rfl rfl ?_
                                            refine o_nil ?_
                                            repeat (first | refine then_normal ?_ | refine then_exit ?_ | refine then_ret ?_ | refine block_normal ?_ | refine block_ret ?_ | refine block_exit ?_ | refine block_pass rfl ?_)
                                            refine c_block ?_
                                            refine c_fuelH (fun (z81 : Int) => [(0, .t (.d (.lit (.int .u8 (p0.toNat : Int))))), (8, .t (.hpt (cd 1 i32) 0)), (10, .t (.mpt 0)), (11, .t (.view 1 0 31 1 z52.length)), (12, .t (.d (.lit (.int .i64 z50)))), (14, .t (.d (.seq 1 (List.map cI64 x64.1)))), (76, .t (.d (.seq 3 (List.map cS_L19_Do p1)))), (77, .t (.d (.lit (.int .i64 (p1.length : Int))))), (78, .t (.d (.lit (.int .i64 z50)))), (96, .t (.d (.seq 1 (List.map cI64 x64.1)))), (97, .t (.d (.lit (.int .i64 (x64.1.length : Int))))), (98, .t (.d (.lit (.int .i64 z71)))), (107, .t (.hpt (cd 1 i32) 0)), (108, .t (.d (.lit (.int .i64 x75)))), (109, .t (.d (.lit (.bool x78.1)))), (115, .t (.d (.lit (.int .i64 x75)))), (116, .t (.d (.lit (.int .i64 z81)))), ((OB + 0), mpA (fun z : Int => Value.int .i64 z) (fun z : Int => D.lit (.int .i64 z)) (mset z72 x75 (wi (z50 + 1)))), ((OB + 1), gbA (cSl 1 cI64) z52), (HK, .hp (hpA x78.2))]) (fun nl8 => (fun (z81 : Int) => m_L19_SpaceOnce_l8 (m_L19_SpaceOnce_l7 (m_L19_SpaceOnce_l4 p1 i32 p0 nl4) x64 i32 z50 z52 p0 nl7) x75 z72 z50 x78 z71 nl8 z81 = some r)) (Int.toNat x75 + 1) 0 [] h rfl ⟨.inr ⟨_, rfl, pure_hpA _⟩, by (repeat (first | exact ObP.nil | refine ObP.cons (.inl rfl) ?_ | refine ObP.cons (.inr (fun _ => rfl)) ?_ | refine ObP.cons (.inr (ob_box (fl_noPt _ _))) ?_ | refine ObP.cons (.inr (ob_gb _ _)) ?_))⟩ ⟨(.refl _), ⟨(.refl _), ⟨(.refl _), ⟨(.refl _), ⟨(.refl _), ⟨(.refl _), ⟨(.refl _), ⟨(.refl _), ⟨(.refl _), ⟨(.refl _), ⟨(.refl _), ⟨(.refl _), ⟨(.refl _), ⟨(.refl _), ⟨(.refl _), ⟨(.refl _), ⟨(.refl _), ⟨(.refl _), ⟨(.refl _), ⟨(.refl _), trivial⟩⟩⟩⟩⟩⟩⟩⟩⟩⟩⟩⟩⟩⟩⟩⟩⟩⟩⟩⟩ (by ((refine nr_of ?_; repeat (first | exact nr_nil | refine nr_cons rfl ?_ | refine nr_cons (nr_gb _ _ _) ?_)))) ?_
                                            rintro nl8 z81 h
                                            cases nl8 with
                                            | zero => exact none_ne h
                                            | succ nl8 =>
                                              refine c_seq ?_
                                              refine c_region ?_
                                              refine o_s (.t (.d (.lit (.bool (decide (z81 < x75)))))) (g0 rfl) rfl rfl rfl ?_
                                              refine o_nil ?_
                                              repeat (first | refine then_normal ?_ | refine then_exit ?_ | refine then_ret ?_ | refine block_normal ?_ | refine block_ret ?_ | refine block_exit ?_ | refine block_pass rfl ?_)
                                              refine c_seq ?_
                                              rcases bif_some h with ⟨h82, h⟩ | ⟨h82, h⟩
                                              · refine c_t h82 rfl ?_
                                                refine c_skip ?_
                                                repeat (first | refine then_normal ?_ | refine then_exit ?_ | refine then_ret ?_ | refine block_normal ?_ | refine block_ret ?_ | refine block_exit ?_ | refine block_pass rfl ?_)
                                                refine c_seq ?_
                                                refine c_block ?_
                                                refine c_seq ?_
                                                refine c_region ?_
                                                refine o_s (.t (.d (.lit (.int .i64 z81)))) (g0 rfl) rfl rfl rfl ?_
                                                refine o_s (.t (.d (.lit (.int .i64 z81)))) (g0 rfl) rfl rfl rfl ?_
                                                refine o_nil ?_
                                                repeat (first | refine then_normal ?_ | refine then_exit ?_ | refine then_ret ?_ | refine block_normal ?_ | refine block_ret ?_ | refine block_exit ?_ | refine block_pass rfl ?_)
                                                refine c_seq ?_
                                                refine c_region ?_
                                                refine o_s (.t (.mpt 0)) (g0 rfl) rfl rfl rfl ?_
                                                refine o_s (.t (.d (.lit (.int .i64 z81)))) (g0 rfl) rfl rfl rfl ?_
                                                refine o_of (e := [(121, .t (.d (.lit (.int .i64 ((mfind (mset z72 x75 (wi (z50 + 1))) z81).getD (0 : Int))))))]) (g0 rfl) (h_mlk (kv := (fun z : Int => Value.int .i64 z)) (cv := (fun z : Int => D.lit (.int .i64 z))) (Mk.refl _) rfl rfl rfl rfl rfl (keyInt (by kernel_rfl)) rfl rfl (fun _ => .lit _ rfl) rfl rfl rfl) rfl ?_
                                                refine o_s (.t (.d (.lit (.bool (((mfind (mset z72 x75 (wi (z50 + 1))) z81).getD (0 : Int)) == 0))))) (g0 rfl) rfl rfl rfl ?_
                                                refine o_nil ?_
                                                repeat (first | refine then_normal ?_ | refine then_exit ?_ | refine then_ret ?_ | refine block_normal ?_ | refine block_ret ?_ | refine block_exit ?_ | refine block_pass rfl ?_)
                                                rcases bif_some h with ⟨h83, h⟩ | ⟨h83, h⟩
                                                · refine c_t h83 rfl ?_
                                                  refine c_seq ?_
                                                  refine c_region ?_
                                                  refine o_s (.t (.d (.lit (.bool false)))) (g0 rfl) rfl rfl rfl ?_
                                                  refine o_nil ?_
                                                  repeat (first | refine then_normal ?_ | refine then_exit ?_ | refine then_ret ?_ | refine block_normal ?_ | refine block_ret ?_ | refine block_exit ?_ | refine block_pass rfl ?_)
                                                  refine c_ret ?_
                                                  repeat (first | refine then_normal ?_ | refine then_exit ?_ | refine then_ret ?_ | refine block_normal ?_ | refine block_ret ?_ | refine block_exit ?_ | refine block_pass rfl ?_)
                                                  obtain rfl := Option.some.inj h
                                                  exact ⟨⟨_, rfl, (.refl _)⟩, trivial, rfl⟩
                                                · refine c_f h83 rfl ?_
                                                  refine c_skip ?_
                                                  repeat (first | refine then_normal ?_ | refine then_exit ?_ | refine then_ret ?_ | refine block_normal ?_ | refine block_ret ?_ | refine block_exit ?_ | refine block_pass rfl ?_)
                                                  refine c_region ?_
                                                  refine o_s (.t (.d (.lit (.int .i64 (wi (z81 + 1)))))) (g0 rfl) rfl rfl rfl ?_
                                                  refine o_s (.t (.d (.lit (.int .i64 (wi (z81 + 1)))))) (g0 rfl) rfl rfl rfl ?_
                                                  refine o_nil ?_
                                                  repeat (first | refine then_normal ?_ | refine then_exit ?_ | refine then_ret ?_ | refine block_normal ?_ | refine block_ret ?_ | refine block_exit ?_ | refine block_pass rfl ?_)
                                                  exact ⟨nl8, (wi (z81 + 1)), [], Nat.lt_succ_self nl8, h, rfl, ⟨.inr ⟨_, rfl, pure_hpA _⟩, by (repeat (first | exact ObP.nil | refine ObP.cons (.inl rfl) ?_ | refine ObP.cons (.inr (fun _ => rfl)) ?_ | refine ObP.cons (.inr (ob_box (fl_noPt _ _))) ?_ | refine ObP.cons (.inr (ob_gb _ _)) ?_))⟩, ⟨(.refl _), ⟨(.refl _), ⟨(.refl _), ⟨(.refl _), ⟨(.refl _), ⟨(.refl _), ⟨(.refl _), ⟨(.refl _), ⟨(.refl _), ⟨(.refl _), ⟨(.refl _), ⟨(.refl _), ⟨(.refl _), ⟨(.refl _), ⟨(.refl _), ⟨(.refl _), ⟨(.refl _), ⟨(.refl _), ⟨(.refl _), ⟨(.refl _), trivial⟩⟩⟩⟩⟩⟩⟩⟩⟩⟩⟩⟩⟩⟩⟩⟩⟩⟩⟩⟩, (by ((refine nr_of ?_; repeat (first | exact nr_nil | refine nr_cons rfl ?_ | refine nr_cons (nr_gb _ _ _) ?_))))⟩
                                              · refine c_f h82 rfl ?_
                                                refine c_exit ?_
                                                repeat (first | refine then_normal ?_ | refine then_exit ?_ | refine then_ret ?_ | refine block_normal ?_ | refine block_ret ?_ | refine block_exit ?_ | refine block_pass rfl ?_)
                                                refine c_region ?_
                                                refine o_s (.t (.d (.lit (.int .i64 (wi (z71 + 1)))))) (g0 rfl) rfl rfl rfl ?_
                                                refine o_s (.t (.d (.lit (.int .i64 (wi (z71 + 1)))))) (g0 rfl) rfl rfl rfl ?_
                                                refine o_nil ?_
                                                repeat (first | refine then_normal ?_ | refine then_exit ?_ | refine then_ret ?_ | refine block_normal ?_ | refine block_ret ?_ | refine block_exit ?_ | refine block_pass rfl ?_)
                                                exact ⟨nl7, ((wi (z71 + 1)), (mset z72 x75 (wi (z50 + 1))), x78.2), [], Nat.lt_succ_self nl7, h, rfl, ⟨.inr ⟨_, rfl, pure_hpA _⟩, by (repeat (first | exact ObP.nil | refine ObP.cons (.inl rfl) ?_ | refine ObP.cons (.inr (fun _ => rfl)) ?_ | refine ObP.cons (.inr (ob_box (fl_noPt _ _))) ?_ | refine ObP.cons (.inr (ob_gb _ _)) ?_))⟩, ⟨(.refl _), ⟨(.refl _), ⟨(.refl _), ⟨(.refl _), ⟨(.refl _), ⟨(.refl _), ⟨(.refl _), ⟨(.refl _), ⟨(.refl _), ⟨(.refl _), ⟨(.refl _), ⟨(.refl _), ⟨(.refl _), ⟨(.refl _), ⟨(.refl _), trivial⟩⟩⟩⟩⟩⟩⟩⟩⟩⟩⟩⟩⟩⟩⟩, (by ((refine nr_of ?_; repeat (first | exact nr_nil | refine nr_cons rfl ?_ | refine nr_cons (nr_gb _ _ _) ?_))))⟩
                                      · refine c_f h74 rfl ?_
                                        refine c_exit ?_
                                        repeat (first | refine then_normal ?_ | refine then_exit ?_ | refine then_ret ?_ | refine block_normal ?_ | refine block_ret ?_ | refine block_exit ?_ | refine block_pass rfl ?_)
                                        exact ⟨(z72, z73), [], h, rfl, ⟨.inr ⟨_, rfl, pure_hpA _⟩, by (repeat (first | exact ObP.nil | refine ObP.cons (.inl rfl) ?_ | refine ObP.cons (.inr (fun _ => rfl)) ?_ | refine ObP.cons (.inr (ob_box (fl_noPt _ _))) ?_ | refine ObP.cons (.inr (ob_gb _ _)) ?_))⟩, ⟨(.refl _), ⟨(.refl _), ⟨(.refl _), ⟨(.refl _), ⟨(.refl _), ⟨(.refl _), ⟨(.refl _), ⟨(.refl _), ⟨(.refl _), ⟨(.refl _), ⟨(.refl _), trivial⟩⟩⟩⟩⟩⟩⟩⟩⟩⟩⟩, (by ((refine nr_of ?_; repeat (first | exact nr_nil | refine nr_cons rfl ?_ | refine nr_cons (nr_gb _ _ _) ?_))))⟩
                                  · rintro ⟨y67, y68⟩ h
                                    refine c_region ?_
                                    refine o_s (.t (.view 1 0 31 1 z52.length)) (g0 rfl) rfl rfl rfl ?_
                                    refine o_s (.t (.d (.seq 1 (List.map cI64 x64.1)))) (g0 rfl) rfl rfl rfl ?_
                                    refine o_s (.t (.own 31 1 (List.map (cSl 1 cI64) [x64.1]))) (g0 rfl) rfl rfl rfl ?_
                                    obtain ⟨x69, h70, h⟩ := bind_some h
                                    refine o_of (e := [(11, .any), (125, .any), ((OB + 1), gbA (cSl 1 cI64) x69), (128, .t (.view 1 0 31 1 x69.length))]) (g0 rfl) (h_apgI (c := (cSl 1 cI64)) (Mk.refl _) [11, 125] h70 rfl rfl rfl rfl (fun _ => rfl) rfl (by simp) rfl rfl rfl (NoM.get (by (repeat (first | exact NoM.nil | refine NoM.skip rfl ?_ | refine NoM.cons rfl ?_ | refine NoM.cons (ptT_ment _ _ _) ?_ | refine NoM.cons (ob_box (fl_noPt _ _) _) ?_ | refine NoM.cons (ob_gb _ _ _) ?_)))) (.inr ⟨_, rfl, pure_hpA _⟩) rfl) rfl ?_
                                    refine o_s (.t (.view 1 0 31 1 x69.length)) (g0 rfl) rfl rfl rfl ?_
                                    refine o_nil ?_
                                    repeat (first | refine then_normal ?_ | refine then_exit ?_ | refine then_ret ?_ | refine block_normal ?_ | refine block_ret ?_ | refine block_exit ?_ | refine block_pass rfl ?_)
                                    exact ⟨(y67, x69, y68), [], h, rfl, ⟨.inr ⟨_, rfl, pure_hpA _⟩, by (repeat (first | exact ObP.nil | refine ObP.cons (.inl rfl) ?_ | refine ObP.cons (.inr (fun _ => rfl)) ?_ | refine ObP.cons (.inr (ob_box (fl_noPt _ _))) ?_ | refine ObP.cons (.inr (ob_gb _ _)) ?_))⟩, ⟨(.refl _), ⟨(.refl _), ⟨(.refl _), ⟨(.refl _), ⟨(.refl _), ⟨(.refl _), ⟨(.refl _), ⟨(.refl _), ⟨(.refl _), ⟨(.refl _), trivial⟩⟩⟩⟩⟩⟩⟩⟩⟩⟩, (by ((refine nr_of ?_; repeat (first | exact nr_nil | refine nr_cons rfl ?_ | refine nr_cons (nr_gb _ _ _) ?_))))⟩
                              · refine c_f h63 rfl ?_
                                refine c_seq ?_
                                refine c_region ?_
                                refine o_s (.t (.d (.lit (.bool (x55.Kind == 4))))) (g0 rfl) rfl rfl rfl ?_
                                refine o_s (.t (.d (.lit (.bool (x55.Kind == 4))))) (g0 rfl) rfl rfl rfl ?_
                                refine o_nil ?_
                                repeat (first | refine then_normal ?_ | refine then_exit ?_ | refine then_ret ?_ | refine block_normal ?_ | refine block_ret ?_ | refine block_exit ?_ | refine block_pass rfl ?_)
                                rcases bif_some h with ⟨h84, h⟩ | ⟨h84, h⟩
                                · refine c_t h84 rfl ?_
                                  refine c_seq ?_
                                  refine c_seq ?_
                                  refine c_region ?_
                                  refine o_s (.ref 13 1) (g0 rfl) rfl rfl rfl ?_
                                  refine o_s (.t (.d (.lit (.int .i64 x55.N)))) (g0 rfl) rfl rfl rfl ?_
                                  refine o_s (.t (.d (.lit (.bool (decide (x55.N < 0)))))) (g0 rfl) rfl rfl rfl ?_
                                  refine o_s (.t (.d (.lit (.bool (decide (x55.N < 0)))))) (g0 rfl) rfl rfl rfl ?_
                                  rcases bif_some h with ⟨h85, h⟩ | ⟨h85, h⟩
                                  · refine o_skip rfl rfl rfl h85 rfl rfl ?_
                                    refine o_skip rfl rfl rfl h85 rfl rfl ?_
                                    refine o_skip rfl rfl rfl h85 rfl rfl ?_
                                    refine o_skip rfl rfl rfl h85 rfl rfl ?_
                                    refine o_skip rfl rfl rfl h85 rfl rfl ?_
                                    refine o_pk (.t (.d (.lit (.bool true)))) (b := true) h85 (g0 rfl) rfl rfl rfl rfl rfl ?_
                                    refine o_s (.t (.d (.lit (.bool true)))) (g0 rfl) rfl rfl rfl ?_
                                    refine o_skip rfl rfl rfl rfl rfl rfl ?_
                                    refine o_skip rfl rfl rfl rfl rfl rfl ?_
                                    refine o_skip rfl rfl rfl rfl rfl rfl ?_
                                    refine o_skip rfl rfl rfl rfl rfl rfl ?_
                                    refine o_skip rfl rfl rfl rfl rfl rfl ?_
                                    refine o_skip rfl rfl rfl rfl rfl rfl ?_
                                    refine o_skip rfl rfl rfl rfl rfl rfl ?_
                                    refine o_pk (.t (.d (.lit (.bool true)))) (b := true) rfl (g0 rfl) rfl rfl rfl rfl rfl ?_
                                    refine o_nil ?_
                                    repeat (first | refine then_normal ?_ | refine then_exit ?_ | refine then_ret ?_ | refine block_normal ?_ | refine block_ret ?_ | refine block_exit ?_ | refine block_pass rfl ?_)
                                    refine c_t rfl rfl ?_
                                    refine c_exit ?_
                                    repeat (first | refine then_normal ?_ | refine then_exit ?_ | refine then_ret ?_ | refine block_normal ?_ | refine block_ret ?_ | refine block_exit ?_ | refine block_pass rfl ?_)
                                    refine c_region ?_
                                    refine o_s (.t (.d (.lit (.int .i64 (wi (z50 + 1)))))) (g0 rfl) rfl rfl rfl ?_
                                    refine o_s (.t (.d (.lit (.int .i64 (wi (z50 + 1)))))) (g0 rfl) rfl rfl rfl ?_
                                    refine o_nil ?_
                                    repeat (first | refine then_normal ?_ | refine then_exit ?_ | refine then_ret ?_ | refine block_normal ?_ | refine block_ret ?_ | refine block_exit ?_ | refine block_pass rfl ?_)
                                    exact ⟨nl4, ((wi (z50 + 1)), z51, z52, z53), [], Nat.lt_succ_self nl4, h, rfl, ⟨.inr ⟨_, rfl, pure_hpA _⟩, by (repeat (first | exact ObP.nil | refine ObP.cons (.inl rfl) ?_ | refine ObP.cons (.inr (fun _ => rfl)) ?_ | refine ObP.cons (.inr (ob_box (fl_noPt _ _))) ?_ | refine ObP.cons (.inr (ob_gb _ _)) ?_))⟩, ⟨(.refl _), ⟨(.refl _), ⟨(.refl _), ⟨(.refl _), ⟨(.refl _), ⟨(.refl _), ⟨(.refl _), ⟨(.refl _), ⟨(.refl _), ⟨(.refl _), trivial⟩⟩⟩⟩⟩⟩⟩⟩⟩⟩, (by ((refine nr_of ?_; repeat (first | exact nr_nil | refine nr_cons rfl ?_ | refine nr_cons (nr_gb _ _ _) ?_))))⟩
                                  · refine o_s (.ref 13 1) (gy rfl rfl rfl h85) rfl rfl rfl ?_
                                    refine o_s (.t (.d (.lit (.int .i64 x55.N)))) (gy rfl rfl rfl h85) rfl rfl rfl ?_
                                    refine o_s (.t (.view 1 0 31 1 z52.length)) (gy rfl rfl rfl h85) rfl rfl rfl ?_
                                    refine o_of (e := [(138, .t (.d (.lit (.int .i64 (z52.length : Int)))))]) (gy rfl rfl rfl h85) (h_lln (Mk.refl _) rfl rfl rfl rfl rfl rfl) rfl ?_
                                    refine o_s (.t (.d (.lit (.bool (decide (x55.N ≥ (z52.length : Int))))))) (gy rfl rfl rfl h85) rfl rfl rfl ?_
                                    refine o_pk (.t (.d (.lit (.bool (decide (x55.N ≥ (z52.length : Int))))))) (b := false) h85 (g0 rfl) rfl rfl rfl rfl rfl ?_
                                    refine o_s (.t (.d (.lit (.bool (decide (x55.N ≥ (z52.length : Int))))))) (g0 rfl) rfl rfl rfl ?_
                                    rcases bif_some h with ⟨h86, h⟩ | ⟨h86, h⟩
                                    · refine o_skip rfl rfl rfl h86 rfl rfl ?_
                                      refine o_skip rfl rfl rfl h86 rfl rfl ?_
                                      refine o_skip rfl rfl rfl h86 rfl rfl ?_
                                      refine o_skip rfl rfl rfl h86 rfl rfl ?_
                                      refine o_skip rfl rfl rfl h86 rfl rfl ?_
                                      refine o_skip rfl rfl rfl h86 rfl rfl ?_
                                      refine o_skip rfl rfl rfl h86 rfl rfl ?_
                                      refine o_pk (.t (.d (.lit (.bool true)))) (b := true) h86 (g0 rfl) rfl rfl rfl rfl rfl ?_
                                      refine o_nil ?_
                                      repeat (first | refine then_normal ?_ | refine then_exit ?_ | refine then_ret ?_ | refine block_normal ?_ | refine block_ret ?_ | refine block_exit ?_ | refine block_pass rfl ?_)
                                      refine c_t rfl rfl ?_
                                      refine c_exit ?_
                                      repeat (first | refine then_normal ?_ | refine then_exit ?_ | refine then_ret ?_ | refine block_normal ?_ | refine block_ret ?_ | refine block_exit ?_ | refine block_pass rfl ?_)
                                      refine c_region ?_
                                      refine o_s (.t (.d (.lit (.int .i64 (wi (z50 + 1)))))) (g0 rfl) rfl rfl rfl ?_
                                      refine o_s (.t (.d (.lit (.int .i64 (wi (z50 + 1)))))) (g0 rfl) rfl rfl rfl ?_
                                      refine o_nil ?_
                                      repeat (first | refine then_normal ?_ | refine then_exit ?_ | refine then_ret ?_ | refine block_normal ?_ | refine block_ret ?_ | refine block_exit ?_ | refine block_pass rfl ?_)
                                      exact ⟨nl4, ((wi (z50 + 1)), z51, z52, z53), [], Nat.lt_succ_self nl4, h, rfl, ⟨.inr ⟨_, rfl, pure_hpA _⟩, by (repeat (first | exact ObP.nil | refine ObP.cons (.inl rfl) ?_ | refine ObP.cons (.inr (fun _ => rfl)) ?_ | refine ObP.cons (.inr (ob_box (fl_noPt _ _))) ?_ | refine ObP.cons (.inr (ob_gb _ _)) ?_))⟩, ⟨(.refl _), ⟨(.refl _), ⟨(.refl _), ⟨(.refl _), ⟨(.refl _), ⟨(.refl _), ⟨(.refl _), ⟨(.refl _), ⟨(.refl _), ⟨(.refl _), trivial⟩⟩⟩⟩⟩⟩⟩⟩⟩⟩, (by ((refine nr_of ?_; repeat (first | exact nr_nil | refine nr_cons rfl ?_ | refine nr_cons (nr_gb _ _ _) ?_))))⟩
                                    · refine o_s (.t (.view 1 0 31 1 z52.length)) (gy rfl rfl rfl h86) rfl rfl rfl ?_
                                      refine o_s (.ref 13 1) (gy rfl rfl rfl h86) rfl rfl rfl ?_
                                      refine o_s (.t (.d (.lit (.int .i64 x55.N)))) (gy rfl rfl rfl h86) rfl rfl rfl ?_
                                      obtain ⟨x87, h88, h⟩ := bind_some h
                                      refine o_of (e := [(145, .ref (OB + 1) (0 + Int.toNat x55.N * 1))]) (gy rfl rfl rfl h86) (h_lix (Mk.refl _) rfl rfl rfl rfl rfl (idxV rfl h88) rfl rfl rfl) rfl ?_
                                      refine o_of (e := [(146, .t (.d (.seq 1 (List.map cI64 x87))))]) (gy rfl rfl rfl h86) (h_lld (Mk.refl _) rfl rfl rfl (gb_box h88) (fl_at h88 rfl (fun _ => rfl)) rfl rfl rfl) rfl ?_
                                      refine o_c (gy rfl rfl rfl h86) rfl rfl rfl (lenE _ _) trivial ?_
                                      refine o_s (.t (.d (.lit (.bool ((x87.length : Int) == 0))))) (gy rfl rfl rfl h86) rfl rfl rfl ?_
                                      refine o_pk (.t (.d (.lit (.bool ((x87.length : Int) == 0))))) (b := false) h86 (g0 rfl) rfl rfl rfl rfl rfl ?_
                                      refine o_nil ?_
                                      repeat (first | refine then_normal ?_ | refine then_exit ?_ | refine then_ret ?_ | refine block_normal ?_ | refine block_ret ?_ | refine block_exit ?_ | refine block_pass rfl ?_)
                                      rcases bif_some h with ⟨h89, h⟩ | ⟨h89, h⟩
                                      · refine c_t h89 rfl ?_
                                        refine c_exit ?_
                                        repeat (first | refine then_normal ?_ | refine then_exit ?_ | refine then_ret ?_ | refine block_normal ?_ | refine block_ret ?_ | refine block_exit ?_ | refine block_pass rfl ?_)
                                        refine c_region ?_
                                        refine o_s (.t (.d (.lit (.int .i64 (wi (z50 + 1)))))) (g0 rfl) rfl rfl rfl ?_
                                        refine o_s (.t (.d (.lit (.int .i64 (wi (z50 + 1)))))) (g0 rfl) rfl rfl rfl ?_
                                        refine o_nil ?_
                                        repeat (first | refine then_normal ?_ | refine then_exit ?_ | refine then_ret ?_ | refine block_normal ?_ | refine block_ret ?_ | refine block_exit ?_ | refine block_pass rfl ?_)
                                        exact ⟨nl4, ((wi (z50 + 1)), z51, z52, z53), [], Nat.lt_succ_self nl4, h, rfl, ⟨.inr ⟨_, rfl, pure_hpA _⟩, by (repeat (first | exact ObP.nil | refine ObP.cons (.inl rfl) ?_ | refine ObP.cons (.inr (fun _ => rfl)) ?_ | refine ObP.cons (.inr (ob_box (fl_noPt _ _))) ?_ | refine ObP.cons (.inr (ob_gb _ _)) ?_))⟩, ⟨(.refl _), ⟨(.refl _), ⟨(.refl _), ⟨(.refl _), ⟨(.refl _), ⟨(.refl _), ⟨(.refl _), ⟨(.refl _), ⟨(.refl _), ⟨(.refl _), trivial⟩⟩⟩⟩⟩⟩⟩⟩⟩⟩, (by ((refine nr_of ?_; repeat (first | exact nr_nil | refine nr_cons rfl ?_ | refine nr_cons (nr_gb _ _ _) ?_))))⟩
                                      · refine c_f h89 rfl ?_
                                        refine c_skip ?_
                                        repeat (first | refine then_normal ?_ | refine then_exit ?_ | refine then_ret ?_ | refine block_normal ?_ | refine block_ret ?_ | refine block_exit ?_ | refine block_pass rfl ?_)
                                        refine c_seq ?_
                                        refine c_seq ?_
                                        refine c_region ?_
                                        refine o_of (e := [(150, .t (.hpt (cd 1 i32) 0))]) (g0 rfl) (h_mv (Mk.refl _) (.inl rfl) rfl rfl rfl) rfl ?_
                                        refine o_s (.t (.view 1 0 31 1 z52.length)) (g0 rfl) rfl rfl rfl ?_
                                        refine o_s (.ref 13 1) (g0 rfl) rfl rfl rfl ?_
                                        refine o_s (.t (.d (.lit (.int .i64 x55.N)))) (g0 rfl) rfl rfl rfl ?_
                                        obtain ⟨x90, h91, h⟩ := bind_some h
                                        refine o_of (e := [(154, .ref (OB + 1) (0 + Int.toNat x55.N * 1))]) (g0 rfl) (h_lix (Mk.refl _) rfl rfl rfl rfl rfl (idxV rfl h91) rfl rfl rfl) rfl ?_
                                        refine o_of (e := [(155, .t (.d (.seq 1 (List.map cI64 x90))))]) (g0 rfl) (h_lld (Mk.refl _) rfl rfl rfl (gb_box h91) (fl_at h91 rfl (fun _ => rfl)) rfl rfl rfl) rfl ?_
                                        obtain ⟨x92, h93, h⟩ := bind_some h
                                        refine o_of (e := [(HK, .hp (hpA x92.2)), (156, .t (.d (.lit (.int .i64 x92.1))))]) (g0 rfl) (h_call (Mk.refl _) rfl (σ := []) (fr := []) rfl rfl rfl rfl rfl rfl rfl (fch_space_Space_Give _ _ z53 _ h93) (pure_hpA _) (pure_hpA _) rfl rfl rfl rfl (.cons (.hpt _ _) (.cons (.plain (.refl _) rfl) .nil)) rfl (.t (.flat rfl))) rfl ?_
                                        refine o_s (.t (.d (.lit (.bool (x92.1 != 0))))) (g0 rfl) rfl rfl rfl ?_
                                        refine o_s (.t (.d (.lit (.bool (x92.1 != 0))))) (g0 rfl) rfl rfl rfl ?_
                                        rcases bif_some h with ⟨h94, h⟩ | ⟨h94, h⟩
                                        · refine o_skip rfl rfl rfl h94 rfl rfl ?_
                                          refine o_skip rfl rfl rfl h94 rfl rfl ?_
                                          refine o_skip rfl rfl rfl h94 rfl rfl ?_
                                          refine o_skip rfl rfl rfl h94 rfl rfl ?_
                                          refine o_skip rfl rfl rfl h94 rfl rfl ?_
                                          refine o_skip rfl rfl rfl h94 rfl rfl ?_
                                          refine o_skip rfl rfl rfl h94 rfl rfl ?_
                                          refine o_skip rfl rfl rfl h94 rfl rfl ?_
                                          refine o_pk (.t (.d (.lit (.bool true)))) (b := true) h94 (g0 rfl) rfl rfl rfl rfl rfl ?_
                                          refine o_nil ?_
                                          repeat (first | refine then_normal ?_ | refine then_exit ?_ | refine then_ret ?_ | refine block_normal ?_ | refine block_ret ?_ | refine block_exit ?_ | refine block_pass rfl ?_)
                                          refine c_t rfl rfl ?_
                                          refine c_seq ?_
                                          refine c_region ?_
                                          refine o_s (.t (.d (.lit (.bool false)))) (g0 rfl) rfl rfl rfl ?_
                                          refine o_nil ?_
                                          repeat (first | refine then_normal ?_ | refine then_exit ?_ | refine then_ret ?_ | refine block_normal ?_ | refine block_ret ?_ | refine block_exit ?_ | refine block_pass rfl ?_)
                                          refine c_ret ?_
                                          repeat (first | refine then_normal ?_ | refine then_exit ?_ | refine then_ret ?_ | refine block_normal ?_ | refine block_ret ?_ | refine block_exit ?_ | refine block_pass rfl ?_)
                                          obtain rfl := Option.some.inj h
                                          exact ⟨⟨_, rfl, (.refl _)⟩, trivial, rfl⟩
                                        · refine o_of (e := [(159, .t (.hpt (cd 1 i32) 0))]) (gy rfl rfl rfl h94) (h_mv (Mk.refl _) (.inl rfl) rfl rfl rfl) rfl ?_
                                          refine o_s (.t (.view 1 0 31 1 z52.length)) (gy rfl rfl rfl h94) rfl rfl rfl ?_
                                          refine o_s (.ref 13 1) (gy rfl rfl rfl h94) rfl rfl rfl ?_
                                          refine o_s (.t (.d (.lit (.int .i64 x55.N)))) (gy rfl rfl rfl h94) rfl rfl rfl ?_
                                          obtain ⟨x95, h96, h⟩ := bind_some h
                                          refine o_of (e := [(163, .ref (OB + 1) (0 + Int.toNat x55.N * 1))]) (gy rfl rfl rfl h94) (h_lix (Mk.refl _) rfl rfl rfl rfl rfl (idxV rfl h96) rfl rfl rfl) rfl ?_
                                          refine o_of (e := [(164, .t (.d (.seq 1 (List.map cI64 x95))))]) (gy rfl rfl rfl h94) (h_lld (Mk.refl _) rfl rfl rfl (gb_box h96) (fl_at h96 rfl (fun _ => rfl)) rfl rfl rfl) rfl ?_
                                          obtain ⟨x97, h98, h⟩ := bind_some h
                                          refine o_of (e := [(HK, .hp (hpA x97.2)), (165, .t (.d (.lit (.int .i64 x97.1))))]) (gy rfl rfl rfl h94) (h_call (Mk.refl _) rfl (σ := []) (fr := []) rfl rfl rfl rfl rfl rfl rfl (fch_space_Space_Give _ _ x92.2 _ h98) (pure_hpA _) (pure_hpA _) rfl rfl rfl rfl (.cons (.hpt _ _) (.cons (.plain (.refl _) rfl) .nil)) rfl (.t (.flat rfl))) rfl ?_
                                          refine o_s (.t (.d (.lit (.bool (x97.1 != 2))))) (gy rfl rfl rfl h94) rfl rfl rfl ?_
                                          refine o_pk (.t (.d (.lit (.bool (x97.1 != 2))))) (b := false) h94 (g0 rfl) rfl rfl rfl rfl rfl ?_
                                          refine o_nil ?_
                                          repeat (first | refine then_normal ?_ | refine then_exit ?_ | refine then_ret ?_ | refine block_normal ?_ | refine block_ret ?_ | refine block_exit ?_ | refine block_pass rfl ?_)
                                          rcases bif_some h with ⟨h99, h⟩ | ⟨h99, h⟩
                                          · refine c_t h99 rfl ?_
                                            refine c_seq ?_
                                            refine c_region ?_
                                            refine o_s (.t (.d (.lit (.bool false)))) (g0 rfl) rfl rfl rfl ?_
                                            refine o_nil ?_
                                            repeat (first | refine then_normal ?_ | refine then_exit ?_ | refine then_ret ?_ | refine block_normal ?_ | refine block_ret ?_ | refine block_exit ?_ | refine block_pass rfl ?_)
                                            refine c_ret ?_
                                            repeat (first | refine then_normal ?_ | refine then_exit ?_ | refine then_ret ?_ | refine block_normal ?_ | refine block_ret ?_ | refine block_exit ?_ | refine block_pass rfl ?_)
                                            obtain rfl := Option.some.inj h
                                            exact ⟨⟨_, rfl, (.refl _)⟩, trivial, rfl⟩
                                          · refine c_f h99 rfl ?_
                                            refine c_skip ?_
                                            repeat (first | refine then_normal ?_ | refine then_exit ?_ | refine then_ret ?_ | refine block_normal ?_ | refine block_ret ?_ | refine block_exit ?_ | refine block_pass rfl ?_)
                                            refine c_cutH (fun (y100 : (List (Int × Int))) => [(0, .t (.d (.lit (.int .u8 (p0.toNat : Int))))), (8, .t (.hpt (cd 1 i32) 0)), (10, .t (.mpt 0)), (11, .t (.view 1 0 31 1 z52.length)), (13, .box [.d (.lit (.int .i64 x55.Kind)), .d (.lit (.int .i64 x55.N)), .d (.seq 1 (List.map cI64 x55.L))]), (76, .t (.d (.seq 3 (List.map cS_L19_Do p1)))), (77, .t (.d (.lit (.int .i64 (p1.length : Int))))), (78, .t (.d (.lit (.int .i64 z50)))), (135, .ref 13 1), (136, .t (.d (.lit (.int .i64 x55.N)))), (137, .t (.view 1 0 31 1 z52.length)), (138, .t (.d (.lit (.int .i64 (z52.length : Int))))), (139, .t (.d (.lit (.bool (decide (x55.N ≥ (z52.length : Int))))))), (142, .t (.view 1 0 31 1 z52.length)), (143, .ref 13 1), (144, .t (.d (.lit (.int .i64 x55.N)))), (146, .t (.d (.seq 1 (List.map cI64 x87)))), (147, .t (.d (.lit (.int .i64 (x87.length : Int))))), (148, .t (.d (.lit (.bool ((x87.length : Int) == 0))))), (159, .t (.hpt (cd 1 i32) 0)), (160, .t (.view 1 0 31 1 z52.length)), (161, .ref 13 1), (162, .t (.d (.lit (.int .i64 x55.N)))), (164, .t (.d (.seq 1 (List.map cI64 x95)))), (165, .t (.d (.lit (.int .i64 x97.1)))), (166, .t (.d (.lit (.bool (x97.1 != 2))))), ((OB + 0), mpA (fun z : Int => Value.int .i64 z) (fun z : Int => D.lit (.int .i64 z)) y100), ((OB + 1), gbA (cSl 1 cI64) z52), (HK, .hp (hpA x97.2))]) (fun (y100 : (List (Int × Int))) => m_L19_SpaceOnce_j9 (m_L19_SpaceOnce_l4 p1 i32 p0 nl4) z52 x55 i32 p0 z50 x97 y100 = some r) ?_ ?_
                                            · refine c_seq ?_
                                              refine c_region ?_
                                              refine o_s (.t (.view 1 0 31 1 z52.length)) (g0 rfl) rfl rfl rfl ?_
                                              refine o_s (.ref 13 1) (g0 rfl) rfl rfl rfl ?_
                                              refine o_s (.t (.d (.lit (.int .i64 x55.N)))) (g0 rfl) rfl rfl rfl ?_
                                              obtain ⟨x103, h104, h⟩ := bind_some h
                                              refine o_of (e := [(171, .ref (OB + 1) (0 + Int.toNat x55.N * 1))]) (g0 rfl) (h_lix (Mk.refl _) rfl rfl rfl rfl rfl (idxV rfl h104) rfl rfl rfl) rfl ?_
                                              refine o_of (e := [(172, .t (.d (.seq 1 (List.map cI64 x103))))]) (g0 rfl) (h_lld (Mk.refl _) rfl rfl rfl (gb_box h104) (fl_at h104 rfl (fun _ => rfl)) rfl rfl rfl) rfl ?_
                                              refine o_c (g0 rfl) rfl rfl rfl (lenE _ _) trivial ?_
                                              refine o_s (.t (.d (.lit (.int .i64 0)))) (g0 rfl) rfl rfl rfl ?_
                                              refine o_nil ?_
                                              repeat (first | refine then_normal ?_ | refine then_exit ?_ | refine then_ret ?_ | refine block_normal ?_ | refine block_ret ?_ | refine block_exit ?_ | refine block_pass rfl ?_)
                                              refine c_block ?_
                                              refine c_fuelH (fun (q : Int × (List (Int × Int))) => [(0, .t (.d (.lit (.int .u8 (p0.toNat : Int))))), (8, .t (.hpt (cd 1 i32) 0)), (10, .t (.mpt 0)), (11, .t (.view 1 0 31 1 z52.length)), (13, .box [.d (.lit (.int .i64 x55.Kind)), .d (.lit (.int .i64 x55.N)), .d (.seq 1 (List.map cI64 x55.L))]), (76, .t (.d (.seq 3 (List.map cS_L19_Do p1)))), (77, .t (.d (.lit (.int .i64 (p1.length : Int))))), (78, .t (.d (.lit (.int .i64 z50)))), (135, .ref 13 1), (136, .t (.d (.lit (.int .i64 x55.N)))), (137, .t (.view 1 0 31 1 z52.length)), (138, .t (.d (.lit (.int .i64 (z52.length : Int))))), (139, .t (.d (.lit (.bool (decide (x55.N ≥ (z52.length : Int))))))), (142, .t (.view 1 0 31 1 z52.length)), (143, .ref 13 1), (144, .t (.d (.lit (.int .i64 x55.N)))), (146, .t (.d (.seq 1 (List.map cI64 x87)))), (147, .t (.d (.lit (.int .i64 (x87.length : Int))))), (148, .t (.d (.lit (.bool ((x87.length : Int) == 0))))), (159, .t (.hpt (cd 1 i32) 0)), (160, .t (.view 1 0 31 1 z52.length)), (161, .ref 13 1), (162, .t (.d (.lit (.int .i64 x55.N)))), (164, .t (.d (.seq 1 (List.map cI64 x95)))), (165, .t (.d (.lit (.int .i64 x97.1)))), (166, .t (.d (.lit (.bool (x97.1 != 2))))), (172, .t (.d (.seq 1 (List.map cI64 x103)))), (173, .t (.d (.lit (.int .i64 (x103.length : Int))))), (174, .t (.d (.lit (.int .i64 q.1)))), ((OB + 0), mpA (fun z : Int => Value.int .i64 z) (fun z : Int => D.lit (.int .i64 z)) q.2), ((OB + 1), gbA (cSl 1 cI64) z52), (HK, .hp (hpA x97.2))]) (fun nl10 => (fun (q : Int × (List (Int × Int))) => m_L19_SpaceOnce_l10 (m_L19_SpaceOnce_l4 p1 i32 p0 nl4) x103 z52 x55 i32 p0 z50 x97 nl10 q.1 q.2 = some r)) (x103.length + 1) (0, z51) [] h rfl ⟨.inr ⟨_, rfl, pure_hpA _⟩, by (repeat (first | exact ObP.nil | refine ObP.cons (.inl rfl) ?_ | refine ObP.cons (.inr (fun _ => rfl)) ?_ | refine ObP.cons (.inr (ob_box (fl_noPt _ _))) ?_ | refine ObP.cons (.inr (ob_gb _ _)) ?_))⟩ ⟨(.refl _), ⟨(.refl _), ⟨(.refl _), ⟨(.refl _), ⟨(.refl _), ⟨(.refl _), ⟨(.refl _), ⟨(.refl _), ⟨(.refl _), ⟨(.refl _), ⟨(.refl _), ⟨(.refl _), ⟨(.refl _), ⟨(.refl _), ⟨(.refl _), ⟨(.refl _), ⟨(.refl _), ⟨(.refl _), ⟨(.refl _), ⟨(.refl _), ⟨(.refl _), ⟨(.refl _), ⟨(.refl _), ⟨(.refl _), ⟨(.refl _), ⟨(.refl _), ⟨(.refl _), ⟨(.refl _), ⟨(.refl _), ⟨(.refl _), ⟨(.refl _), ⟨(.refl _), trivial⟩⟩⟩⟩⟩⟩⟩⟩⟩⟩⟩⟩⟩⟩⟩⟩⟩⟩⟩⟩⟩⟩⟩⟩⟩⟩⟩⟩⟩⟩⟩⟩ (by ((refine nr_of ?_; repeat (first | exact nr_nil | refine nr_cons rfl ?_ | refine nr_cons (nr_gb _ _ _) ?_)))) ?_
                                              rintro nl10 ⟨z105, z106⟩ h
                                              cases nl10 with
                                              | zero => exact none_ne h
                                              | succ nl10 =>
                                                refine c_seq ?_
                                                refine c_region ?_
                                                refine o_s (.t (.d (.lit (.bool (decide (z105 < (x103.length : Int))))))) (g0 rfl) rfl rfl rfl ?_
                                                refine o_nil ?_
                                                repeat (first | refine then_normal ?_ | refine then_exit ?_ | refine then_ret ?_ | refine block_normal ?_ | refine block_ret ?_ | refine block_exit ?_ | refine block_pass rfl ?_)
                                                refine c_seq ?_
                                                rcases bif_some h with ⟨h107, h⟩ | ⟨h107, h⟩
                                                · refine c_t h107 rfl ?_
                                                  refine c_skip ?_
                                                  repeat (first | refine then_normal ?_ | refine then_exit ?_ | refine then_ret ?_ | refine block_normal ?_ | refine block_ret ?_ | refine block_exit ?_ | refine block_pass rfl ?_)
                                                  refine c_seq ?_
                                                  refine c_block ?_
                                                  refine c_seq ?_
                                                  refine c_region ?_
                                                  obtain ⟨x108, h109, h⟩ := bind_some h
                                                  refine o_c (g0 rfl) rfl rfl rfl (idxE h109) (idxC h109) ?_
                                                  refine o_s (.t (.d (.lit (.int .i64 x108)))) (g0 rfl) rfl rfl rfl ?_
                                                  refine o_s (.t (.d (.lit (.int .i64 x108)))) (g0 rfl) rfl rfl rfl ?_
                                                  refine o_nil ?_
                                                  repeat (first | refine then_normal ?_ | refine then_exit ?_ | refine then_ret ?_ | refine block_normal ?_ | refine block_ret ?_ | refine block_exit ?_ | refine block_pass rfl ?_)
                                                  refine c_region ?_
                                                  refine o_s (.t (.mpt 0)) (g0 rfl) rfl rfl rfl ?_
                                                  refine o_s (.t (.d (.lit (.int .i64 x108)))) (g0 rfl) rfl rfl rfl ?_
                                                  refine o_of (e := [((OB + 0), mpA (fun z : Int => Value.int .i64 z) (fun z : Int => D.lit (.int .i64 z)) (mdel z106 x108))]) (g0 rfl) (h_mdl (kv := (fun z : Int => Value.int .i64 z)) (cv := (fun z : Int => D.lit (.int .i64 z))) (Mk.refl _) rfl rfl rfl rfl rfl rfl (keyInt (by kernel_rfl)) rfl rfl) rfl ?_
                                                  refine o_nil ?_
                                                  repeat (first | refine then_normal ?_ | refine then_exit ?_ | refine then_ret ?_ | refine block_normal ?_ | refine block_ret ?_ | refine block_exit ?_ | refine block_pass rfl ?_)
                                                  refine c_region ?_
                                                  refine o_s (.t (.d (.lit (.int .i64 (wi (z105 + 1)))))) (g0 rfl) rfl rfl rfl ?_
                                                  refine o_s (.t (.d (.lit (.int .i64 (wi (z105 + 1)))))) (g0 rfl) rfl rfl rfl ?_
                                                  refine o_nil ?_
                                                  repeat (first | refine then_normal ?_ | refine then_exit ?_ | refine then_ret ?_ | refine block_normal ?_ | refine block_ret ?_ | refine block_exit ?_ | refine block_pass rfl ?_)
                                                  exact ⟨nl10, ((wi (z105 + 1)), (mdel z106 x108)), [], Nat.lt_succ_self nl10, h, rfl, ⟨.inr ⟨_, rfl, pure_hpA _⟩, by (repeat (first | exact ObP.nil | refine ObP.cons (.inl rfl) ?_ | refine ObP.cons (.inr (fun _ => rfl)) ?_ | refine ObP.cons (.inr (ob_box (fl_noPt _ _))) ?_ | refine ObP.cons (.inr (ob_gb _ _)) ?_))⟩, ⟨(.refl _), ⟨(.refl _), ⟨(.refl _), ⟨(.refl _), ⟨(.refl _), ⟨(.refl _), ⟨(.refl _), ⟨(.refl _), ⟨(.refl _), ⟨(.refl _), ⟨(.refl _), ⟨(.refl _), ⟨(.refl _), ⟨(.refl _), ⟨(.refl _), ⟨(.refl _), ⟨(.refl _), ⟨(.refl _), ⟨(.refl _), ⟨(.refl _), ⟨(.refl _), ⟨(.refl _), ⟨(.refl _), ⟨(.refl _), ⟨(.refl _), ⟨(.refl _), ⟨(.refl _), ⟨(.refl _), ⟨(.refl _), ⟨(.refl _), ⟨(.refl _), ⟨(.refl _), trivial⟩⟩⟩⟩⟩⟩⟩⟩⟩⟩⟩⟩⟩⟩⟩⟩⟩⟩⟩⟩⟩⟩⟩⟩⟩⟩⟩⟩⟩⟩⟩⟩, (by ((refine nr_of ?_; repeat (first | exact nr_nil | refine nr_cons rfl ?_ | refine nr_cons (nr_gb _ _ _) ?_))))⟩
                                                · refine c_f h107 rfl ?_
                                                  refine c_exit ?_
                                                  repeat (first | refine then_normal ?_ | refine then_exit ?_ | refine then_ret ?_ | refine block_normal ?_ | refine block_ret ?_ | refine block_exit ?_ | refine block_pass rfl ?_)
                                                  exact ⟨z106, [], h, rfl, ⟨.inr ⟨_, rfl, pure_hpA _⟩, by (repeat (first | exact ObP.nil | refine ObP.cons (.inl rfl) ?_ | refine ObP.cons (.inr (fun _ => rfl)) ?_ | refine ObP.cons (.inr (ob_box (fl_noPt _ _))) ?_ | refine ObP.cons (.inr (ob_gb _ _)) ?_))⟩, ⟨(.refl _), ⟨(.refl _), ⟨(.refl _), ⟨(.refl _), ⟨(.refl _), ⟨(.refl _), ⟨(.refl _), ⟨(.refl _), ⟨(.refl _), ⟨(.refl _), ⟨(.refl _), ⟨(.refl _), ⟨(.refl _), ⟨(.refl _), ⟨(.refl _), ⟨(.refl _), ⟨(.refl _), ⟨(.refl _), ⟨(.refl _), ⟨(.refl _), ⟨(.refl _), ⟨(.refl _), ⟨(.refl _), ⟨(.refl _), ⟨(.refl _), ⟨(.refl _), ⟨(.refl _), ⟨(.refl _), ⟨(.refl _), trivial⟩⟩⟩⟩⟩⟩⟩⟩⟩⟩⟩⟩⟩⟩⟩⟩⟩⟩⟩⟩⟩⟩⟩⟩⟩⟩⟩⟩⟩, (by ((refine nr_of ?_; repeat (first | exact nr_nil | refine nr_cons rfl ?_ | refine nr_cons (nr_gb _ _ _) ?_))))⟩
                                            · rintro y100 h
                                              refine c_region ?_
                                              refine o_s (.t (.view 1 0 31 1 z52.length)) (g0 rfl) rfl rfl rfl ?_
                                              refine o_s (.ref 13 1) (g0 rfl) rfl rfl rfl ?_
                                              refine o_s (.t (.d (.lit (.int .i64 x55.N)))) (g0 rfl) rfl rfl rfl ?_
                                              obtain ⟨x101, h102, h⟩ := bind_some h
                                              refine o_of (e := [(184, .ref (OB + 1) (0 + Int.toNat x55.N * 1))]) (g0 rfl) (h_lix (Mk.refl _) rfl rfl rfl rfl rfl (idxV rfl h102) rfl rfl rfl) rfl ?_
                                              refine o_of (e := [((OB + 1), gbA (cSl 1 cI64) (z52.set (Int.toNat x55.N) []))]) (g0 rfl) (OpH.ob (h_lstN (k := 1) (Mk.refl _) rfl rfl rfl rfl (gb_box h102) rfl (fl_room h102 (fun _ => rfl)) (fl_put h102 ([] : (List Int)) (fun _ => rfl) rfl) (fl_noAgg _ _)) (gb_set h102)) rfl ?_
                                              refine o_nil ?_
                                              repeat (first | refine then_normal ?_ | refine then_exit ?_ | refine then_ret ?_ | refine block_normal ?_ | refine block_ret ?_ | refine block_exit ?_ | refine block_pass rfl ?_)
                                              exact ⟨(y100, (z52.set (Int.toNat x55.N) []), x97.2), [], h, rfl, ⟨.inr ⟨_, rfl, pure_hpA _⟩, by (repeat (first | exact ObP.nil | refine ObP.cons (.inl rfl) ?_ | refine ObP.cons (.inr (fun _ => rfl)) ?_ | refine ObP.cons (.inr (ob_box (fl_noPt _ _))) ?_ | refine ObP.cons (.inr (ob_gb _ _)) ?_))⟩, ⟨(.refl _), ⟨(.refl _), ⟨(.refl _), ⟨(.vwn (by first | rfl | (simp; done) | (dsimp only; omega) | (simp; omega))), ⟨(.refl _), ⟨(.refl _), ⟨(.refl _), ⟨(.refl _), ⟨(.refl _), ⟨(.refl _), trivial⟩⟩⟩⟩⟩⟩⟩⟩⟩⟩, (by ((refine nr_of ?_; repeat (first | exact nr_nil | refine nr_cons rfl ?_ | refine nr_cons (nr_gb _ _ _) ?_))))⟩
                                · refine c_f h84 rfl ?_
                                  refine c_skip ?_
                                  repeat (first | refine then_normal ?_ | refine then_exit ?_ | refine then_ret ?_ | refine block_normal ?_ | refine block_ret ?_ | refine block_exit ?_ | refine block_pass rfl ?_)
                                  exact ⟨(z51, z52, z53), [], h, rfl, ⟨.inr ⟨_, rfl, pure_hpA _⟩, by (repeat (first | exact ObP.nil | refine ObP.cons (.inl rfl) ?_ | refine ObP.cons (.inr (fun _ => rfl)) ?_ | refine ObP.cons (.inr (ob_box (fl_noPt _ _))) ?_ | refine ObP.cons (.inr (ob_gb _ _)) ?_))⟩, ⟨(.refl _), ⟨(.refl _), ⟨(.refl _), ⟨(.refl _), ⟨(.refl _), ⟨(.refl _), ⟨(.refl _), ⟨(.refl _), ⟨(.refl _), ⟨(.refl _), trivial⟩⟩⟩⟩⟩⟩⟩⟩⟩⟩, (by ((refine nr_of ?_; repeat (first | exact nr_nil | refine nr_cons rfl ?_ | refine nr_cons (nr_gb _ _ _) ?_))))⟩
                            · rintro ⟨y57, y58, y59⟩ h
                              refine c_seq ?_
                              refine c_region ?_
                              refine o_of (e := [(185, .t (.hpt (cd 1 i32) 0))]) (g0 rfl) (h_mv (Mk.refl _) (.inl rfl) rfl rfl rfl) rfl ?_
                              obtain ⟨x60, h61, h⟩ := bind_some h
                              refine o_of (e := [(HK, .hp (hpA x60.2)), (186, .t (.d (.lit (.int .i64 x60.1))))]) (g0 rfl) (h_call (Mk.refl _) rfl (σ := []) (fr := []) rfl rfl rfl rfl rfl rfl rfl (fch_space_Space_Free _ y59 _ h61) (pure_hpA _) (pure_hpA _) rfl rfl rfl rfl (.cons (.hpt _ _) .nil) rfl (.t (.flat rfl))) rfl ?_
                              refine o_s (.t (.d (.lit (.int .u8 (p0.toNat : Int))))) (g0 rfl) rfl rfl rfl ?_
                              refine o_c (g0 rfl) rfl rfl rfl (congrArg (fun z => A.t (.d (.lit (.int .i64 z)))) (i64_u8 _)) trivial ?_
                              refine o_s (.t (.mpt 0)) (g0 rfl) rfl rfl rfl ?_
                              refine o_of (e := [(190, .t (.d (.lit (.int .i64 (y57.length : Int)))))]) (g0 rfl) (h_mln (kv := (fun z : Int => Value.int .i64 z)) (cv := (fun z : Int => D.lit (.int .i64 z))) (Mk.refl _) rfl rfl rfl rfl rfl rfl rfl) rfl ?_
                              refine o_s (.t (.d (.lit (.int .i64 (wi ((p0.toNat : Int) - (y57.length : Int))))))) (g0 rfl) rfl rfl rfl ?_
                              refine o_s (.t (.d (.lit (.bool (x60.1 != (wi ((p0.toNat : Int) - (y57.length : Int)))))))) (g0 rfl) rfl rfl rfl ?_
                              refine o_nil ?_
                              repeat (first | refine then_normal ?_ | refine then_exit ?_ | refine then_ret ?_ | refine block_normal ?_ | refine block_ret ?_ | refine block_exit ?_ | refine block_pass rfl ?_)
                              rcases bif_some h with ⟨h62, h⟩ | ⟨h62, h⟩
                              · refine c_t h62 rfl ?_
                                refine c_seq ?_
                                refine c_region ?_
                                refine o_s (.t (.d (.lit (.bool false)))) (g0 rfl) rfl rfl rfl ?_
                                refine o_nil ?_
                                repeat (first | refine then_normal ?_ | refine then_exit ?_ | refine then_ret ?_ | refine block_normal ?_ | refine block_ret ?_ | refine block_exit ?_ | refine block_pass rfl ?_)
                                refine c_ret ?_
                                repeat (first | refine then_normal ?_ | refine then_exit ?_ | refine then_ret ?_ | refine block_normal ?_ | refine block_ret ?_ | refine block_exit ?_ | refine block_pass rfl ?_)
                                obtain rfl := Option.some.inj h
                                exact ⟨⟨_, rfl, (.refl _)⟩, trivial, rfl⟩
                              · refine c_f h62 rfl ?_
                                refine c_skip ?_
                                repeat (first | refine then_normal ?_ | refine then_exit ?_ | refine then_ret ?_ | refine block_normal ?_ | refine block_ret ?_ | refine block_exit ?_ | refine block_pass rfl ?_)
                                refine c_region ?_
                                refine o_s (.t (.d (.lit (.int .i64 (wi (z50 + 1)))))) (g0 rfl) rfl rfl rfl ?_
                                refine o_s (.t (.d (.lit (.int .i64 (wi (z50 + 1)))))) (g0 rfl) rfl rfl rfl ?_
                                refine o_nil ?_
                                repeat (first | refine then_normal ?_ | refine then_exit ?_ | refine then_ret ?_ | refine block_normal ?_ | refine block_ret ?_ | refine block_exit ?_ | refine block_pass rfl ?_)
                                exact ⟨nl4, ((wi (z50 + 1)), y57, y58, x60.2), [], Nat.lt_succ_self nl4, h, rfl, ⟨.inr ⟨_, rfl, pure_hpA _⟩, by (repeat (first | exact ObP.nil | refine ObP.cons (.inl rfl) ?_ | refine ObP.cons (.inr (fun _ => rfl)) ?_ | refine ObP.cons (.inr (ob_box (fl_noPt _ _))) ?_ | refine ObP.cons (.inr (ob_gb _ _)) ?_))⟩, ⟨(.refl _), ⟨(.refl _), ⟨(.refl _), ⟨(.refl _), ⟨(.refl _), ⟨(.refl _), ⟨(.refl _), ⟨(.refl _), ⟨(.refl _), ⟨(.refl _), trivial⟩⟩⟩⟩⟩⟩⟩⟩⟩⟩, (by ((refine nr_of ?_; repeat (first | exact nr_nil | refine nr_cons rfl ?_ | refine nr_cons (nr_gb _ _ _) ?_))))⟩
                          · refine c_f h54 rfl ?_
                            refine c_exit ?_
                            repeat (first | refine then_normal ?_ | refine then_exit ?_ | refine then_ret ?_ | refine block_normal ?_ | refine block_ret ?_ | refine block_exit ?_ | refine block_pass rfl ?_)
                            exact ⟨(z52, z53), [0], h, rfl, ⟨.inr ⟨_, rfl, pure_hpA _⟩, by (repeat (first | exact ObP.nil | refine ObP.cons (.inl rfl) ?_ | refine ObP.cons (.inr (fun _ => rfl)) ?_ | refine ObP.cons (.inr (ob_box (fl_noPt _ _))) ?_ | refine ObP.cons (.inr (ob_gb _ _)) ?_))⟩, ⟨(.refl _), ⟨(.refl _), ⟨(.refl _), ⟨(.refl _), ⟨(.refl _), ⟨(.refl _), trivial⟩⟩⟩⟩⟩⟩, (by ((refine nr_of ?_; repeat (first | exact nr_nil | refine nr_cons rfl ?_ | refine nr_cons (nr_gb _ _ _) ?_))))⟩
                      · rintro ⟨y34, y35⟩ h
                        refine c_cutH (fun (y36 : Hp) => [(0, .t (.d (.lit (.int .u8 (p0.toNat : Int))))), (8, .t (.hpt (cd 1 i32) 0)), (HK, .hp (hpA y36)), (OB + 0, .free), (OB + 1, .free)]) (fun (y36 : Hp) => m_L19_SpaceOnce_j2 i32 p0 y36 = some r) ?_ ?_
                        · refine c_seq ?_
                          refine c_region ?_
                          refine o_s (.t (.view 1 0 31 1 y34.length)) (g0 rfl) rfl rfl rfl ?_
                          refine o_of (e := [(195, .t (.d (.lit (.int .i64 (y34.length : Int)))))]) (g0 rfl) (h_lln (Mk.refl _) rfl rfl rfl rfl rfl rfl) rfl ?_
                          refine o_s (.t (.d (.lit (.int .i64 0)))) (g0 rfl) rfl rfl rfl ?_
                          refine o_nil ?_
                          repeat (first | refine then_normal ?_ | refine then_exit ?_ | refine then_ret ?_ | refine block_normal ?_ | refine block_ret ?_ | refine block_exit ?_ | refine block_pass rfl ?_)
                          refine c_block ?_
                          refine c_fuelH (fun (q : Int × Hp) => [(0, .t (.d (.lit (.int .u8 (p0.toNat : Int))))), (8, .t (.hpt (cd 1 i32) 0)), (194, .t (.view 1 0 31 1 y34.length)), (195, .t (.d (.lit (.int .i64 (y34.length : Int))))), (196, .t (.d (.lit (.int .i64 q.1)))), ((OB + 1), gbA (cSl 1 cI64) y34), (HK, .hp (hpA q.2)), (OB + 0, .free)]) (fun nl3 => (fun (q : Int × Hp) => m_L19_SpaceOnce_l3 y34 i32 p0 nl3 q.1 q.2 = some r)) (y34.length + 1) (0, y35) [] h rfl ⟨.inr ⟨_, rfl, pure_hpA _⟩, by (repeat (first | exact ObP.nil | refine ObP.cons (.inl rfl) ?_ | refine ObP.cons (.inr (fun _ => rfl)) ?_ | refine ObP.cons (.inr (ob_box (fl_noPt _ _))) ?_ | refine ObP.cons (.inr (ob_gb _ _)) ?_))⟩ ⟨(.refl _), ⟨(.refl _), ⟨(.refl _), ⟨(.refl _), ⟨(.refl _), ⟨(.refl _), ⟨(.refl _), ⟨(.refl _), trivial⟩⟩⟩⟩⟩⟩⟩⟩ (by ((refine nr_of ?_; repeat (first | exact nr_nil | refine nr_cons rfl ?_ | refine nr_cons (nr_gb _ _ _) ?_)))) ?_
                          rintro nl3 ⟨z42, z43⟩ h
                          cases nl3 with
                          | zero => exact none_ne h
                          | succ nl3 =>
                            refine c_seq ?_
                            refine c_region ?_
                            refine o_s (.t (.d (.lit (.bool (decide (z42 < (y34.length : Int))))))) (g0 rfl) rfl rfl rfl ?_
                            refine o_nil ?_
                            repeat (first | refine then_normal ?_ | refine then_exit ?_ | refine then_ret ?_ | refine block_normal ?_ | refine block_ret ?_ | refine block_exit ?_ | refine block_pass rfl ?_)
                            refine c_seq ?_
                            rcases bif_some h with ⟨h44, h⟩ | ⟨h44, h⟩
                            · refine c_t h44 rfl ?_
                              refine c_skip ?_
                              repeat (first | refine then_normal ?_ | refine then_exit ?_ | refine then_ret ?_ | refine block_normal ?_ | refine block_ret ?_ | refine block_exit ?_ | refine block_pass rfl ?_)
                              refine c_seq ?_
                              refine c_block ?_
                              refine c_seq ?_
                              refine c_region ?_
                              obtain ⟨x45, h46, h⟩ := bind_some h
                              refine o_of (e := [(198, .ref (OB + 1) (0 + Int.toNat z42 * 1))]) (g0 rfl) (h_lix (Mk.refl _) rfl rfl rfl rfl rfl (idxV rfl h46) rfl rfl rfl) rfl ?_
                              refine o_of (e := [(199, .t (.d (.seq 1 (List.map cI64 x45))))]) (g0 rfl) (h_lld (Mk.refl _) rfl rfl rfl (gb_box h46) (fl_at h46 rfl (fun _ => rfl)) rfl rfl rfl) rfl ?_
                              refine o_s (.t (.d (.seq 1 (List.map cI64 x45)))) (g0 rfl) rfl rfl rfl ?_
                              refine o_nil ?_
                              repeat (first | refine then_normal ?_ | refine then_exit ?_ | refine then_ret ?_ | refine block_normal ?_ | refine block_ret ?_ | refine block_exit ?_ | refine block_pass rfl ?_)
                              refine c_seq ?_
                              refine c_region ?_
                              refine o_of (e := [(200, .t (.hpt (cd 1 i32) 0))]) (g0 rfl) (h_mv (Mk.refl _) (.inl rfl) rfl rfl rfl) rfl ?_
                              refine o_s (.t (.d (.seq 1 (List.map cI64 x45)))) (g0 rfl) rfl rfl rfl ?_
                              obtain ⟨x47, h48, h⟩ := bind_some h
                              refine o_of (e := [(HK, .hp (hpA x47.2)), (202, .t (.d (.lit (.int .i64 x47.1))))]) (g0 rfl) (h_call (Mk.refl _) rfl (σ := []) (fr := []) rfl rfl rfl rfl rfl rfl rfl (fch_space_Space_Give _ _ z43 _ h48) (pure_hpA _) (pure_hpA _) rfl rfl rfl rfl (.cons (.hpt _ _) (.cons (.plain (.refl _) rfl) .nil)) rfl (.t (.flat rfl))) rfl ?_
                              refine o_s (.t (.d (.lit (.bool (x47.1 != 0))))) (g0 rfl) rfl rfl rfl ?_
                              refine o_nil ?_
                              repeat (first | refine then_normal ?_ | refine then_exit ?_ | refine then_ret ?_ | refine block_normal ?_ | refine block_ret ?_ | refine block_exit ?_ | refine block_pass rfl ?_)
                              rcases bif_some h with ⟨h49, h⟩ | ⟨h49, h⟩
                              · refine c_t h49 rfl ?_
                                refine c_seq ?_
                                refine c_region ?_
                                refine o_s (.t (.d (.lit (.bool false)))) (g0 rfl) rfl rfl rfl ?_
                                refine o_nil ?_
                                repeat (first | refine then_normal ?_ | refine then_exit ?_ | refine then_ret ?_ | refine block_normal ?_ | refine block_ret ?_ | refine block_exit ?_ | refine block_pass rfl ?_)
                                refine c_ret ?_
                                repeat (first | refine then_normal ?_ | refine then_exit ?_ | refine then_ret ?_ | refine block_normal ?_ | refine block_ret ?_ | refine block_exit ?_ | refine block_pass rfl ?_)
                                obtain rfl := Option.some.inj h
                                exact ⟨⟨_, rfl, (.refl _)⟩, trivial, rfl⟩
                              · refine c_f h49 rfl ?_
                                refine c_skip ?_
                                repeat (first | refine then_normal ?_ | refine then_exit ?_ | refine then_ret ?_ | refine block_normal ?_ | refine block_ret ?_ | refine block_exit ?_ | refine block_pass rfl ?_)
                                refine c_region ?_
                                refine o_s (.t (.d (.lit (.int .i64 (wi (z42 + 1)))))) (g0 rfl) rfl rfl rfl ?_
                                refine o_s (.t (.d (.lit (.int .i64 (wi (z42 + 1)))))) (g0 rfl) rfl rfl rfl ?_
                                refine o_nil ?_
                                repeat (first | refine then_normal ?_ | refine then_exit ?_ | refine then_ret ?_ | refine block_normal ?_ | refine block_ret ?_ | refine block_exit ?_ | refine block_pass rfl ?_)
                                exact ⟨nl3, ((wi (z42 + 1)), x47.2), [], Nat.lt_succ_self nl3, h, rfl, ⟨.inr ⟨_, rfl, pure_hpA _⟩, by (repeat (first | exact ObP.nil | refine ObP.cons (.inl rfl) ?_ | refine ObP.cons (.inr (fun _ => rfl)) ?_ | refine ObP.cons (.inr (ob_box (fl_noPt _ _))) ?_ | refine ObP.cons (.inr (ob_gb _ _)) ?_))⟩, ⟨(.refl _), ⟨(.refl _), ⟨(.refl _), ⟨(.refl _), ⟨(.refl _), ⟨(.refl _), ⟨(.refl _), ⟨(.refl _), trivial⟩⟩⟩⟩⟩⟩⟩⟩, (by ((refine nr_of ?_; repeat (first | exact nr_nil | refine nr_cons rfl ?_ | refine nr_cons (nr_gb _ _ _) ?_))))⟩
                            · refine c_f h44 rfl ?_
                              refine c_exit ?_
                              repeat (first | refine then_normal ?_ | refine then_exit ?_ | refine then_ret ?_ | refine block_normal ?_ | refine block_ret ?_ | refine block_exit ?_ | refine block_pass rfl ?_)
                              exact ⟨z43, [1], h, rfl, ⟨.inr ⟨_, rfl, pure_hpA _⟩, by (repeat (first | exact ObP.nil | refine ObP.cons (.inl rfl) ?_ | refine ObP.cons (.inr (fun _ => rfl)) ?_ | refine ObP.cons (.inr (ob_box (fl_noPt _ _))) ?_ | refine ObP.cons (.inr (ob_gb _ _)) ?_))⟩, ⟨(.refl _), ⟨(.refl _), ⟨(.refl _), ⟨(.refl _), ⟨(.refl _), trivial⟩⟩⟩⟩⟩, (by ((refine nr_of ?_; repeat (first | exact nr_nil | refine nr_cons rfl ?_ | refine nr_cons (nr_gb _ _ _) ?_))))⟩
                        · rintro y36 h
                          refine c_seq ?_
                          refine c_region ?_
                          refine o_of (e := [(205, .t (.hpt (cd 1 i32) 0))]) (g0 rfl) (h_mv (Mk.refl _) (.inl rfl) rfl rfl rfl) rfl ?_
                          obtain ⟨x37, h38, h⟩ := bind_some h
                          refine o_of (e := [(HK, .hp (hpA x37.2)), (206, .t (.d (.lit (.int .i64 x37.1))))]) (g0 rfl) (h_call (Mk.refl _) rfl (σ := []) (fr := []) rfl rfl rfl rfl rfl rfl rfl (fch_space_Space_Free _ y36 _ h38) (pure_hpA _) (pure_hpA _) rfl rfl rfl rfl (.cons (.hpt _ _) .nil) rfl (.t (.flat rfl))) rfl ?_
                          refine o_s (.t (.d (.lit (.int .u8 (p0.toNat : Int))))) (g0 rfl) rfl rfl rfl ?_
                          refine o_c (g0 rfl) rfl rfl rfl (congrArg (fun z => A.t (.d (.lit (.int .i64 z)))) (i64_u8 _)) trivial ?_
                          refine o_s (.t (.d (.lit (.bool (x37.1 == (p0.toNat : Int)))))) (g0 rfl) rfl rfl rfl ?_
                          refine o_s (.t (.d (.lit (.bool (x37.1 == (p0.toNat : Int)))))) (g0 rfl) rfl rfl rfl ?_
                          rcases bif_some h with ⟨h39, h⟩ | ⟨h39, h⟩
                          · refine o_of (e := [(211, .t (.hpt (cd 1 i32) 0))]) (gy rfl rfl rfl h39) (h_mv (Mk.refl _) (.inl rfl) rfl rfl rfl) rfl ?_
                            obtain ⟨x40, h41, h⟩ := bind_some h
                            refine o_of (e := [(HK, .hp (hpA x40.2)), (212, .t (.d (.lit (.int .i64 x40.1))))]) (gy rfl rfl rfl h39) (h_call (Mk.refl _) rfl (σ := []) (fr := []) rfl rfl rfl rfl rfl rfl rfl (fch_space_Space_Top _ x37.2 _ h41) (pure_hpA _) (pure_hpA _) rfl rfl rfl rfl (.cons (.hpt _ _) .nil) rfl (.t (.flat rfl))) rfl ?_
                            refine o_s (.t (.d (.lit (.bool (x40.1 == (-1)))))) (gy rfl rfl rfl h39) rfl rfl rfl ?_
                            refine o_pk (.t (.d (.lit (.bool (x40.1 == (-1)))))) (b := true) h39 (g0 rfl) rfl rfl rfl rfl rfl ?_
                            refine o_s (.t (.d (.lit (.bool (x40.1 == (-1)))))) (g0 rfl) rfl rfl rfl ?_
                            refine o_nil ?_
                            repeat (first | refine then_normal ?_ | refine then_exit ?_ | refine then_ret ?_ | refine block_normal ?_ | refine block_ret ?_ | refine block_exit ?_ | refine block_pass rfl ?_)
                            refine c_ret ?_
                            repeat (first | refine then_normal ?_ | refine then_exit ?_ | refine then_ret ?_ | refine block_normal ?_ | refine block_ret ?_ | refine block_exit ?_ | refine block_pass rfl ?_)
                            obtain rfl := Option.some.inj h
                            exact ⟨⟨_, rfl, (.refl _)⟩, trivial, rfl⟩
                          · refine o_skip rfl rfl rfl h39 rfl rfl ?_
                            refine o_skip rfl rfl rfl h39 rfl rfl ?_
                            refine o_skip rfl rfl rfl h39 rfl rfl ?_
                            refine o_pk (.t (.d (.lit (.bool false)))) (b := false) h39 (g0 rfl) rfl rfl rfl rfl rfl ?_
                            refine o_s (.t (.d (.lit (.bool false)))) (g0 rfl) rfl rfl rfl ?_
                            refine o_nil ?_
                            repeat (first | refine then_normal ?_ | refine then_exit ?_ | refine then_ret ?_ | refine block_normal ?_ | refine block_ret ?_ | refine block_exit ?_ | refine block_pass rfl ?_)
                            refine c_ret ?_
                            repeat (first | refine then_normal ?_ | refine then_exit ?_ | refine then_ret ?_ | refine block_normal ?_ | refine block_ret ?_ | refine block_exit ?_ | refine block_pass rfl ?_)
                            obtain rfl := Option.some.inj h
                            exact ⟨⟨_, rfl, (.refl _)⟩, trivial, rfl⟩

end Go.Proofs.YtimdogdplphmoaaDoor
