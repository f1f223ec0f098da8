/-
  Walks of functions: each function does what its model tells. Printed by a program of this claim's own (gen.py) off the given translation.
-/
import Derived.Test.YtimdogdplphmoaaDoorSqM
import Derived.Test.YtimdogdplphmoaaDoorTop
namespace Go.Proofs.YtimdogdplphmoaaDoor
open Go Go.RowKit
set_option linter.unusedVariables false
set_option maxHeartbeats 4000000
set_option maxRecDepth 20000
theorem fch_L19_whole (p0 : (Option Nat)) (p1 : (List Bool)) (w0 : Hp) (r : (Bool × Hp)) (h : m_L19_whole p0 p1 w0 = some r) : FCH Tryd.prog 17 [.t ((ptT 1 p0)), .t (.d (.seq 1 (List.map cBool p1)))] [] [] (hpA w0) (hpA r.2) (.t (.d (.lit (.bool r.1)))) := by
  refine fch_mk (rs := [.tmp 4]) (n := 128) [] Tryd.func17 rfl rfl (Nat.le_of_ble_eq_true rfl) rfl (pins := []) rfl (L := [(HK, .hp (hpA w0)), (0, .t ((ptT 1 p0))), (1, .t (.d (.seq 1 (List.map cBool p1))))]) rfl ?_
  refine c_seq ?_
  refine c_region ?_
  refine o_s (.t (.d (.lit (.bool false)))) (g0 rfl) rfl rfl rfl ?_
  refine o_nil ?_
  repeat (first | refine then_normal ?_ | refine then_exit ?_ | refine then_ret ?_ | refine block_normal ?_ | refine block_ret ?_ | refine block_exit ?_ | refine block_pass rfl ?_)
  refine c_seq ?_
  refine c_region ?_
  refine o_s (.t (.d (.lit (.int .i64 (-1))))) (g0 rfl) rfl rfl rfl ?_
  refine o_nil ?_
  repeat (first | refine then_normal ?_ | refine then_exit ?_ | refine then_ret ?_ | refine block_normal ?_ | refine block_ret ?_ | refine block_exit ?_ | refine block_pass rfl ?_)
  refine c_cutH (fun (q : Int × Hp) => [(0, .t ((ptT 1 p0))), (1, .t (.d (.seq 1 (List.map cBool p1)))), (5, .t (.d (.lit (.int .i64 q.1)))), (HK, .hp (hpA q.2))]) (fun (q : Int × Hp) => m_L19_whole_j1 p0 p1 q.1 q.2 = some r) ?_ ?_
  · refine c_seq ?_
    refine c_region ?_
    refine o_s (.t (.d (.seq 1 (List.map cBool p1)))) (g0 rfl) rfl rfl rfl ?_
    refine o_c (g0 rfl) rfl rfl rfl (lenE _ _) trivial ?_
    refine o_s (.t (.d (.lit (.int .i64 0)))) (g0 rfl) rfl rfl rfl ?_
    refine o_nil ?_
    repeat (first | refine then_normal ?_ | refine then_exit ?_ | refine then_ret ?_ | refine block_normal ?_ | refine block_ret ?_ | refine block_exit ?_ | refine block_pass rfl ?_)
    refine c_block ?_
    refine c_fuelH (fun (q : Int × Int × Hp) => [(0, .t ((ptT 1 p0))), (1, .t (.d (.seq 1 (List.map cBool p1)))), (5, .t (.d (.lit (.int .i64 q.1)))), (11, .t (.d (.seq 1 (List.map cBool p1)))), (12, .t (.d (.lit (.int .i64 (p1.length : Int))))), (13, .t (.d (.lit (.int .i64 q.2.1)))), (HK, .hp (hpA q.2.2))]) (fun nl10 => (fun (q : Int × Int × Hp) => m_L19_whole_l10 p1 p0 nl10 q.1 q.2.1 q.2.2 = some r)) (p1.length + 1) ((-1), 0, w0) [] h rfl ⟨.inr ⟨_, rfl, pure_hpA _⟩, by (repeat (first | exact ObP.nil | refine ObP.cons (.inl rfl) ?_ | refine ObP.cons (.inr (fun _ => rfl)) ?_ | refine ObP.cons (.inr (ob_box (fl_noPt _ _))) ?_ | refine ObP.cons (.inr (ob_gb _ _)) ?_))⟩ ⟨(.refl _), ⟨(.refl _), ⟨(.refl _), ⟨(.refl _), ⟨(.refl _), ⟨(.refl _), ⟨(.refl _), trivial⟩⟩⟩⟩⟩⟩⟩ rfl ?_
    rintro nl10 ⟨z54, z55, z56⟩ h
    cases nl10 with
    | zero => exact none_ne h
    | succ nl10 =>
      refine c_seq ?_
      refine c_region ?_
      refine o_s (.t (.d (.lit (.bool (decide (z55 < (p1.length : Int))))))) (g0 rfl) rfl rfl rfl ?_
      refine o_nil ?_
      repeat (first | refine then_normal ?_ | refine then_exit ?_ | refine then_ret ?_ | refine block_normal ?_ | refine block_ret ?_ | refine block_exit ?_ | refine block_pass rfl ?_)
      refine c_seq ?_
      rcases bif_some h with ⟨h57, h⟩ | ⟨h57, h⟩
      · refine c_t h57 rfl ?_
        refine c_skip ?_
        repeat (first | refine then_normal ?_ | refine then_exit ?_ | refine then_ret ?_ | refine block_normal ?_ | refine block_ret ?_ | refine block_exit ?_ | refine block_pass rfl ?_)
        refine c_seq ?_
        refine c_block ?_
        refine c_seq ?_
        refine c_region ?_
        refine o_s (.t (.d (.lit (.int .i64 z55)))) (g0 rfl) rfl rfl rfl ?_
        obtain ⟨x58, h59, h⟩ := bind_some h
        refine o_c (g0 rfl) rfl rfl rfl (idxE h59) (idxC h59) ?_
        refine o_s (.t (.d (.lit (.bool x58)))) (g0 rfl) rfl rfl rfl ?_
        refine o_s (.t (.d (.lit (.int .i64 z55)))) (g0 rfl) rfl rfl rfl ?_
        refine o_s (.t (.d (.lit (.bool x58)))) (g0 rfl) rfl rfl rfl ?_
        refine o_nil ?_
        repeat (first | refine then_normal ?_ | refine then_exit ?_ | refine then_ret ?_ | refine block_normal ?_ | refine block_ret ?_ | refine block_exit ?_ | refine block_pass rfl ?_)
        refine c_seq ?_
        refine c_seq ?_
        refine c_region ?_
        refine o_of (e := [(18, .t ((ptT 1 p0)))]) (g0 rfl) (h_mv (Mk.refl _) (.inl rfl) (cpO_pt rfl) rfl rfl) rfl ?_
        refine o_s (.t (.d (.lit (.int .i64 z55)))) (g0 rfl) rfl rfl rfl ?_
        obtain ⟨x60, h61, h⟩ := bind_some h
        refine o_of (e := [(HK, .hp (hpA x60.2)), (20, .t (.d (.lit (.bool x60.1))))]) (g0 rfl) (h_call (Mk.refl _) rfl (σ := []) (fr := []) rfl rfl rfl rfl rfl rfl rfl (fch_space_Space_Has _ _ z56 _ h61) (pure_hpA _) (pure_hpA _) rfl rfl rfl rfl (.cons (argPt rfl) (.cons (.plain (.refl _) rfl) .nil)) rfl (.t (.flat rfl))) rfl ?_
        refine o_s (.t (.d (.lit (.bool x58)))) (g0 rfl) rfl rfl rfl ?_
        refine o_s (.t (.d (.lit (.bool (x60.1 == x58))))) (g0 rfl) rfl rfl rfl ?_
        refine o_nil ?_
        repeat (first | refine then_normal ?_ | refine then_exit ?_ | refine then_ret ?_ | refine block_normal ?_ | refine block_ret ?_ | refine block_exit ?_ | refine block_pass rfl ?_)
        rcases bif_some h with ⟨h62, h⟩ | ⟨h62, h⟩
        · refine c_t h62 rfl ?_
          refine c_seq ?_
          refine c_region ?_
          refine o_s (.t (.d (.lit (.bool false)))) (g0 rfl) rfl rfl rfl ?_
          refine o_nil ?_
          repeat (first | refine then_normal ?_ | refine then_exit ?_ | refine then_ret ?_ | refine block_normal ?_ | refine block_ret ?_ | refine block_exit ?_ | refine block_pass rfl ?_)
          refine c_ret ?_
          repeat (first | refine then_normal ?_ | refine then_exit ?_ | refine then_ret ?_ | refine block_normal ?_ | refine block_ret ?_ | refine block_exit ?_ | refine block_pass rfl ?_)
          obtain rfl := Option.some.inj h
          exact ⟨⟨_, rfl, (.refl _)⟩, trivial, rfl⟩
        · refine c_f h62 rfl ?_
          refine c_skip ?_
          repeat (first | refine then_normal ?_ | refine then_exit ?_ | refine then_ret ?_ | refine block_normal ?_ | refine block_ret ?_ | refine block_exit ?_ | refine block_pass rfl ?_)
          refine c_seq ?_
          refine c_region ?_
          refine o_s (.t (.d (.lit (.bool x58)))) (g0 rfl) rfl rfl rfl ?_
          refine o_nil ?_
          repeat (first | refine then_normal ?_ | refine then_exit ?_ | refine then_ret ?_ | refine block_normal ?_ | refine block_ret ?_ | refine block_exit ?_ | refine block_pass rfl ?_)
          rcases bif_some h with ⟨h63, h⟩ | ⟨h63, h⟩
          · refine c_t h63 rfl ?_
            refine c_region ?_
            refine o_s (.t (.d (.lit (.int .i64 z55)))) (g0 rfl) rfl rfl rfl ?_
            refine o_s (.t (.d (.lit (.int .i64 z55)))) (g0 rfl) rfl rfl rfl ?_
            refine o_nil ?_
            repeat (first | refine then_normal ?_ | refine then_exit ?_ | refine then_ret ?_ | refine block_normal ?_ | refine block_ret ?_ | refine block_exit ?_ | refine block_pass rfl ?_)
            refine c_region ?_
            refine o_s (.t (.d (.lit (.int .i64 (wi (z55 + 1)))))) (g0 rfl) rfl rfl rfl ?_
            refine o_s (.t (.d (.lit (.int .i64 (wi (z55 + 1)))))) (g0 rfl) rfl rfl rfl ?_
            refine o_nil ?_
            repeat (first | refine then_normal ?_ | refine then_exit ?_ | refine then_ret ?_ | refine block_normal ?_ | refine block_ret ?_ | refine block_exit ?_ | refine block_pass rfl ?_)
            exact ⟨nl10, (z55, (wi (z55 + 1)), x60.2), [], Nat.lt_succ_self nl10, h, rfl, ⟨.inr ⟨_, rfl, pure_hpA _⟩, by (repeat (first | exact ObP.nil | refine ObP.cons (.inl rfl) ?_ | refine ObP.cons (.inr (fun _ => rfl)) ?_ | refine ObP.cons (.inr (ob_box (fl_noPt _ _))) ?_ | refine ObP.cons (.inr (ob_gb _ _)) ?_))⟩, ⟨(.refl _), ⟨(.refl _), ⟨(.refl _), ⟨(.refl _), ⟨(.refl _), ⟨(.refl _), ⟨(.refl _), trivial⟩⟩⟩⟩⟩⟩⟩, rfl⟩
          · refine c_f h63 rfl ?_
            refine c_skip ?_
            repeat (first | refine then_normal ?_ | refine then_exit ?_ | refine then_ret ?_ | refine block_normal ?_ | refine block_ret ?_ | refine block_exit ?_ | refine block_pass rfl ?_)
            refine c_region ?_
            refine o_s (.t (.d (.lit (.int .i64 (wi (z55 + 1)))))) (g0 rfl) rfl rfl rfl ?_
            refine o_s (.t (.d (.lit (.int .i64 (wi (z55 + 1)))))) (g0 rfl) rfl rfl rfl ?_
            refine o_nil ?_
            repeat (first | refine then_normal ?_ | refine then_exit ?_ | refine then_ret ?_ | refine block_normal ?_ | refine block_ret ?_ | refine block_exit ?_ | refine block_pass rfl ?_)
            exact ⟨nl10, (z54, (wi (z55 + 1)), x60.2), [], Nat.lt_succ_self nl10, h, rfl, ⟨.inr ⟨_, rfl, pure_hpA _⟩, by (repeat (first | exact ObP.nil | refine ObP.cons (.inl rfl) ?_ | refine ObP.cons (.inr (fun _ => rfl)) ?_ | refine ObP.cons (.inr (ob_box (fl_noPt _ _))) ?_ | refine ObP.cons (.inr (ob_gb _ _)) ?_))⟩, ⟨(.refl _), ⟨(.refl _), ⟨(.refl _), ⟨(.refl _), ⟨(.refl _), ⟨(.refl _), ⟨(.refl _), trivial⟩⟩⟩⟩⟩⟩⟩, rfl⟩
      · refine c_f h57 rfl ?_
        refine c_exit ?_
        repeat (first | refine then_normal ?_ | refine then_exit ?_ | refine then_ret ?_ | refine block_normal ?_ | refine block_ret ?_ | refine block_exit ?_ | refine block_pass rfl ?_)
        exact ⟨(z54, z56), [], h, rfl, ⟨.inr ⟨_, rfl, pure_hpA _⟩, by (repeat (first | exact ObP.nil | refine ObP.cons (.inl rfl) ?_ | refine ObP.cons (.inr (fun _ => rfl)) ?_ | refine ObP.cons (.inr (ob_box (fl_noPt _ _))) ?_ | refine ObP.cons (.inr (ob_gb _ _)) ?_))⟩, ⟨(.refl _), ⟨(.refl _), ⟨(.refl _), ⟨(.refl _), trivial⟩⟩⟩⟩, rfl⟩
  · rintro ⟨y1, y2⟩ h
    refine c_seq ?_
    refine c_region ?_
    refine o_s (.t (.d (.lit (.int .i64 0)))) (g0 rfl) rfl rfl rfl ?_
    refine o_nil ?_
    repeat (first | refine then_normal ?_ | refine then_exit ?_ | refine then_ret ?_ | refine block_normal ?_ | refine block_ret ?_ | refine block_exit ?_ | refine block_pass rfl ?_)
    refine c_cutH (fun (q : Int × Hp) => [(0, .t ((ptT 1 p0))), (1, .t (.d (.seq 1 (List.map cBool p1)))), (5, .t (.d (.lit (.int .i64 y1)))), (8, .t (.d (.lit (.int .i64 q.1)))), (HK, .hp (hpA q.2))]) (fun (q : Int × Hp) => m_L19_whole_j2 p1 p0 y1 q.1 q.2 = some r) ?_ ?_
    · refine c_seq ?_
      refine c_region ?_
      refine o_of (e := [(26, .t ((ptT 1 p0)))]) (g0 rfl) (h_mv (Mk.refl _) (.inl rfl) (cpO_pt rfl) rfl rfl) rfl ?_
      obtain ⟨x30, h31, h⟩ := bind_some h
      refine o_of (e := [(HK, .hp (hpA x30.2)), (27, .t (.d (.seq 2 (List.map cS_api_Run x30.1))))]) (g0 rfl) (h_call (Mk.refl _) rfl (σ := []) (fr := []) rfl rfl rfl rfl rfl rfl rfl (fch_space_Space_Runs _ y2 _ h31) (pure_hpA _) (pure_hpA _) rfl rfl rfl rfl (.cons (argPt rfl) .nil) rfl (.t (.flat rfl))) rfl ?_
      refine o_c (g0 rfl) rfl rfl rfl (lenE _ _) trivial ?_
      refine o_s (.t (.d (.lit (.int .i64 0)))) (g0 rfl) rfl rfl rfl ?_
      refine o_nil ?_
      repeat (first | refine then_normal ?_ | refine then_exit ?_ | refine then_ret ?_ | refine block_normal ?_ | refine block_ret ?_ | refine block_exit ?_ | refine block_pass rfl ?_)
      refine c_block ?_
      refine c_fuelH (fun (q : Int × Int) => [(0, .t ((ptT 1 p0))), (1, .t (.d (.seq 1 (List.map cBool p1)))), (5, .t (.d (.lit (.int .i64 y1)))), (8, .t (.d (.lit (.int .i64 q.1)))), (27, .t (.d (.seq 2 (List.map cS_api_Run x30.1)))), (28, .t (.d (.lit (.int .i64 (x30.1.length : Int))))), (29, .t (.d (.lit (.int .i64 q.2)))), (HK, .hp (hpA x30.2))]) (fun nl5 => (fun (q : Int × Int) => m_L19_whole_l5 x30 p1 p0 y1 nl5 q.1 q.2 = some r)) (x30.1.length + 1) (0, 0) [] h rfl ⟨.inr ⟨_, rfl, pure_hpA _⟩, by (repeat (first | exact ObP.nil | refine ObP.cons (.inl rfl) ?_ | refine ObP.cons (.inr (fun _ => rfl)) ?_ | refine ObP.cons (.inr (ob_box (fl_noPt _ _))) ?_ | refine ObP.cons (.inr (ob_gb _ _)) ?_))⟩ ⟨(.refl _), ⟨(.refl _), ⟨(.refl _), ⟨(.refl _), ⟨(.refl _), ⟨(.refl _), ⟨(.refl _), ⟨(.refl _), trivial⟩⟩⟩⟩⟩⟩⟩⟩ rfl ?_
      rintro nl5 ⟨z32, z33⟩ h
      cases nl5 with
      | zero => exact none_ne h
      | succ nl5 =>
        refine c_seq ?_
        refine c_region ?_
        refine o_s (.t (.d (.lit (.bool (decide (z33 < (x30.1.length : Int))))))) (g0 rfl) rfl rfl rfl ?_
        refine o_nil ?_
        repeat (first | refine then_normal ?_ | refine then_exit ?_ | refine then_ret ?_ | refine block_normal ?_ | refine block_ret ?_ | refine block_exit ?_ | refine block_pass rfl ?_)
        refine c_seq ?_
        rcases bif_some h with ⟨h34, h⟩ | ⟨h34, h⟩
        · refine c_t h34 rfl ?_
          refine c_skip ?_
          repeat (first | refine then_normal ?_ | refine then_exit ?_ | refine then_ret ?_ | refine block_normal ?_ | refine block_ret ?_ | refine block_exit ?_ | refine block_pass rfl ?_)
          refine c_seq ?_
          refine c_block ?_
          refine c_seq ?_
          refine c_region ?_
          obtain ⟨x35, h36, h⟩ := bind_some h
          refine o_c (g0 rfl) rfl rfl rfl (idxE h36) (idxC h36) ?_
          refine o_s (.t (.agg [.lit (.int .i64 x35.From), .lit (.int .i64 x35.Len)])) (g0 rfl) rfl rfl rfl ?_
          refine o_s (.box [.d (.lit (.int .i64 0)), .d (.lit (.int .i64 0))]) (g0 rfl) rfl rfl rfl ?_
          refine o_st (.box [.d (.lit (.int .i64 x35.From)), .d (.lit (.int .i64 x35.Len))]) (g0 rfl) rfl rfl rfl ?_
          refine o_nil ?_
          repeat (first | refine then_normal ?_ | refine then_exit ?_ | refine then_ret ?_ | refine block_normal ?_ | refine block_ret ?_ | refine block_exit ?_ | refine block_pass rfl ?_)
          refine c_cutH (fun (y37 : Bool) => [(0, .t ((ptT 1 p0))), (1, .t (.d (.seq 1 (List.map cBool p1)))), (5, .t (.d (.lit (.int .i64 y1)))), (8, .t (.d (.lit (.int .i64 z32)))), (10, .box [.d (.lit (.int .i64 x35.From)), .d (.lit (.int .i64 x35.Len))]), (27, .t (.d (.seq 2 (List.map cS_api_Run x30.1)))), (28, .t (.d (.lit (.int .i64 (x30.1.length : Int))))), (29, .t (.d (.lit (.int .i64 z33)))), (38, .ref 10 1), (39, .t (.d (.lit (.int .i64 x35.Len)))), (40, .t (.d (.lit (.bool (decide (x35.Len < 1)))))), (43, .ref 10 0), (44, .t (.d (.lit (.int .i64 x35.From)))), (45, .ref 10 1), (46, .t (.d (.lit (.int .i64 x35.Len)))), (47, .t (.d (.lit (.int .i64 (wi (x35.From + x35.Len)))))), (48, .t (.d (.seq 1 (List.map cBool p1)))), (49, .t (.d (.lit (.int .i64 (p1.length : Int))))), (50, .t (.d (.lit (.bool (decide ((wi (x35.From + x35.Len)) > (p1.length : Int))))))), (53, .t (.d (.lit (.int .i64 z32)))), (54, .t (.d (.lit (.bool (decide (z32 > 0)))))), (55, .t (.d (.lit (.bool (decide (z32 > 0)))))), (60, .t (.d (.lit (.bool y37)))), (HK, .hp (hpA x30.2))]) (fun (y37 : Bool) => m_L19_whole_j6 (m_L19_whole_l5 x30 p1 p0 y1 nl5) x35 p1 x30 z33 z32 y37 = some r) ?_ ?_
          · refine c_seq ?_
            refine c_region ?_
            refine o_s (.ref 10 0) (g0 rfl) rfl rfl rfl ?_
            refine o_s (.t (.d (.lit (.int .i64 x35.From)))) (g0 rfl) rfl rfl rfl ?_
            refine o_s (.t (.d (.lit (.int .i64 z32)))) (g0 rfl) rfl rfl rfl ?_
            refine o_s (.t (.d (.lit (.bool (decide (x35.From < z32)))))) (g0 rfl) rfl rfl rfl ?_
            refine o_s (.t (.d (.lit (.bool (decide (x35.From < z32)))))) (g0 rfl) rfl rfl rfl ?_
            rcases bif_some h with ⟨h49, h⟩ | ⟨h49, h⟩
            · refine o_skip rfl rfl rfl h49 rfl rfl ?_
              refine o_skip rfl rfl rfl h49 rfl rfl ?_
              refine o_skip rfl rfl rfl h49 rfl rfl ?_
              refine o_pk (.t (.d (.lit (.bool true)))) (b := true) h49 (g0 rfl) rfl rfl rfl rfl rfl ?_
              refine o_s (.t (.d (.lit (.bool true)))) (g0 rfl) rfl rfl rfl ?_
              refine o_skip rfl rfl rfl rfl rfl rfl ?_
              refine o_skip rfl rfl rfl rfl rfl rfl ?_
              refine o_skip rfl rfl rfl rfl rfl rfl ?_
              refine o_skip rfl rfl rfl rfl rfl rfl ?_
              refine o_skip rfl rfl rfl rfl rfl rfl ?_
              refine o_skip rfl rfl rfl rfl rfl rfl ?_
              refine o_skip rfl rfl rfl rfl rfl rfl ?_
              refine o_skip rfl rfl rfl rfl rfl rfl ?_
              refine o_pk (.t (.d (.lit (.bool true)))) (b := true) rfl (g0 rfl) rfl rfl rfl rfl rfl ?_
              refine o_s (.t (.d (.lit (.bool true)))) (g0 rfl) rfl rfl rfl ?_
              refine o_skip rfl rfl rfl rfl rfl rfl ?_
              refine o_skip rfl rfl rfl rfl rfl rfl ?_
              refine o_skip rfl rfl rfl rfl rfl rfl ?_
              refine o_un rfl rfl rfl rfl rfl ?_
              refine o_un rfl rfl rfl rfl rfl ?_
              refine o_un rfl rfl rfl rfl rfl ?_
              refine o_un rfl rfl rfl rfl rfl ?_
              refine o_skip rfl rfl rfl rfl rfl rfl ?_
              refine o_pk (.t (.d (.lit (.bool true)))) (b := true) rfl (g0 rfl) rfl rfl rfl rfl rfl ?_
              refine o_nil ?_
              repeat (first | refine then_normal ?_ | refine then_exit ?_ | refine then_ret ?_ | refine block_normal ?_ | refine block_ret ?_ | refine block_exit ?_ | refine block_pass rfl ?_)
              refine c_t rfl rfl ?_
              refine c_seq ?_
              refine c_region ?_
              refine o_s (.t (.d (.lit (.bool false)))) (g0 rfl) rfl rfl rfl ?_
              refine o_nil ?_
              repeat (first | refine then_normal ?_ | refine then_exit ?_ | refine then_ret ?_ | refine block_normal ?_ | refine block_ret ?_ | refine block_exit ?_ | refine block_pass rfl ?_)
              refine c_ret ?_
              repeat (first | refine then_normal ?_ | refine then_exit ?_ | refine then_ret ?_ | refine block_normal ?_ | refine block_ret ?_ | refine block_exit ?_ | refine block_pass rfl ?_)
              obtain rfl := Option.some.inj h
              exact ⟨⟨_, rfl, (.refl _)⟩, trivial, rfl⟩
            · refine o_s (.ref 10 1) (gy rfl rfl rfl h49) rfl rfl rfl ?_
              refine o_s (.t (.d (.lit (.int .i64 x35.Len)))) (gy rfl rfl rfl h49) rfl rfl rfl ?_
              refine o_s (.t (.d (.lit (.bool (decide (x35.Len < 1)))))) (gy rfl rfl rfl h49) rfl rfl rfl ?_
              refine o_pk (.t (.d (.lit (.bool (decide (x35.Len < 1)))))) (b := false) h49 (g0 rfl) rfl rfl rfl rfl rfl ?_
              refine o_s (.t (.d (.lit (.bool (decide (x35.Len < 1)))))) (g0 rfl) rfl rfl rfl ?_
              rcases bif_some h with ⟨h50, h⟩ | ⟨h50, h⟩
              · refine o_skip rfl rfl rfl h50 rfl rfl ?_
                refine o_skip rfl rfl rfl h50 rfl rfl ?_
                refine o_skip rfl rfl rfl h50 rfl rfl ?_
                refine o_skip rfl rfl rfl h50 rfl rfl ?_
                refine o_skip rfl rfl rfl h50 rfl rfl ?_
                refine o_skip rfl rfl rfl h50 rfl rfl ?_
                refine o_skip rfl rfl rfl h50 rfl rfl ?_
                refine o_skip rfl rfl rfl h50 rfl rfl ?_
                refine o_pk (.t (.d (.lit (.bool true)))) (b := true) h50 (g0 rfl) rfl rfl rfl rfl rfl ?_
                refine o_s (.t (.d (.lit (.bool true)))) (g0 rfl) rfl rfl rfl ?_
                refine o_skip rfl rfl rfl rfl rfl rfl ?_
                refine o_skip rfl rfl rfl rfl rfl rfl ?_
                refine o_skip rfl rfl rfl rfl rfl rfl ?_
                refine o_un rfl rfl rfl rfl rfl ?_
                refine o_un rfl rfl rfl rfl rfl ?_
                refine o_un rfl rfl rfl rfl rfl ?_
                refine o_un rfl rfl rfl rfl rfl ?_
                refine o_skip rfl rfl rfl rfl rfl rfl ?_
                refine o_pk (.t (.d (.lit (.bool true)))) (b := true) rfl (g0 rfl) rfl rfl rfl rfl rfl ?_
                refine o_nil ?_
                repeat (first | refine then_normal ?_ | refine then_exit ?_ | refine then_ret ?_ | refine block_normal ?_ | refine block_ret ?_ | refine block_exit ?_ | refine block_pass rfl ?_)
                refine c_t rfl rfl ?_
                refine c_seq ?_
                refine c_region ?_
                refine o_s (.t (.d (.lit (.bool false)))) (g0 rfl) rfl rfl rfl ?_
                refine o_nil ?_
                repeat (first | refine then_normal ?_ | refine then_exit ?_ | refine then_ret ?_ | refine block_normal ?_ | refine block_ret ?_ | refine block_exit ?_ | refine block_pass rfl ?_)
                refine c_ret ?_
                repeat (first | refine then_normal ?_ | refine then_exit ?_ | refine then_ret ?_ | refine block_normal ?_ | refine block_ret ?_ | refine block_exit ?_ | refine block_pass rfl ?_)
                obtain rfl := Option.some.inj h
                exact ⟨⟨_, rfl, (.refl _)⟩, trivial, rfl⟩
              · refine o_s (.ref 10 0) (gy rfl rfl rfl h50) rfl rfl rfl ?_
                refine o_s (.t (.d (.lit (.int .i64 x35.From)))) (gy rfl rfl rfl h50) rfl rfl rfl ?_
                refine o_s (.ref 10 1) (gy rfl rfl rfl h50) rfl rfl rfl ?_
                refine o_s (.t (.d (.lit (.int .i64 x35.Len)))) (gy rfl rfl rfl h50) rfl rfl rfl ?_
                refine o_s (.t (.d (.lit (.int .i64 (wi (x35.From + x35.Len)))))) (gy rfl rfl rfl h50) rfl rfl rfl ?_
                refine o_s (.t (.d (.seq 1 (List.map cBool p1)))) (gy rfl rfl rfl h50) rfl rfl rfl ?_
                refine o_c (gy rfl rfl rfl h50) rfl rfl rfl (lenE _ _) trivial ?_
                refine o_s (.t (.d (.lit (.bool (decide ((wi (x35.From + x35.Len)) > (p1.length : Int))))))) (gy rfl rfl rfl h50) rfl rfl rfl ?_
                refine o_pk (.t (.d (.lit (.bool (decide ((wi (x35.From + x35.Len)) > (p1.length : Int))))))) (b := false) h50 (g0 rfl) rfl rfl rfl rfl rfl ?_
                refine o_s (.t (.d (.lit (.bool (decide ((wi (x35.From + x35.Len)) > (p1.length : Int))))))) (g0 rfl) rfl rfl rfl ?_
                rcases bif_some h with ⟨h51, h⟩ | ⟨h51, h⟩
                · refine o_skip rfl rfl rfl h51 rfl rfl ?_
                  refine o_skip rfl rfl rfl h51 rfl rfl ?_
                  refine o_skip rfl rfl rfl h51 rfl rfl ?_
                  refine o_un rfl rfl rfl rfl rfl ?_
                  refine o_un rfl rfl rfl rfl rfl ?_
                  refine o_un rfl rfl rfl rfl rfl ?_
                  refine o_un rfl rfl rfl rfl rfl ?_
                  refine o_skip rfl rfl rfl h51 rfl rfl ?_
                  refine o_pk (.t (.d (.lit (.bool true)))) (b := true) h51 (g0 rfl) rfl rfl rfl rfl rfl ?_
                  refine o_nil ?_
                  repeat (first | refine then_normal ?_ | refine then_exit ?_ | refine then_ret ?_ | refine block_normal ?_ | refine block_ret ?_ | refine block_exit ?_ | refine block_pass rfl ?_)
                  refine c_t rfl rfl ?_
                  refine c_seq ?_
                  refine c_region ?_
                  refine o_s (.t (.d (.lit (.bool false)))) (g0 rfl) rfl rfl rfl ?_
                  refine o_nil ?_
                  repeat (first | refine then_normal ?_ | refine then_exit ?_ | refine then_ret ?_ | refine block_normal ?_ | refine block_ret ?_ | refine block_exit ?_ | refine block_pass rfl ?_)
                  refine c_ret ?_
                  repeat (first | refine then_normal ?_ | refine then_exit ?_ | refine then_ret ?_ | refine block_normal ?_ | refine block_ret ?_ | refine block_exit ?_ | refine block_pass rfl ?_)
                  obtain rfl := Option.some.inj h
                  exact ⟨⟨_, rfl, (.refl _)⟩, trivial, rfl⟩
                · refine o_s (.t (.d (.lit (.int .i64 z32)))) (gy rfl rfl rfl h51) rfl rfl rfl ?_
                  refine o_s (.t (.d (.lit (.bool (decide (z32 > 0)))))) (gy rfl rfl rfl h51) rfl rfl rfl ?_
                  refine o_s (.t (.d (.lit (.bool (decide (z32 > 0)))))) (gy rfl rfl rfl h51) rfl rfl rfl ?_
                  rcases bif_some h with ⟨h52, h⟩ | ⟨h52, h⟩
                  · refine o_s (.ref 10 0) (gy rfl rfl rfl h52) rfl rfl rfl ?_
                    refine o_s (.t (.d (.lit (.int .i64 x35.From)))) (gy rfl rfl rfl h52) rfl rfl rfl ?_
                    refine o_s (.t (.d (.lit (.int .i64 z32)))) (gy rfl rfl rfl h52) rfl rfl rfl ?_
                    refine o_s (.t (.d (.lit (.bool (x35.From == z32))))) (gy rfl rfl rfl h52) rfl rfl rfl ?_
                    refine o_pk (.t (.d (.lit (.bool (x35.From == z32))))) (b := true) h52 (gy rfl rfl rfl h51) rfl rfl rfl rfl rfl ?_
                    refine o_pk (.t (.d (.lit (.bool (x35.From == z32))))) (b := false) h51 (g0 rfl) rfl rfl rfl rfl rfl ?_
                    refine o_nil ?_
                    repeat (first | refine then_normal ?_ | refine then_exit ?_ | refine then_ret ?_ | refine block_normal ?_ | refine block_ret ?_ | refine block_exit ?_ | refine block_pass rfl ?_)
                    rcases bif_some h with ⟨h53, h⟩ | ⟨h53, h⟩
                    · refine c_t h53 rfl ?_
                      refine c_seq ?_
                      refine c_region ?_
                      refine o_s (.t (.d (.lit (.bool false)))) (g0 rfl) rfl rfl rfl ?_
                      refine o_nil ?_
                      repeat (first | refine then_normal ?_ | refine then_exit ?_ | refine then_ret ?_ | refine block_normal ?_ | refine block_ret ?_ | refine block_exit ?_ | refine block_pass rfl ?_)
                      refine c_ret ?_
                      repeat (first | refine then_normal ?_ | refine then_exit ?_ | refine then_ret ?_ | refine block_normal ?_ | refine block_ret ?_ | refine block_exit ?_ | refine block_pass rfl ?_)
                      obtain rfl := Option.some.inj h
                      exact ⟨⟨_, rfl, (.refl _)⟩, trivial, rfl⟩
                    · refine c_f h53 rfl ?_
                      refine c_skip ?_
                      repeat (first | refine then_normal ?_ | refine then_exit ?_ | refine then_ret ?_ | refine block_normal ?_ | refine block_ret ?_ | refine block_exit ?_ | refine block_pass rfl ?_)
                      exact ⟨(x35.From == z32), [], h, rfl, ⟨.inr ⟨_, rfl, pure_hpA _⟩, by (repeat (first | exact ObP.nil | refine ObP.cons (.inl rfl) ?_ | refine ObP.cons (.inr (fun _ => rfl)) ?_ | refine ObP.cons (.inr (ob_box (fl_noPt _ _))) ?_ | refine ObP.cons (.inr (ob_gb _ _)) ?_))⟩, ⟨(.refl _), ⟨(.refl _), ⟨(.refl _), ⟨(.refl _), ⟨(.refl _), ⟨(.refl _), ⟨(.refl _), ⟨(.refl _), ⟨(.refl _), ⟨(.refl _), ⟨(.refl _), ⟨(.refl _), ⟨(.refl _), ⟨(.refl _), ⟨(.refl _), ⟨(.refl _), ⟨(.refl _), ⟨(.refl _), ⟨(.refl _), ⟨(.refl _), ⟨(.refl _), ⟨(.refl _), ⟨(.refl _), ⟨(.refl _), trivial⟩⟩⟩⟩⟩⟩⟩⟩⟩⟩⟩⟩⟩⟩⟩⟩⟩⟩⟩⟩⟩⟩⟩⟩, rfl⟩
                  · refine o_skip rfl rfl rfl h52 rfl rfl ?_
                    refine o_skip rfl rfl rfl h52 rfl rfl ?_
                    refine o_skip rfl rfl rfl h52 rfl rfl ?_
                    refine o_skip rfl rfl rfl h52 rfl rfl ?_
                    refine o_pk (.t (.d (.lit (.bool false)))) (b := false) h52 (gy rfl rfl rfl h51) rfl rfl rfl rfl rfl ?_
                    refine o_pk (.t (.d (.lit (.bool false)))) (b := false) h51 (g0 rfl) rfl rfl rfl rfl rfl ?_
                    refine o_nil ?_
                    repeat (first | refine then_normal ?_ | refine then_exit ?_ | refine then_ret ?_ | refine block_normal ?_ | refine block_ret ?_ | refine block_exit ?_ | refine block_pass rfl ?_)
                    refine c_f rfl rfl ?_
                    refine c_skip ?_
                    repeat (first | refine then_normal ?_ | refine then_exit ?_ | refine then_ret ?_ | refine block_normal ?_ | refine block_ret ?_ | refine block_exit ?_ | refine block_pass rfl ?_)
                    exact ⟨false, [], h, rfl, ⟨.inr ⟨_, rfl, pure_hpA _⟩, by (repeat (first | exact ObP.nil | refine ObP.cons (.inl rfl) ?_ | refine ObP.cons (.inr (fun _ => rfl)) ?_ | refine ObP.cons (.inr (ob_box (fl_noPt _ _))) ?_ | refine ObP.cons (.inr (ob_gb _ _)) ?_))⟩, ⟨(.refl _), ⟨(.refl _), ⟨(.refl _), ⟨(.refl _), ⟨(.refl _), ⟨(.refl _), ⟨(.refl _), ⟨(.refl _), ⟨(.refl _), ⟨(.refl _), ⟨(.refl _), ⟨(.refl _), ⟨(.refl _), ⟨(.refl _), ⟨(.refl _), ⟨(.refl _), ⟨(.refl _), ⟨(.refl _), ⟨(.refl _), ⟨(.refl _), ⟨(.refl _), ⟨(.refl _), ⟨(.refl _), ⟨(.refl _), trivial⟩⟩⟩⟩⟩⟩⟩⟩⟩⟩⟩⟩⟩⟩⟩⟩⟩⟩⟩⟩⟩⟩⟩⟩, rfl⟩
          · rintro y37 h
            refine c_cutH (fun (y38 : Int) => [(0, .t ((ptT 1 p0))), (1, .t (.d (.seq 1 (List.map cBool p1)))), (5, .t (.d (.lit (.int .i64 y1)))), (8, .t (.d (.lit (.int .i64 y38)))), (10, .box [.d (.lit (.int .i64 x35.From)), .d (.lit (.int .i64 x35.Len))]), (27, .t (.d (.seq 2 (List.map cS_api_Run x30.1)))), (28, .t (.d (.lit (.int .i64 (x30.1.length : Int))))), (29, .t (.d (.lit (.int .i64 z33)))), (38, .ref 10 1), (39, .t (.d (.lit (.int .i64 x35.Len)))), (40, .t (.d (.lit (.bool (decide (x35.Len < 1)))))), (43, .ref 10 0), (44, .t (.d (.lit (.int .i64 x35.From)))), (45, .ref 10 1), (46, .t (.d (.lit (.int .i64 x35.Len)))), (47, .t (.d (.lit (.int .i64 (wi (x35.From + x35.Len)))))), (48, .t (.d (.seq 1 (List.map cBool p1)))), (49, .t (.d (.lit (.int .i64 (p1.length : Int))))), (50, .t (.d (.lit (.bool (decide ((wi (x35.From + x35.Len)) > (p1.length : Int))))))), (53, .t (.d (.lit (.int .i64 z32)))), (54, .t (.d (.lit (.bool (decide (z32 > 0)))))), (55, .t (.d (.lit (.bool (decide (z32 > 0)))))), (60, .t (.d (.lit (.bool y37)))), (HK, .hp (hpA x30.2))]) (fun (y38 : Int) => m_L19_whole_j7 (m_L19_whole_l5 x30 p1 p0 y1 nl5) x35 p1 x30 z33 y38 = some r) ?_ ?_
            · refine c_block ?_
              refine c_fuelH (fun (z44 : Int) => [(0, .t ((ptT 1 p0))), (1, .t (.d (.seq 1 (List.map cBool p1)))), (5, .t (.d (.lit (.int .i64 y1)))), (8, .t (.d (.lit (.int .i64 z44)))), (10, .box [.d (.lit (.int .i64 x35.From)), .d (.lit (.int .i64 x35.Len))]), (27, .t (.d (.seq 2 (List.map cS_api_Run x30.1)))), (28, .t (.d (.lit (.int .i64 (x30.1.length : Int))))), (29, .t (.d (.lit (.int .i64 z33)))), (38, .ref 10 1), (39, .t (.d (.lit (.int .i64 x35.Len)))), (40, .t (.d (.lit (.bool (decide (x35.Len < 1)))))), (43, .ref 10 0), (44, .t (.d (.lit (.int .i64 x35.From)))), (45, .ref 10 1), (46, .t (.d (.lit (.int .i64 x35.Len)))), (47, .t (.d (.lit (.int .i64 (wi (x35.From + x35.Len)))))), (48, .t (.d (.seq 1 (List.map cBool p1)))), (49, .t (.d (.lit (.int .i64 (p1.length : Int))))), (50, .t (.d (.lit (.bool (decide ((wi (x35.From + x35.Len)) > (p1.length : Int))))))), (53, .t (.d (.lit (.int .i64 z32)))), (54, .t (.d (.lit (.bool (decide (z32 > 0)))))), (55, .t (.d (.lit (.bool (decide (z32 > 0)))))), (60, .t (.d (.lit (.bool y37)))), (HK, .hp (hpA x30.2))]) (fun nl9 => (fun (z44 : Int) => m_L19_whole_l9 (m_L19_whole_l5 x30 p1 p0 y1 nl5) x35 p1 x30 z33 nl9 z44 = some r)) (Int.toNat x35.From + 1) z32 [] h rfl ⟨.inr ⟨_, rfl, pure_hpA _⟩, by (repeat (first | exact ObP.nil | refine ObP.cons (.inl rfl) ?_ | refine ObP.cons (.inr (fun _ => rfl)) ?_ | refine ObP.cons (.inr (ob_box (fl_noPt _ _))) ?_ | refine ObP.cons (.inr (ob_gb _ _)) ?_))⟩ ⟨(.refl _), ⟨(.refl _), ⟨(.refl _), ⟨(.refl _), ⟨(.refl _), ⟨(.refl _), ⟨(.refl _), ⟨(.refl _), ⟨(.refl _), ⟨(.refl _), ⟨(.refl _), ⟨(.refl _), ⟨(.refl _), ⟨(.refl _), ⟨(.refl _), ⟨(.refl _), ⟨(.refl _), ⟨(.refl _), ⟨(.refl _), ⟨(.refl _), ⟨(.refl _), ⟨(.refl _), ⟨(.refl _), ⟨(.refl _), trivial⟩⟩⟩⟩⟩⟩⟩⟩⟩⟩⟩⟩⟩⟩⟩⟩⟩⟩⟩⟩⟩⟩⟩⟩ rfl ?_
              rintro nl9 z44 h
              cases nl9 with
              | zero => exact none_ne h
              | succ nl9 =>
                refine c_seq ?_
                refine c_seq ?_
                refine c_region ?_
                refine o_s (.t (.d (.lit (.int .i64 z44)))) (g0 rfl) rfl rfl rfl ?_
                refine o_s (.ref 10 0) (g0 rfl) rfl rfl rfl ?_
                refine o_s (.t (.d (.lit (.int .i64 x35.From)))) (g0 rfl) rfl rfl rfl ?_
                refine o_s (.t (.d (.lit (.bool (decide (z44 < x35.From)))))) (g0 rfl) rfl rfl rfl ?_
                refine o_nil ?_
                repeat (first | refine then_normal ?_ | refine then_exit ?_ | refine then_ret ?_ | refine block_normal ?_ | refine block_ret ?_ | refine block_exit ?_ | refine block_pass rfl ?_)
                rcases bif_some h with ⟨h45, h⟩ | ⟨h45, h⟩
                · refine c_t h45 rfl ?_
                  refine c_skip ?_
                  repeat (first | refine then_normal ?_ | refine then_exit ?_ | refine then_ret ?_ | refine block_normal ?_ | refine block_ret ?_ | refine block_exit ?_ | refine block_pass rfl ?_)
                  refine c_seq ?_
                  refine c_block ?_
                  refine c_seq ?_
                  refine c_region ?_
                  refine o_s (.t (.d (.seq 1 (List.map cBool p1)))) (g0 rfl) rfl rfl rfl ?_
                  refine o_s (.t (.d (.lit (.int .i64 z44)))) (g0 rfl) rfl rfl rfl ?_
                  obtain ⟨x46, h47, h⟩ := bind_some h
                  refine o_c (g0 rfl) rfl rfl rfl (idxE h47) (idxC h47) ?_
                  refine o_s (.t (.d (.lit (.bool x46)))) (g0 rfl) rfl rfl rfl ?_
                  refine o_s (.t (.d (.lit (.bool (!x46))))) (g0 rfl) rfl rfl rfl ?_
                  refine o_nil ?_
                  repeat (first | refine then_normal ?_ | refine then_exit ?_ | refine then_ret ?_ | refine block_normal ?_ | refine block_ret ?_ | refine block_exit ?_ | refine block_pass rfl ?_)
                  rcases bif_some h with ⟨h48, h⟩ | ⟨h48, h⟩
                  · refine c_t h48 rfl ?_
                    refine c_seq ?_
                    refine c_region ?_
                    refine o_s (.t (.d (.lit (.bool false)))) (g0 rfl) rfl rfl rfl ?_
                    refine o_nil ?_
                    repeat (first | refine then_normal ?_ | refine then_exit ?_ | refine then_ret ?_ | refine block_normal ?_ | refine block_ret ?_ | refine block_exit ?_ | refine block_pass rfl ?_)
                    refine c_ret ?_
                    repeat (first | refine then_normal ?_ | refine then_exit ?_ | refine then_ret ?_ | refine block_normal ?_ | refine block_ret ?_ | refine block_exit ?_ | refine block_pass rfl ?_)
                    obtain rfl := Option.some.inj h
                    exact ⟨⟨_, rfl, (.refl _)⟩, trivial, rfl⟩
                  · refine c_f h48 rfl ?_
                    refine c_skip ?_
                    repeat (first | refine then_normal ?_ | refine then_exit ?_ | refine then_ret ?_ | refine block_normal ?_ | refine block_ret ?_ | refine block_exit ?_ | refine block_pass rfl ?_)
                    refine c_region ?_
                    refine o_s (.t (.d (.lit (.int .i64 z44)))) (g0 rfl) rfl rfl rfl ?_
                    refine o_s (.t (.d (.lit (.int .i64 (wi (z44 + 1)))))) (g0 rfl) rfl rfl rfl ?_
                    refine o_s (.t (.d (.lit (.int .i64 (wi (z44 + 1)))))) (g0 rfl) rfl rfl rfl ?_
                    refine o_nil ?_
                    repeat (first | refine then_normal ?_ | refine then_exit ?_ | refine then_ret ?_ | refine block_normal ?_ | refine block_ret ?_ | refine block_exit ?_ | refine block_pass rfl ?_)
                    exact ⟨nl9, (wi (z44 + 1)), [], Nat.lt_succ_self nl9, h, rfl, ⟨.inr ⟨_, rfl, pure_hpA _⟩, by (repeat (first | exact ObP.nil | refine ObP.cons (.inl rfl) ?_ | refine ObP.cons (.inr (fun _ => rfl)) ?_ | refine ObP.cons (.inr (ob_box (fl_noPt _ _))) ?_ | refine ObP.cons (.inr (ob_gb _ _)) ?_))⟩, ⟨(.refl _), ⟨(.refl _), ⟨(.refl _), ⟨(.refl _), ⟨(.refl _), ⟨(.refl _), ⟨(.refl _), ⟨(.refl _), ⟨(.refl _), ⟨(.refl _), ⟨(.refl _), ⟨(.refl _), ⟨(.refl _), ⟨(.refl _), ⟨(.refl _), ⟨(.refl _), ⟨(.refl _), ⟨(.refl _), ⟨(.refl _), ⟨(.refl _), ⟨(.refl _), ⟨(.refl _), ⟨(.refl _), ⟨(.refl _), trivial⟩⟩⟩⟩⟩⟩⟩⟩⟩⟩⟩⟩⟩⟩⟩⟩⟩⟩⟩⟩⟩⟩⟩⟩, rfl⟩
                · refine c_f h45 rfl ?_
                  refine c_exit ?_
                  repeat (first | refine then_normal ?_ | refine then_exit ?_ | refine then_ret ?_ | refine block_normal ?_ | refine block_ret ?_ | refine block_exit ?_ | refine block_pass rfl ?_)
                  exact ⟨z44, [], h, rfl, ⟨.inr ⟨_, rfl, pure_hpA _⟩, by (repeat (first | exact ObP.nil | refine ObP.cons (.inl rfl) ?_ | refine ObP.cons (.inr (fun _ => rfl)) ?_ | refine ObP.cons (.inr (ob_box (fl_noPt _ _))) ?_ | refine ObP.cons (.inr (ob_gb _ _)) ?_))⟩, ⟨(.refl _), ⟨(.refl _), ⟨(.refl _), ⟨(.refl _), ⟨(.refl _), ⟨(.refl _), ⟨(.refl _), ⟨(.refl _), ⟨(.refl _), ⟨(.refl _), ⟨(.refl _), ⟨(.refl _), ⟨(.refl _), ⟨(.refl _), ⟨(.refl _), ⟨(.refl _), ⟨(.refl _), ⟨(.refl _), ⟨(.refl _), ⟨(.refl _), ⟨(.refl _), ⟨(.refl _), ⟨(.refl _), ⟨(.refl _), trivial⟩⟩⟩⟩⟩⟩⟩⟩⟩⟩⟩⟩⟩⟩⟩⟩⟩⟩⟩⟩⟩⟩⟩⟩, rfl⟩
            · rintro y38 h
              refine c_block ?_
              refine c_fuelH (fun (z39 : Int) => [(0, .t ((ptT 1 p0))), (1, .t (.d (.seq 1 (List.map cBool p1)))), (5, .t (.d (.lit (.int .i64 y1)))), (8, .t (.d (.lit (.int .i64 z39)))), (10, .box [.d (.lit (.int .i64 x35.From)), .d (.lit (.int .i64 x35.Len))]), (27, .t (.d (.seq 2 (List.map cS_api_Run x30.1)))), (28, .t (.d (.lit (.int .i64 (x30.1.length : Int))))), (29, .t (.d (.lit (.int .i64 z33)))), (38, .ref 10 1), (39, .t (.d (.lit (.int .i64 x35.Len)))), (40, .t (.d (.lit (.bool (decide (x35.Len < 1)))))), (43, .ref 10 0), (44, .t (.d (.lit (.int .i64 x35.From)))), (45, .ref 10 1), (46, .t (.d (.lit (.int .i64 x35.Len)))), (47, .t (.d (.lit (.int .i64 (wi (x35.From + x35.Len)))))), (48, .t (.d (.seq 1 (List.map cBool p1)))), (49, .t (.d (.lit (.int .i64 (p1.length : Int))))), (50, .t (.d (.lit (.bool (decide ((wi (x35.From + x35.Len)) > (p1.length : Int))))))), (53, .t (.d (.lit (.int .i64 z32)))), (54, .t (.d (.lit (.bool (decide (z32 > 0)))))), (55, .t (.d (.lit (.bool (decide (z32 > 0)))))), (60, .t (.d (.lit (.bool y37)))), (HK, .hp (hpA x30.2))]) (fun nl8 => (fun (z39 : Int) => m_L19_whole_l8 (m_L19_whole_l5 x30 p1 p0 y1 nl5) x35 p1 x30 z33 nl8 z39 = some r)) (Int.toNat (wi (x35.From + x35.Len)) + 1) y38 [] h rfl ⟨.inr ⟨_, rfl, pure_hpA _⟩, by (repeat (first | exact ObP.nil | refine ObP.cons (.inl rfl) ?_ | refine ObP.cons (.inr (fun _ => rfl)) ?_ | refine ObP.cons (.inr (ob_box (fl_noPt _ _))) ?_ | refine ObP.cons (.inr (ob_gb _ _)) ?_))⟩ ⟨(.refl _), ⟨(.refl _), ⟨(.refl _), ⟨(.refl _), ⟨(.refl _), ⟨(.refl _), ⟨(.refl _), ⟨(.refl _), ⟨(.refl _), ⟨(.refl _), ⟨(.refl _), ⟨(.refl _), ⟨(.refl _), ⟨(.refl _), ⟨(.refl _), ⟨(.refl _), ⟨(.refl _), ⟨(.refl _), ⟨(.refl _), ⟨(.refl _), ⟨(.refl _), ⟨(.refl _), ⟨(.refl _), ⟨(.refl _), trivial⟩⟩⟩⟩⟩⟩⟩⟩⟩⟩⟩⟩⟩⟩⟩⟩⟩⟩⟩⟩⟩⟩⟩⟩ rfl ?_
              rintro nl8 z39 h
              cases nl8 with
              | zero => exact none_ne h
              | succ nl8 =>
                refine c_seq ?_
                refine c_seq ?_
                refine c_region ?_
                refine o_s (.t (.d (.lit (.int .i64 z39)))) (g0 rfl) rfl rfl rfl ?_
                refine o_s (.ref 10 0) (g0 rfl) rfl rfl rfl ?_
                refine o_s (.t (.d (.lit (.int .i64 x35.From)))) (g0 rfl) rfl rfl rfl ?_
                refine o_s (.ref 10 1) (g0 rfl) rfl rfl rfl ?_
                refine o_s (.t (.d (.lit (.int .i64 x35.Len)))) (g0 rfl) rfl rfl rfl ?_
                refine o_s (.t (.d (.lit (.int .i64 (wi (x35.From + x35.Len)))))) (g0 rfl) rfl rfl rfl ?_
                refine o_s (.t (.d (.lit (.bool (decide (z39 < (wi (x35.From + x35.Len)))))))) (g0 rfl) rfl rfl rfl ?_
                refine o_nil ?_
                repeat (first | refine then_normal ?_ | refine then_exit ?_ | refine then_ret ?_ | refine block_normal ?_ | refine block_ret ?_ | refine block_exit ?_ | refine block_pass rfl ?_)
                rcases bif_some h with ⟨h40, h⟩ | ⟨h40, h⟩
                · refine c_t h40 rfl ?_
                  refine c_skip ?_
                  repeat (first | refine then_normal ?_ | refine then_exit ?_ | refine then_ret ?_ | refine block_normal ?_ | refine block_ret ?_ | refine block_exit ?_ | refine block_pass rfl ?_)
                  refine c_seq ?_
                  refine c_block ?_
                  refine c_seq ?_
                  refine c_region ?_
                  refine o_s (.t (.d (.seq 1 (List.map cBool p1)))) (g0 rfl) rfl rfl rfl ?_
                  refine o_s (.t (.d (.lit (.int .i64 z39)))) (g0 rfl) rfl rfl rfl ?_
                  obtain ⟨x41, h42, h⟩ := bind_some h
                  refine o_c (g0 rfl) rfl rfl rfl (idxE h42) (idxC h42) ?_
                  refine o_s (.t (.d (.lit (.bool x41)))) (g0 rfl) rfl rfl rfl ?_
                  refine o_nil ?_
                  repeat (first | refine then_normal ?_ | refine then_exit ?_ | refine then_ret ?_ | refine block_normal ?_ | refine block_ret ?_ | refine block_exit ?_ | refine block_pass rfl ?_)
                  rcases bif_some h with ⟨h43, h⟩ | ⟨h43, h⟩
                  · refine c_t h43 rfl ?_
                    refine c_seq ?_
                    refine c_region ?_
                    refine o_s (.t (.d (.lit (.bool false)))) (g0 rfl) rfl rfl rfl ?_
                    refine o_nil ?_
                    repeat (first | refine then_normal ?_ | refine then_exit ?_ | refine then_ret ?_ | refine block_normal ?_ | refine block_ret ?_ | refine block_exit ?_ | refine block_pass rfl ?_)
                    refine c_ret ?_
                    repeat (first | refine then_normal ?_ | refine then_exit ?_ | refine then_ret ?_ | refine block_normal ?_ | refine block_ret ?_ | refine block_exit ?_ | refine block_pass rfl ?_)
                    obtain rfl := Option.some.inj h
                    exact ⟨⟨_, rfl, (.refl _)⟩, trivial, rfl⟩
                  · refine c_f h43 rfl ?_
                    refine c_skip ?_
                    repeat (first | refine then_normal ?_ | refine then_exit ?_ | refine then_ret ?_ | refine block_normal ?_ | refine block_ret ?_ | refine block_exit ?_ | refine block_pass rfl ?_)
                    refine c_region ?_
                    refine o_s (.t (.d (.lit (.int .i64 z39)))) (g0 rfl) rfl rfl rfl ?_
                    refine o_s (.t (.d (.lit (.int .i64 (wi (z39 + 1)))))) (g0 rfl) rfl rfl rfl ?_
                    refine o_s (.t (.d (.lit (.int .i64 (wi (z39 + 1)))))) (g0 rfl) rfl rfl rfl ?_
                    refine o_nil ?_
                    repeat (first | refine then_normal ?_ | refine then_exit ?_ | refine then_ret ?_ | refine block_normal ?_ | refine block_ret ?_ | refine block_exit ?_ | refine block_pass rfl ?_)
                    exact ⟨nl8, (wi (z39 + 1)), [], Nat.lt_succ_self nl8, h, rfl, ⟨.inr ⟨_, rfl, pure_hpA _⟩, by (repeat (first | exact ObP.nil | refine ObP.cons (.inl rfl) ?_ | refine ObP.cons (.inr (fun _ => rfl)) ?_ | refine ObP.cons (.inr (ob_box (fl_noPt _ _))) ?_ | refine ObP.cons (.inr (ob_gb _ _)) ?_))⟩, ⟨(.refl _), ⟨(.refl _), ⟨(.refl _), ⟨(.refl _), ⟨(.refl _), ⟨(.refl _), ⟨(.refl _), ⟨(.refl _), ⟨(.refl _), ⟨(.refl _), ⟨(.refl _), ⟨(.refl _), ⟨(.refl _), ⟨(.refl _), ⟨(.refl _), ⟨(.refl _), ⟨(.refl _), ⟨(.refl _), ⟨(.refl _), ⟨(.refl _), ⟨(.refl _), ⟨(.refl _), ⟨(.refl _), ⟨(.refl _), trivial⟩⟩⟩⟩⟩⟩⟩⟩⟩⟩⟩⟩⟩⟩⟩⟩⟩⟩⟩⟩⟩⟩⟩⟩, rfl⟩
                · refine c_f h40 rfl ?_
                  refine c_exit ?_
                  repeat (first | refine then_normal ?_ | refine then_exit ?_ | refine then_ret ?_ | refine block_normal ?_ | refine block_ret ?_ | refine block_exit ?_ | refine block_pass rfl ?_)
                  refine c_region ?_
                  refine o_s (.t (.d (.lit (.int .i64 (wi (z33 + 1)))))) (g0 rfl) rfl rfl rfl ?_
                  refine o_s (.t (.d (.lit (.int .i64 (wi (z33 + 1)))))) (g0 rfl) rfl rfl rfl ?_
                  refine o_nil ?_
                  repeat (first | refine then_normal ?_ | refine then_exit ?_ | refine then_ret ?_ | refine block_normal ?_ | refine block_ret ?_ | refine block_exit ?_ | refine block_pass rfl ?_)
                  exact ⟨nl5, (z39, (wi (z33 + 1))), [], Nat.lt_succ_self nl5, h, rfl, ⟨.inr ⟨_, rfl, pure_hpA _⟩, by (repeat (first | exact ObP.nil | refine ObP.cons (.inl rfl) ?_ | refine ObP.cons (.inr (fun _ => rfl)) ?_ | refine ObP.cons (.inr (ob_box (fl_noPt _ _))) ?_ | refine ObP.cons (.inr (ob_gb _ _)) ?_))⟩, ⟨(.refl _), ⟨(.refl _), ⟨(.refl _), ⟨(.refl _), ⟨(.refl _), ⟨(.refl _), ⟨(.refl _), ⟨(.refl _), trivial⟩⟩⟩⟩⟩⟩⟩⟩, rfl⟩
        · refine c_f h34 rfl ?_
          refine c_exit ?_
          repeat (first | refine then_normal ?_ | refine then_exit ?_ | refine then_ret ?_ | refine block_normal ?_ | refine block_ret ?_ | refine block_exit ?_ | refine block_pass rfl ?_)
          exact ⟨(z32, x30.2), [], h, rfl, ⟨.inr ⟨_, rfl, pure_hpA _⟩, by (repeat (first | exact ObP.nil | refine ObP.cons (.inl rfl) ?_ | refine ObP.cons (.inr (fun _ => rfl)) ?_ | refine ObP.cons (.inr (ob_box (fl_noPt _ _))) ?_ | refine ObP.cons (.inr (ob_gb _ _)) ?_))⟩, ⟨(.refl _), ⟨(.refl _), ⟨(.refl _), ⟨(.refl _), ⟨(.refl _), trivial⟩⟩⟩⟩⟩, rfl⟩
    · rintro ⟨y3, y4⟩ h
      refine c_cutH (fun (_ : Unit) => [(0, .t ((ptT 1 p0))), (1, .t (.d (.seq 1 (List.map cBool p1)))), (5, .t (.d (.lit (.int .i64 y1)))), (HK, .hp (hpA y4))]) (fun (_ : Unit) => m_L19_whole_j3 p0 y4 p1 y1 = some r) ?_ ?_
      · refine c_block ?_
        refine c_fuelH (fun (z25 : Int) => [(0, .t ((ptT 1 p0))), (1, .t (.d (.seq 1 (List.map cBool p1)))), (5, .t (.d (.lit (.int .i64 y1)))), (8, .t (.d (.lit (.int .i64 z25)))), (HK, .hp (hpA y4))]) (fun nl4 => (fun (z25 : Int) => m_L19_whole_l4 p1 y4 p0 y1 nl4 z25 = some r)) (p1.length + 1) y3 [] h rfl ⟨.inr ⟨_, rfl, pure_hpA _⟩, by (repeat (first | exact ObP.nil | refine ObP.cons (.inl rfl) ?_ | refine ObP.cons (.inr (fun _ => rfl)) ?_ | refine ObP.cons (.inr (ob_box (fl_noPt _ _))) ?_ | refine ObP.cons (.inr (ob_gb _ _)) ?_))⟩ ⟨(.refl _), ⟨(.refl _), ⟨(.refl _), ⟨(.refl _), ⟨(.refl _), trivial⟩⟩⟩⟩⟩ rfl ?_
        rintro nl4 z25 h
        cases nl4 with
        | zero => exact none_ne h
        | succ nl4 =>
          refine c_seq ?_
          refine c_seq ?_
          refine c_region ?_
          refine o_s (.t (.d (.lit (.int .i64 z25)))) (g0 rfl) rfl rfl rfl ?_
          refine o_s (.t (.d (.seq 1 (List.map cBool p1)))) (g0 rfl) rfl rfl rfl ?_
          refine o_c (g0 rfl) rfl rfl rfl (lenE _ _) trivial ?_
          refine o_s (.t (.d (.lit (.bool (decide (z25 < (p1.length : Int))))))) (g0 rfl) rfl rfl rfl ?_
          refine o_nil ?_
          repeat (first | refine then_normal ?_ | refine then_exit ?_ | refine then_ret ?_ | refine block_normal ?_ | refine block_ret ?_ | refine block_exit ?_ | refine block_pass rfl ?_)
          rcases bif_some h with ⟨h26, h⟩ | ⟨h26, h⟩
          · refine c_t h26 rfl ?_
            refine c_skip ?_
            repeat (first | refine then_normal ?_ | refine then_exit ?_ | refine then_ret ?_ | refine block_normal ?_ | refine block_ret ?_ | refine block_exit ?_ | refine block_pass rfl ?_)
            refine c_seq ?_
            refine c_block ?_
            refine c_seq ?_
            refine c_region ?_
            refine o_s (.t (.d (.seq 1 (List.map cBool p1)))) (g0 rfl) rfl rfl rfl ?_
            refine o_s (.t (.d (.lit (.int .i64 z25)))) (g0 rfl) rfl rfl rfl ?_
            obtain ⟨x27, h28, h⟩ := bind_some h
            refine o_c (g0 rfl) rfl rfl rfl (idxE h28) (idxC h28) ?_
            refine o_s (.t (.d (.lit (.bool x27)))) (g0 rfl) rfl rfl rfl ?_
            refine o_s (.t (.d (.lit (.bool (!x27))))) (g0 rfl) rfl rfl rfl ?_
            refine o_nil ?_
            repeat (first | refine then_normal ?_ | refine then_exit ?_ | refine then_ret ?_ | refine block_normal ?_ | refine block_ret ?_ | refine block_exit ?_ | refine block_pass rfl ?_)
            rcases bif_some h with ⟨h29, h⟩ | ⟨h29, h⟩
            · refine c_t h29 rfl ?_
              refine c_seq ?_
              refine c_region ?_
              refine o_s (.t (.d (.lit (.bool false)))) (g0 rfl) rfl rfl rfl ?_
              refine o_nil ?_
              repeat (first | refine then_normal ?_ | refine then_exit ?_ | refine then_ret ?_ | refine block_normal ?_ | refine block_ret ?_ | refine block_exit ?_ | refine block_pass rfl ?_)
              refine c_ret ?_
              repeat (first | refine then_normal ?_ | refine then_exit ?_ | refine then_ret ?_ | refine block_normal ?_ | refine block_ret ?_ | refine block_exit ?_ | refine block_pass rfl ?_)
              obtain rfl := Option.some.inj h
              exact ⟨⟨_, rfl, (.refl _)⟩, trivial, rfl⟩
            · refine c_f h29 rfl ?_
              refine c_skip ?_
              repeat (first | refine then_normal ?_ | refine then_exit ?_ | refine then_ret ?_ | refine block_normal ?_ | refine block_ret ?_ | refine block_exit ?_ | refine block_pass rfl ?_)
              refine c_region ?_
              refine o_s (.t (.d (.lit (.int .i64 z25)))) (g0 rfl) rfl rfl rfl ?_
              refine o_s (.t (.d (.lit (.int .i64 (wi (z25 + 1)))))) (g0 rfl) rfl rfl rfl ?_
              refine o_s (.t (.d (.lit (.int .i64 (wi (z25 + 1)))))) (g0 rfl) rfl rfl rfl ?_
              refine o_nil ?_
              repeat (first | refine then_normal ?_ | refine then_exit ?_ | refine then_ret ?_ | refine block_normal ?_ | refine block_ret ?_ | refine block_exit ?_ | refine block_pass rfl ?_)
              exact ⟨nl4, (wi (z25 + 1)), [], Nat.lt_succ_self nl4, h, rfl, ⟨.inr ⟨_, rfl, pure_hpA _⟩, by (repeat (first | exact ObP.nil | refine ObP.cons (.inl rfl) ?_ | refine ObP.cons (.inr (fun _ => rfl)) ?_ | refine ObP.cons (.inr (ob_box (fl_noPt _ _))) ?_ | refine ObP.cons (.inr (ob_gb _ _)) ?_))⟩, ⟨(.refl _), ⟨(.refl _), ⟨(.refl _), ⟨(.refl _), ⟨(.refl _), trivial⟩⟩⟩⟩⟩, rfl⟩
          · refine c_f h26 rfl ?_
            refine c_exit ?_
            repeat (first | refine then_normal ?_ | refine then_exit ?_ | refine then_ret ?_ | refine block_normal ?_ | refine block_ret ?_ | refine block_exit ?_ | refine block_pass rfl ?_)
            exact ⟨(), [], h, rfl, ⟨.inr ⟨_, rfl, pure_hpA _⟩, by (repeat (first | exact ObP.nil | refine ObP.cons (.inl rfl) ?_ | refine ObP.cons (.inr (fun _ => rfl)) ?_ | refine ObP.cons (.inr (ob_box (fl_noPt _ _))) ?_ | refine ObP.cons (.inr (ob_gb _ _)) ?_))⟩, ⟨(.refl _), ⟨(.refl _), ⟨(.refl _), ⟨(.refl _), trivial⟩⟩⟩⟩, rfl⟩
      · rintro ⟨⟩ h
        refine c_seq ?_
        refine c_region ?_
        refine o_of (e := [(98, .t ((ptT 1 p0)))]) (g0 rfl) (h_mv (Mk.refl _) (.inl rfl) (cpO_pt rfl) rfl rfl) rfl ?_
        obtain ⟨x5, h6, h⟩ := bind_some h
        refine o_of (e := [(HK, .hp (hpA x5.2)), (99, .t (.d (.lit (.int .i64 x5.1))))]) (g0 rfl) (h_call (Mk.refl _) rfl (σ := []) (fr := []) rfl rfl rfl rfl rfl rfl rfl (fch_space_Space_Free _ y4 _ h6) (pure_hpA _) (pure_hpA _) rfl rfl rfl rfl (.cons (argPt rfl) .nil) rfl (.t (.flat rfl))) rfl ?_
        refine o_s (.t (.d (.seq 1 (List.map cBool p1)))) (g0 rfl) rfl rfl rfl ?_
        obtain ⟨x7, h8, h⟩ := bind_some h
        refine o_ca (fc_R19_Free _ _ h8) (g0 rfl) rfl rfl rfl rfl rfl rfl rfl (.cons (.refl _) .nil) rfl rfl ?_
        refine o_s (.t (.d (.lit (.bool (x5.1 == x7))))) (g0 rfl) rfl rfl rfl ?_
        refine o_s (.t (.d (.lit (.bool (x5.1 == x7))))) (g0 rfl) rfl rfl rfl ?_
        rcases bif_some h with ⟨h9, h⟩ | ⟨h9, h⟩
        · refine o_of (e := [(104, .t ((ptT 1 p0)))]) (gy rfl rfl rfl h9) (h_mv (Mk.refl _) (.inl rfl) (cpO_pt rfl) rfl rfl) rfl ?_
          obtain ⟨x10, h11, h⟩ := bind_some h
          refine o_of (e := [(HK, .hp (hpA x10.2)), (105, .t (.d (.lit (.int .i64 x10.1))))]) (gy rfl rfl rfl h9) (h_call (Mk.refl _) rfl (σ := []) (fr := []) rfl rfl rfl rfl rfl rfl rfl (fch_space_Space_Top _ x5.2 _ h11) (pure_hpA _) (pure_hpA _) rfl rfl rfl rfl (.cons (argPt rfl) .nil) rfl (.t (.flat rfl))) rfl ?_
          refine o_s (.t (.d (.lit (.int .i64 y1)))) (gy rfl rfl rfl h9) rfl rfl rfl ?_
          refine o_s (.t (.d (.lit (.bool (x10.1 == y1))))) (gy rfl rfl rfl h9) rfl rfl rfl ?_
          refine o_pk (.t (.d (.lit (.bool (x10.1 == y1))))) (b := true) h9 (g0 rfl) rfl rfl rfl rfl rfl ?_
          refine o_s (.t (.d (.lit (.bool (x10.1 == y1))))) (g0 rfl) rfl rfl rfl ?_
          rcases bif_some h with ⟨h12, h⟩ | ⟨h12, h⟩
          · refine o_of (e := [(110, .t ((ptT 1 p0)))]) (gy rfl rfl rfl h12) (h_mv (Mk.refl _) (.inl rfl) (cpO_pt rfl) rfl rfl) rfl ?_
            obtain ⟨x13, h14, h⟩ := bind_some h
            refine o_of (e := [(HK, .hp (hpA x13.2)), (111, .t (.d (.seq 1 (bytesD x13.1))))]) (gy rfl rfl rfl h12) (h_call (Mk.refl _) rfl (σ := []) (fr := []) rfl rfl rfl rfl rfl rfl rfl (fch_space_Space_Bytes _ x10.2 _ h14) (pure_hpA _) (pure_hpA _) rfl rfl rfl rfl (.cons (argPt rfl) .nil) rfl (.t (.flat rfl))) rfl ?_
            refine o_s (.t (.d (.seq 1 (List.map cBool p1)))) (gy rfl rfl rfl h12) rfl rfl rfl ?_
            obtain ⟨x15, h16, h⟩ := bind_some h
            refine o_ca (fc_R19_Bytes _ _ h16) (gy rfl rfl rfl h12) rfl rfl rfl rfl rfl rfl rfl (.cons (.refl _) .nil) rfl rfl ?_
            obtain ⟨x17, h18, h⟩ := bind_some h
            refine o_ca (fc_R01_Same _ _ _ h18) (gy rfl rfl rfl h12) rfl rfl rfl rfl rfl rfl rfl (.cons (.refl _) (.cons (.refl _) .nil)) rfl rfl ?_
            refine o_pk (.t (.d (.lit (.bool x17)))) (b := true) h12 (g0 rfl) rfl rfl rfl rfl rfl ?_
            refine o_s (.t (.d (.lit (.bool x17)))) (g0 rfl) rfl rfl rfl ?_
            rcases bif_some h with ⟨h19, h⟩ | ⟨h19, h⟩
            · refine o_of (e := [(117, .t ((ptT 1 p0)))]) (gy rfl rfl rfl h19) (h_mv (Mk.refl _) (.inl rfl) (cpO_pt rfl) rfl rfl) rfl ?_
              obtain ⟨x20, h21, h⟩ := bind_some h
              refine o_of (e := [(HK, .hp (hpA x20.2)), (118, .t (.d (.lit (.bool x20.1))))]) (gy rfl rfl rfl h19) (h_call (Mk.refl _) rfl (σ := []) (fr := []) rfl rfl rfl rfl rfl rfl rfl (fch_space_Space_Has _ _ x13.2 _ h21) (pure_hpA _) (pure_hpA _) rfl rfl rfl rfl (.cons (argPt rfl) (.cons (.plain (.refl _) rfl) .nil)) rfl (.t (.flat rfl))) rfl ?_
              refine o_s (.t (.d (.lit (.bool (!x20.1))))) (gy rfl rfl rfl h19) rfl rfl rfl ?_
              refine o_pk (.t (.d (.lit (.bool (!x20.1))))) (b := true) h19 (g0 rfl) rfl rfl rfl rfl rfl ?_
              refine o_s (.t (.d (.lit (.bool (!x20.1))))) (g0 rfl) rfl rfl rfl ?_
              rcases bif_some h with ⟨h22, h⟩ | ⟨h22, h⟩
              · refine o_of (e := [(122, .t ((ptT 1 p0)))]) (gy rfl rfl rfl h22) (h_mv (Mk.refl _) (.inl rfl) (cpO_pt rfl) rfl rfl) rfl ?_
                refine o_s (.t (.d (.seq 1 (List.map cBool p1)))) (gy rfl rfl rfl h22) rfl rfl rfl ?_
                refine o_c (gy rfl rfl rfl h22) rfl rfl rfl (lenE _ _) trivial ?_
                obtain ⟨x23, h24, h⟩ := bind_some h
                refine o_of (e := [(HK, .hp (hpA x23.2)), (125, .t (.d (.lit (.bool x23.1))))]) (gy rfl rfl rfl h22) (h_call (Mk.refl _) rfl (σ := []) (fr := []) rfl rfl rfl rfl rfl rfl rfl (fch_space_Space_Has _ _ x20.2 _ h24) (pure_hpA _) (pure_hpA _) rfl rfl rfl rfl (.cons (argPt rfl) (.cons (.plain (.refl _) rfl) .nil)) rfl (.t (.flat rfl))) rfl ?_
                refine o_s (.t (.d (.lit (.bool (!x23.1))))) (gy rfl rfl rfl h22) rfl rfl rfl ?_
                refine o_pk (.t (.d (.lit (.bool (!x23.1))))) (b := true) h22 (g0 rfl) rfl rfl rfl rfl rfl ?_
                refine o_s (.t (.d (.lit (.bool (!x23.1))))) (g0 rfl) rfl rfl rfl ?_
                refine o_nil ?_
                repeat (first | refine then_normal ?_ | refine then_exit ?_ | refine then_ret ?_ | refine block_normal ?_ | refine block_ret ?_ | refine block_exit ?_ | refine block_pass rfl ?_)
                refine c_ret ?_
                repeat (first | refine then_normal ?_ | refine then_exit ?_ | refine then_ret ?_ | refine block_normal ?_ | refine block_ret ?_ | refine block_exit ?_ | refine block_pass rfl ?_)
                obtain rfl := Option.some.inj h
                exact ⟨⟨_, rfl, (.refl _)⟩, trivial, rfl⟩
              · refine o_skip rfl rfl rfl h22 rfl rfl ?_
                refine o_skip rfl rfl rfl h22 rfl rfl ?_
                refine o_skip rfl rfl rfl h22 rfl rfl ?_
                refine o_skip rfl rfl rfl h22 rfl rfl ?_
                refine o_skip rfl rfl rfl h22 rfl rfl ?_
                refine o_pk (.t (.d (.lit (.bool false)))) (b := false) h22 (g0 rfl) rfl rfl rfl rfl rfl ?_
                refine o_s (.t (.d (.lit (.bool false)))) (g0 rfl) rfl rfl rfl ?_
                refine o_nil ?_
                repeat (first | refine then_normal ?_ | refine then_exit ?_ | refine then_ret ?_ | refine block_normal ?_ | refine block_ret ?_ | refine block_exit ?_ | refine block_pass rfl ?_)
                refine c_ret ?_
                repeat (first | refine then_normal ?_ | refine then_exit ?_ | refine then_ret ?_ | refine block_normal ?_ | refine block_ret ?_ | refine block_exit ?_ | refine block_pass rfl ?_)
                obtain rfl := Option.some.inj h
                exact ⟨⟨_, rfl, (.refl _)⟩, trivial, rfl⟩
            · refine o_skip rfl rfl rfl h19 rfl rfl ?_
              refine o_skip rfl rfl rfl h19 rfl rfl ?_
              refine o_skip rfl rfl rfl h19 rfl rfl ?_
              refine o_pk (.t (.d (.lit (.bool false)))) (b := false) h19 (g0 rfl) rfl rfl rfl rfl rfl ?_
              refine o_s (.t (.d (.lit (.bool false)))) (g0 rfl) rfl rfl rfl ?_
              refine o_skip rfl rfl rfl rfl rfl rfl ?_
              refine o_skip rfl rfl rfl rfl rfl rfl ?_
              refine o_skip rfl rfl rfl rfl rfl rfl ?_
              refine o_skip rfl rfl rfl rfl rfl rfl ?_
              refine o_skip rfl rfl rfl rfl rfl rfl ?_
              refine o_pk (.t (.d (.lit (.bool false)))) (b := false) rfl (g0 rfl) rfl rfl rfl rfl rfl ?_
              refine o_s (.t (.d (.lit (.bool false)))) (g0 rfl) rfl rfl rfl ?_
              refine o_nil ?_
              repeat (first | refine then_normal ?_ | refine then_exit ?_ | refine then_ret ?_ | refine block_normal ?_ | refine block_ret ?_ | refine block_exit ?_ | refine block_pass rfl ?_)
              refine c_ret ?_
              repeat (first | refine then_normal ?_ | refine then_exit ?_ | refine then_ret ?_ | refine block_normal ?_ | refine block_ret ?_ | refine block_exit ?_ | refine block_pass rfl ?_)
              obtain rfl := Option.some.inj h
              exact ⟨⟨_, rfl, (.refl _)⟩, trivial, rfl⟩
          · refine o_skip rfl rfl rfl h12 rfl rfl ?_
            refine o_skip rfl rfl rfl h12 rfl rfl ?_
            refine o_skip rfl rfl rfl h12 rfl rfl ?_
            refine o_skip rfl rfl rfl h12 rfl rfl ?_
            refine o_skip rfl rfl rfl h12 rfl rfl ?_
            refine o_pk (.t (.d (.lit (.bool false)))) (b := false) h12 (g0 rfl) rfl rfl rfl rfl rfl ?_
            refine o_s (.t (.d (.lit (.bool false)))) (g0 rfl) rfl rfl rfl ?_
            refine o_skip rfl rfl rfl rfl rfl rfl ?_
            refine o_skip rfl rfl rfl rfl rfl rfl ?_
            refine o_skip rfl rfl rfl rfl rfl rfl ?_
            refine o_pk (.t (.d (.lit (.bool false)))) (b := false) rfl (g0 rfl) rfl rfl rfl rfl rfl ?_
            refine o_s (.t (.d (.lit (.bool false)))) (g0 rfl) rfl rfl rfl ?_
            refine o_skip rfl rfl rfl rfl rfl rfl ?_
            refine o_skip rfl rfl rfl rfl rfl rfl ?_
            refine o_skip rfl rfl rfl rfl rfl rfl ?_
            refine o_skip rfl rfl rfl rfl rfl rfl ?_
            refine o_skip rfl rfl rfl rfl rfl rfl ?_
            refine o_pk (.t (.d (.lit (.bool false)))) (b := false) rfl (g0 rfl) rfl rfl rfl rfl rfl ?_
            refine o_s (.t (.d (.lit (.bool false)))) (g0 rfl) rfl rfl rfl ?_
            refine o_nil ?_
            repeat (first | refine then_normal ?_ | refine then_exit ?_ | refine then_ret ?_ | refine block_normal ?_ | refine block_ret ?_ | refine block_exit ?_ | refine block_pass rfl ?_)
            refine c_ret ?_
            repeat (first | refine then_normal ?_ | refine then_exit ?_ | refine then_ret ?_ | refine block_normal ?_ | refine block_ret ?_ | refine block_exit ?_ | refine block_pass rfl ?_)
            obtain rfl := Option.some.inj h
            exact ⟨⟨_, rfl, (.refl _)⟩, trivial, rfl⟩
        · refine o_skip rfl rfl rfl h9 rfl rfl ?_
          refine o_skip rfl rfl rfl h9 rfl rfl ?_
          refine o_skip rfl rfl rfl h9 rfl rfl ?_
          refine o_skip rfl rfl rfl h9 rfl rfl ?_
          refine o_pk (.t (.d (.lit (.bool false)))) (b := false) h9 (g0 rfl) rfl rfl rfl rfl rfl ?_
          refine o_s (.t (.d (.lit (.bool false)))) (g0 rfl) rfl rfl rfl ?_
          refine o_skip rfl rfl rfl rfl rfl rfl ?_
          refine o_skip rfl rfl rfl rfl rfl rfl ?_
          refine o_skip rfl rfl rfl rfl rfl rfl ?_
          refine o_skip rfl rfl rfl rfl rfl rfl ?_
          refine o_skip rfl rfl rfl rfl rfl rfl ?_
          refine o_pk (.t (.d (.lit (.bool false)))) (b := false) rfl (g0 rfl) rfl rfl rfl rfl rfl ?_
          refine o_s (.t (.d (.lit (.bool false)))) (g0 rfl) rfl rfl rfl ?_
          refine o_skip rfl rfl rfl rfl rfl rfl ?_
          refine o_skip rfl rfl rfl rfl rfl rfl ?_
          refine o_skip rfl rfl rfl rfl rfl rfl ?_
          refine o_pk (.t (.d (.lit (.bool false)))) (b := false) rfl (g0 rfl) rfl rfl rfl rfl rfl ?_
          refine o_s (.t (.d (.lit (.bool false)))) (g0 rfl) rfl rfl rfl ?_
          refine o_skip rfl rfl rfl rfl rfl rfl ?_
          refine o_skip rfl rfl rfl rfl rfl rfl ?_
          refine o_skip rfl rfl rfl rfl rfl rfl ?_
          refine o_skip rfl rfl rfl rfl rfl rfl ?_
          refine o_skip rfl rfl rfl rfl rfl rfl ?_
          refine o_pk (.t (.d (.lit (.bool false)))) (b := false) rfl (g0 rfl) rfl rfl rfl rfl rfl ?_
          refine o_s (.t (.d (.lit (.bool false)))) (g0 rfl) rfl rfl rfl ?_
          refine o_nil ?_
          repeat (first | refine then_normal ?_ | refine then_exit ?_ | refine then_ret ?_ | refine block_normal ?_ | refine block_ret ?_ | refine block_exit ?_ | refine block_pass rfl ?_)
          refine c_ret ?_
          repeat (first | refine then_normal ?_ | refine then_exit ?_ | refine then_ret ?_ | refine block_normal ?_ | refine block_ret ?_ | refine block_exit ?_ | refine block_pass rfl ?_)
          obtain rfl := Option.some.inj h
          exact ⟨⟨_, rfl, (.refl _)⟩, trivial, rfl⟩

theorem fch_R19_Free_v0 (p0 : (List Bool)) (w0 : Hp) (r : Int) (h : m_R19_Free p0 = some r) : FCH Tryd.prog 28 [.t (.view 0 0 4 1 p0.length)] [.box (fl (dT cBool) p0)] [.box (fl (dT cBool) p0)] (hpA w0) (hpA w0) (.t (.d (.lit (.int .i64 r)))) := by
  refine fch_mk (rs := [.tmp 2]) (n := 19) [] Tryd.func28 rfl rfl (Nat.le_of_ble_eq_true rfl) rfl (pins := [OB + 0]) rfl (L := [(HK, .hp (hpA w0)), (OB + 0, .box (fl (dT cBool) p0)), (0, .t (.view 0 0 4 1 p0.length))]) rfl ?_
  refine c_seq ?_
  refine c_region ?_
  refine o_s (.t (.d (.lit (.int .i64 0)))) (g0 rfl) rfl rfl rfl ?_
  refine o_nil ?_
  repeat (first | refine then_normal ?_ | refine then_exit ?_ | refine then_ret ?_ | refine block_normal ?_ | refine block_ret ?_ | refine block_exit ?_ | refine block_pass rfl ?_)
  refine c_seq ?_
  refine c_region ?_
  refine o_s (.t (.d (.lit (.int .i64 0)))) (g0 rfl) rfl rfl rfl ?_
  refine o_nil ?_
  repeat (first | refine then_normal ?_ | refine then_exit ?_ | refine then_ret ?_ | refine block_normal ?_ | refine block_ret ?_ | refine block_exit ?_ | refine block_pass rfl ?_)
  refine c_seq ?_
  refine c_seq ?_
  refine c_region ?_
  refine o_s (.t (.d (.lit (.int .i64 0)))) (g0 rfl) rfl rfl rfl ?_
  refine o_nil ?_
  repeat (first | refine then_normal ?_ | refine then_exit ?_ | refine then_ret ?_ | refine block_normal ?_ | refine block_ret ?_ | refine block_exit ?_ | refine block_pass rfl ?_)
  refine c_block ?_
  refine c_fuelH (fun (q : Int × Int) => [(0, .t (.view 0 0 4 1 p0.length)), (3, .t (.d (.lit (.int .i64 q.1)))), (4, .t (.d (.lit (.int .i64 q.2)))), ((OB + 0), .box (fl (dT cBool) p0)), (HK, .hp (hpA w0))]) (fun nl1 => (fun (q : Int × Int) => m_R19_Free_l1 p0 nl1 q.1 q.2 = some r)) (p0.length + 1) (0, 0) [] h rfl ⟨.inr ⟨_, rfl, pure_hpA _⟩, by (repeat (first | exact ObP.nil | refine ObP.cons (.inl rfl) ?_ | refine ObP.cons (.inr (fun _ => rfl)) ?_ | refine ObP.cons (.inr (ob_box (fl_noPt _ _))) ?_ | refine ObP.cons (.inr (ob_gb _ _)) ?_))⟩ ⟨(.refl _), ⟨(.refl _), ⟨(.refl _), ⟨(.refl _), ⟨(.refl _), trivial⟩⟩⟩⟩⟩ rfl ?_
  rintro nl1 ⟨z1, z2⟩ h
  cases nl1 with
  | zero => exact none_ne h
  | succ nl1 =>
    refine c_seq ?_
    refine c_seq ?_
    refine c_region ?_
    refine o_s (.t (.d (.lit (.int .i64 z2)))) (g0 rfl) rfl rfl rfl ?_
    refine o_s (.t (.view 0 0 4 1 p0.length)) (g0 rfl) rfl rfl rfl ?_
    refine o_of (e := [(7, .t (.d (.lit (.int .i64 (p0.length : Int)))))]) (g0 rfl) (h_lln (Mk.refl _) rfl rfl rfl rfl rfl rfl) rfl ?_
    refine o_s (.t (.d (.lit (.bool (decide (z2 < (p0.length : Int))))))) (g0 rfl) rfl rfl rfl ?_
    refine o_nil ?_
    repeat (first | refine then_normal ?_ | refine then_exit ?_ | refine then_ret ?_ | refine block_normal ?_ | refine block_ret ?_ | refine block_exit ?_ | refine block_pass rfl ?_)
    rcases bif_some h with ⟨h3, h⟩ | ⟨h3, h⟩
    · refine c_t h3 rfl ?_
      refine c_skip ?_
      repeat (first | refine then_normal ?_ | refine then_exit ?_ | refine then_ret ?_ | refine block_normal ?_ | refine block_ret ?_ | refine block_exit ?_ | refine block_pass rfl ?_)
      refine c_cutH (fun (y4 : Int) => [(0, .t (.view 0 0 4 1 p0.length)), (3, .t (.d (.lit (.int .i64 y4)))), (4, .t (.d (.lit (.int .i64 z2)))), ((OB + 0), .box (fl (dT cBool) p0)), (HK, .hp (hpA w0))]) (fun (y4 : Int) => m_R19_Free_j2 (m_R19_Free_l1 p0 nl1) z2 y4 = some r) ?_ ?_
      · refine c_block ?_
        refine c_seq ?_
        refine c_region ?_
        refine o_s (.t (.view 0 0 4 1 p0.length)) (g0 rfl) rfl rfl rfl ?_
        refine o_s (.t (.d (.lit (.int .i64 z2)))) (g0 rfl) rfl rfl rfl ?_
        obtain ⟨x5, h6, h⟩ := bind_some h
        refine o_of (e := [(13, .ref (OB + 0) (0 + Int.toNat z2 * 1))]) (g0 rfl) (h_lix (Mk.refl _) rfl rfl rfl rfl rfl (idxV rfl h6) rfl rfl rfl) rfl ?_
        refine o_of (e := [(14, .t (.d (.lit (.bool x5))))]) (g0 rfl) (h_lld (Mk.refl _) rfl rfl rfl rfl (fl_at h6 rfl (fun _ => rfl)) rfl rfl rfl) rfl ?_
        refine o_s (.t (.d (.lit (.bool (!x5))))) (g0 rfl) rfl rfl rfl ?_
        refine o_nil ?_
        repeat (first | refine then_normal ?_ | refine then_exit ?_ | refine then_ret ?_ | refine block_normal ?_ | refine block_ret ?_ | refine block_exit ?_ | refine block_pass rfl ?_)
        rcases bif_some h with ⟨h7, h⟩ | ⟨h7, h⟩
        · refine c_t h7 rfl ?_
          refine c_region ?_
          refine o_s (.t (.d (.lit (.int .i64 z1)))) (g0 rfl) rfl rfl rfl ?_
          refine o_s (.t (.d (.lit (.int .i64 (wi (z1 + 1)))))) (g0 rfl) rfl rfl rfl ?_
          refine o_s (.t (.d (.lit (.int .i64 (wi (z1 + 1)))))) (g0 rfl) rfl rfl rfl ?_
          refine o_nil ?_
          repeat (first | refine then_normal ?_ | refine then_exit ?_ | refine then_ret ?_ | refine block_normal ?_ | refine block_ret ?_ | refine block_exit ?_ | refine block_pass rfl ?_)
          exact ⟨(wi (z1 + 1)), [], h, rfl, ⟨.inr ⟨_, rfl, pure_hpA _⟩, by (repeat (first | exact ObP.nil | refine ObP.cons (.inl rfl) ?_ | refine ObP.cons (.inr (fun _ => rfl)) ?_ | refine ObP.cons (.inr (ob_box (fl_noPt _ _))) ?_ | refine ObP.cons (.inr (ob_gb _ _)) ?_))⟩, ⟨(.refl _), ⟨(.refl _), ⟨(.refl _), ⟨(.refl _), ⟨(.refl _), trivial⟩⟩⟩⟩⟩, rfl⟩
        · refine c_f h7 rfl ?_
          refine c_skip ?_
          repeat (first | refine then_normal ?_ | refine then_exit ?_ | refine then_ret ?_ | refine block_normal ?_ | refine block_ret ?_ | refine block_exit ?_ | refine block_pass rfl ?_)
          exact ⟨z1, [], h, rfl, ⟨.inr ⟨_, rfl, pure_hpA _⟩, by (repeat (first | exact ObP.nil | refine ObP.cons (.inl rfl) ?_ | refine ObP.cons (.inr (fun _ => rfl)) ?_ | refine ObP.cons (.inr (ob_box (fl_noPt _ _))) ?_ | refine ObP.cons (.inr (ob_gb _ _)) ?_))⟩, ⟨(.refl _), ⟨(.refl _), ⟨(.refl _), ⟨(.refl _), ⟨(.refl _), trivial⟩⟩⟩⟩⟩, rfl⟩
      · rintro y4 h
        refine c_region ?_
        refine o_s (.t (.d (.lit (.int .i64 z2)))) (g0 rfl) rfl rfl rfl ?_
        refine o_s (.t (.d (.lit (.int .i64 (wi (z2 + 1)))))) (g0 rfl) rfl rfl rfl ?_
        refine o_s (.t (.d (.lit (.int .i64 (wi (z2 + 1)))))) (g0 rfl) rfl rfl rfl ?_
        refine o_nil ?_
        repeat (first | refine then_normal ?_ | refine then_exit ?_ | refine then_ret ?_ | refine block_normal ?_ | refine block_ret ?_ | refine block_exit ?_ | refine block_pass rfl ?_)
        exact ⟨nl1, (y4, (wi (z2 + 1))), [], Nat.lt_succ_self nl1, h, rfl, ⟨.inr ⟨_, rfl, pure_hpA _⟩, by (repeat (first | exact ObP.nil | refine ObP.cons (.inl rfl) ?_ | refine ObP.cons (.inr (fun _ => rfl)) ?_ | refine ObP.cons (.inr (ob_box (fl_noPt _ _))) ?_ | refine ObP.cons (.inr (ob_gb _ _)) ?_))⟩, ⟨(.refl _), ⟨(.refl _), ⟨(.refl _), ⟨(.refl _), ⟨(.refl _), trivial⟩⟩⟩⟩⟩, rfl⟩
    · refine c_f h3 rfl ?_
      refine c_exit ?_
      repeat (first | refine then_normal ?_ | refine then_exit ?_ | refine then_ret ?_ | refine block_normal ?_ | refine block_ret ?_ | refine block_exit ?_ | refine block_pass rfl ?_)
      refine c_seq ?_
      refine c_region ?_
      refine o_s (.t (.d (.lit (.int .i64 z1)))) (g0 rfl) rfl rfl rfl ?_
      refine o_s (.t (.d (.lit (.int .i64 z1)))) (g0 rfl) rfl rfl rfl ?_
      refine o_nil ?_
      repeat (first | refine then_normal ?_ | refine then_exit ?_ | refine then_ret ?_ | refine block_normal ?_ | refine block_ret ?_ | refine block_exit ?_ | refine block_pass rfl ?_)
      refine c_ret ?_
      repeat (first | refine then_normal ?_ | refine then_exit ?_ | refine then_ret ?_ | refine block_normal ?_ | refine block_ret ?_ | refine block_exit ?_ | refine block_pass rfl ?_)
      obtain rfl := Option.some.inj h
      exact ⟨⟨_, rfl, (.refl _)⟩, ⟨rfl, trivial⟩, rfl⟩

theorem fch_R19_Take_v0 (p0 : (List Bool)) (p1 : Int) (w0 : Hp) (r : ((List Int) × Int × (List Bool))) (h : m_R19_Take_v0 p0 p1 = some r) : FCH Tryd.prog 12 [.t (.view 0 0 4 1 p0.length), .t (.d (.lit (.int .i64 p1)))] [.box (fl (dT cBool) p0)] [.box (fl (dT cBool) r.2.2)] (hpA w0) (hpA w0) (.tup [.d (.seq 1 (List.map cI64 r.1)), .d (.lit (.int .i64 r.2.1))]) := by
  refine fch_mk (rs := [.tmp 4, .tmp 5]) (n := 39) [] Tryd.func12 rfl rfl (Nat.le_of_ble_eq_true rfl) rfl (pins := [OB + 0]) rfl (L := [(HK, .hp (hpA w0)), (OB + 0, .box (fl (dT cBool) p0)), (0, .t (.view 0 0 4 1 p0.length)), (1, .t (.d (.lit (.int .i64 p1))))]) rfl ?_
  refine c_seq ?_
  refine c_region ?_
  refine o_s (.t (.d (.lit (.slice none 0 0)))) (g0 rfl) rfl rfl rfl ?_
  refine o_s (.t (.d (.lit (.int .i64 0)))) (g0 rfl) rfl rfl rfl ?_
  refine o_nil ?_
  repeat (first | refine then_normal ?_ | refine then_exit ?_ | refine then_ret ?_ | refine block_normal ?_ | refine block_ret ?_ | refine block_exit ?_ | refine block_pass rfl ?_)
  refine c_seq ?_
  refine c_seq ?_
  refine c_region ?_
  refine o_s (.t (.d (.lit (.int .i64 p1)))) (g0 rfl) rfl rfl rfl ?_
  refine o_s (.t (.d (.lit (.bool (decide (p1 < 0)))))) (g0 rfl) rfl rfl rfl ?_
  refine o_nil ?_
  repeat (first | refine then_normal ?_ | refine then_exit ?_ | refine then_ret ?_ | refine block_normal ?_ | refine block_ret ?_ | refine block_exit ?_ | refine block_pass rfl ?_)
  rcases bif_some h with ⟨h1, h⟩ | ⟨h1, h⟩
  · refine c_t h1 rfl ?_
    refine c_seq ?_
    refine c_region ?_
    refine o_s (.t (.d (.lit (.slice none 0 0)))) (g0 rfl) rfl rfl rfl ?_
    refine o_s (.t (.d (.lit (.int .i64 2)))) (g0 rfl) rfl rfl rfl ?_
    refine o_nil ?_
    repeat (first | refine then_normal ?_ | refine then_exit ?_ | refine then_ret ?_ | refine block_normal ?_ | refine block_ret ?_ | refine block_exit ?_ | refine block_pass rfl ?_)
    refine c_ret ?_
    repeat (first | refine then_normal ?_ | refine then_exit ?_ | refine then_ret ?_ | refine block_normal ?_ | refine block_ret ?_ | refine block_exit ?_ | refine block_pass rfl ?_)
    obtain rfl := Option.some.inj h
    exact ⟨⟨_, rfl, (.tup (.cons (.d (.nil _)) (.cons (.refl _) .nil)))⟩, ⟨rfl, trivial⟩, rfl⟩
  · refine c_f h1 rfl ?_
    refine c_skip ?_
    repeat (first | refine then_normal ?_ | refine then_exit ?_ | refine then_ret ?_ | refine block_normal ?_ | refine block_ret ?_ | refine block_exit ?_ | refine block_pass rfl ?_)
    refine c_seq ?_
    refine c_seq ?_
    refine c_region ?_
    refine o_s (.t (.d (.lit (.int .i64 p1)))) (g0 rfl) rfl rfl rfl ?_
    refine o_s (.t (.view 0 0 4 1 p0.length)) (g0 rfl) rfl rfl rfl ?_
    obtain ⟨x2, h3, h⟩ := bind_some h
    refine o_of (e := [((OB + 0), .box (fl (dT cBool) p0)), (HK, .hp (hpA w0)), (12, .t (.d (.lit (.int .i64 x2))))]) (g0 rfl) (h_call (Mk.refl _) rfl (σ := [0]) (fr := []) rfl rfl rfl rfl rfl rfl rfl (fch_R19_Free_v0 _ w0 _ h3) (pure_hpA _) (pure_hpA _) rfl (by simp [A.flatO, fl_noPt]) (by simp [A.flatO, fl_noPt]) rfl (.cons (argVw rfl rfl rfl) .nil) rfl (.t (.flat rfl))) rfl ?_
    refine o_s (.t (.d (.lit (.bool (decide (p1 > x2)))))) (g0 rfl) rfl rfl rfl ?_
    refine o_nil ?_
    repeat (first | refine then_normal ?_ | refine then_exit ?_ | refine then_ret ?_ | refine block_normal ?_ | refine block_ret ?_ | refine block_exit ?_ | refine block_pass rfl ?_)
    rcases bif_some h with ⟨h4, h⟩ | ⟨h4, h⟩
    · refine c_t h4 rfl ?_
      refine c_seq ?_
      refine c_region ?_
      refine o_s (.t (.d (.lit (.slice none 0 0)))) (g0 rfl) rfl rfl rfl ?_
      refine o_s (.t (.d (.lit (.int .i64 32)))) (g0 rfl) rfl rfl rfl ?_
      refine o_nil ?_
      repeat (first | refine then_normal ?_ | refine then_exit ?_ | refine then_ret ?_ | refine block_normal ?_ | refine block_ret ?_ | refine block_exit ?_ | refine block_pass rfl ?_)
      refine c_ret ?_
      repeat (first | refine then_normal ?_ | refine then_exit ?_ | refine then_ret ?_ | refine block_normal ?_ | refine block_ret ?_ | refine block_exit ?_ | refine block_pass rfl ?_)
      obtain rfl := Option.some.inj h
      exact ⟨⟨_, rfl, (.tup (.cons (.d (.nil _)) (.cons (.refl _) .nil)))⟩, ⟨rfl, trivial⟩, rfl⟩
    · refine c_f h4 rfl ?_
      refine c_skip ?_
      repeat (first | refine then_normal ?_ | refine then_exit ?_ | refine then_ret ?_ | refine block_normal ?_ | refine block_ret ?_ | refine block_exit ?_ | refine block_pass rfl ?_)
      refine c_seq ?_
      refine c_region ?_
      refine o_s (.t (.d (.lit (.slice none 0 0)))) (g0 rfl) rfl rfl rfl ?_
      refine o_nil ?_
      repeat (first | refine then_normal ?_ | refine then_exit ?_ | refine then_ret ?_ | refine block_normal ?_ | refine block_ret ?_ | refine block_exit ?_ | refine block_pass rfl ?_)
      refine c_cutH (fun (q : (List Int) × (List Bool)) => [(0, .t (.view 0 0 4 1 q.2.length)), (6, .t (.own 3 1 (List.map cI64 q.1))), ((OB + 0), .box (fl (dT cBool) q.2)), (HK, .hp (hpA w0))]) (fun (q : (List Int) × (List Bool)) => m_R19_Take_v0_j1 q.1 q.2 = some r) ?_ ?_
      · refine c_seq ?_
        refine c_region ?_
        refine o_s (.t (.d (.lit (.int .i64 0)))) (g0 rfl) rfl rfl rfl ?_
        refine o_nil ?_
        repeat (first | refine then_normal ?_ | refine then_exit ?_ | refine then_ret ?_ | refine block_normal ?_ | refine block_ret ?_ | refine block_exit ?_ | refine block_pass rfl ?_)
        refine c_block ?_
        refine c_fuelH (fun (q : (List Int) × Int × (List Bool)) => [(0, .t (.view 0 0 4 1 q.2.2.length)), (1, .t (.d (.lit (.int .i64 p1)))), (6, .t (.own 3 1 (List.map cI64 q.1))), (7, .t (.d (.lit (.int .i64 q.2.1)))), ((OB + 0), .box (fl (dT cBool) q.2.2)), (HK, .hp (hpA w0))]) (fun nl2 => (fun (q : (List Int) × Int × (List Bool)) => m_R19_Take_v0_l2 p1 nl2 q.1 q.2.1 q.2.2 = some r)) (p0.length + 1) ([], 0, p0) [] h rfl ⟨.inr ⟨_, rfl, pure_hpA _⟩, by (repeat (first | exact ObP.nil | refine ObP.cons (.inl rfl) ?_ | refine ObP.cons (.inr (fun _ => rfl)) ?_ | refine ObP.cons (.inr (ob_box (fl_noPt _ _))) ?_ | refine ObP.cons (.inr (ob_gb _ _)) ?_))⟩ ⟨(.refl _), ⟨(.refl _), ⟨(.t (.nilOwn _ _)), ⟨(.refl _), ⟨(.refl _), ⟨(.refl _), trivial⟩⟩⟩⟩⟩⟩ rfl ?_
        rintro nl2 ⟨z7, z8, z9⟩ h
        cases nl2 with
        | zero => exact none_ne h
        | succ nl2 =>
          refine c_seq ?_
          refine c_seq ?_
          refine c_region ?_
          refine o_s (.t (.d (.lit (.int .i64 z8)))) (g0 rfl) rfl rfl rfl ?_
          refine o_s (.t (.view 0 0 4 1 z9.length)) (g0 rfl) rfl rfl rfl ?_
          refine o_of (e := [(16, .t (.d (.lit (.int .i64 (z9.length : Int)))))]) (g0 rfl) (h_lln (Mk.refl _) rfl rfl rfl rfl rfl rfl) rfl ?_
          refine o_s (.t (.d (.lit (.bool (decide (z8 < (z9.length : Int))))))) (g0 rfl) rfl rfl rfl ?_
          refine o_s (.t (.d (.lit (.bool (decide (z8 < (z9.length : Int))))))) (g0 rfl) rfl rfl rfl ?_
          rcases bif_some h with ⟨h10, h⟩ | ⟨h10, h⟩
          · refine o_s (.t (.d (.seq 1 (List.map cI64 z7)))) (gy rfl rfl rfl h10) rfl rfl rfl ?_
            refine o_c (gy rfl rfl rfl h10) rfl rfl rfl (lenE _ _) trivial ?_
            refine o_s (.t (.d (.lit (.int .i64 p1)))) (gy rfl rfl rfl h10) rfl rfl rfl ?_
            refine o_s (.t (.d (.lit (.bool (decide ((z7.length : Int) < p1)))))) (gy rfl rfl rfl h10) rfl rfl rfl ?_
            refine o_pk (.t (.d (.lit (.bool (decide ((z7.length : Int) < p1)))))) (b := true) h10 (g0 rfl) rfl rfl rfl rfl rfl ?_
            refine o_nil ?_
            repeat (first | refine then_normal ?_ | refine then_exit ?_ | refine then_ret ?_ | refine block_normal ?_ | refine block_ret ?_ | refine block_exit ?_ | refine block_pass rfl ?_)
            rcases bif_some h with ⟨h11, h⟩ | ⟨h11, h⟩
            · refine c_t h11 rfl ?_
              refine c_skip ?_
              repeat (first | refine then_normal ?_ | refine then_exit ?_ | refine then_ret ?_ | refine block_normal ?_ | refine block_ret ?_ | refine block_exit ?_ | refine block_pass rfl ?_)
              refine c_cutH (fun (q : (List Int) × (List Bool)) => [(0, .t (.view 0 0 4 1 q.2.length)), (1, .t (.d (.lit (.int .i64 p1)))), (6, .t (.own 3 1 (List.map cI64 q.1))), (7, .t (.d (.lit (.int .i64 z8)))), (19, .t (.d (.seq 1 (List.map cI64 z7)))), (20, .t (.d (.lit (.int .i64 (z7.length : Int))))), (21, .t (.d (.lit (.int .i64 p1)))), (22, .t (.d (.lit (.bool (decide ((z7.length : Int) < p1)))))), ((OB + 0), .box (fl (dT cBool) q.2)), (HK, .hp (hpA w0))]) (fun (q : (List Int) × (List Bool)) => m_R19_Take_v0_j3 (m_R19_Take_v0_l2 p1 nl2) z8 q.1 q.2 = some r) ?_ ?_
              · refine c_block ?_
                refine c_seq ?_
                refine c_region ?_
                refine o_s (.t (.view 0 0 4 1 z9.length)) (g0 rfl) rfl rfl rfl ?_
                refine o_s (.t (.d (.lit (.int .i64 z8)))) (g0 rfl) rfl rfl rfl ?_
                obtain ⟨x14, h15, h⟩ := bind_some h
                refine o_of (e := [(28, .ref (OB + 0) (0 + Int.toNat z8 * 1))]) (g0 rfl) (h_lix (Mk.refl _) rfl rfl rfl rfl rfl (idxV rfl h15) rfl rfl rfl) rfl ?_
                refine o_of (e := [(29, .t (.d (.lit (.bool x14))))]) (g0 rfl) (h_lld (Mk.refl _) rfl rfl rfl rfl (fl_at h15 rfl (fun _ => rfl)) rfl rfl rfl) rfl ?_
                refine o_s (.t (.d (.lit (.bool (!x14))))) (g0 rfl) rfl rfl rfl ?_
                refine o_nil ?_
                repeat (first | refine then_normal ?_ | refine then_exit ?_ | refine then_ret ?_ | refine block_normal ?_ | refine block_ret ?_ | refine block_exit ?_ | refine block_pass rfl ?_)
                rcases bif_some h with ⟨h16, h⟩ | ⟨h16, h⟩
                · refine c_t h16 rfl ?_
                  refine c_seq ?_
                  refine c_region ?_
                  refine o_s (.t (.view 0 0 4 1 z9.length)) (g0 rfl) rfl rfl rfl ?_
                  refine o_s (.t (.d (.lit (.int .i64 z8)))) (g0 rfl) rfl rfl rfl ?_
                  obtain ⟨x17, h18, h⟩ := bind_some h
                  refine o_of (e := [(33, .ref (OB + 0) (0 + Int.toNat z8 * 1))]) (g0 rfl) (h_lix (Mk.refl _) rfl rfl rfl rfl rfl (idxV rfl h18) rfl rfl rfl) rfl ?_
                  refine o_of (e := [((OB + 0), .box (fl (dT cBool) (z9.set (Int.toNat z8) true)))]) (g0 rfl) (h_lst (Mk.refl _) rfl rfl rfl rfl rfl rfl rfl (fl_room h18 (fun _ => rfl)) (fl_put h18 true (fun _ => rfl) rfl)) rfl ?_
                  refine o_nil ?_
                  repeat (first | refine then_normal ?_ | refine then_exit ?_ | refine then_ret ?_ | refine block_normal ?_ | refine block_ret ?_ | refine block_exit ?_ | refine block_pass rfl ?_)
                  refine c_region ?_
                  refine o_2 (.t (.d (.seq 1 (List.map cI64 z7)))) (.t (.own 3 1 (List.map cI64 z7))) (g0 rfl) rfl rfl rfl ?_
                  refine o_s (.t (.d (.lit (.int .i64 z8)))) (g0 rfl) rfl rfl rfl ?_
                  refine o_s (.t (.own 3 1 (List.map cI64 [z8]))) (g0 rfl) rfl rfl rfl ?_
                  obtain ⟨x19, h20, h⟩ := bind_some h
                  refine o_2c (g0 rfl) rfl rfl rfl (appE (c := cI64) h20) (appC (c := cI64) h20) ?_
                  refine o_2 (.t (.d (.seq 1 (List.map cI64 x19)))) (.t (.own 3 1 (List.map cI64 x19))) (g0 rfl) rfl rfl rfl ?_
                  refine o_nil ?_
                  repeat (first | refine then_normal ?_ | refine then_exit ?_ | refine then_ret ?_ | refine block_normal ?_ | refine block_ret ?_ | refine block_exit ?_ | refine block_pass rfl ?_)
                  exact ⟨(x19, (z9.set (Int.toNat z8) true)), [], h, rfl, ⟨.inr ⟨_, rfl, pure_hpA _⟩, by (repeat (first | exact ObP.nil | refine ObP.cons (.inl rfl) ?_ | refine ObP.cons (.inr (fun _ => rfl)) ?_ | refine ObP.cons (.inr (ob_box (fl_noPt _ _))) ?_ | refine ObP.cons (.inr (ob_gb _ _)) ?_))⟩, ⟨(.vwn (by first | rfl | (simp; done) | (dsimp only; omega) | (simp; omega))), ⟨(.refl _), ⟨(.refl _), ⟨(.refl _), ⟨(.refl _), ⟨(.refl _), ⟨(.refl _), ⟨(.refl _), ⟨(.refl _), ⟨(.refl _), trivial⟩⟩⟩⟩⟩⟩⟩⟩⟩⟩, rfl⟩
                · refine c_f h16 rfl ?_
                  refine c_skip ?_
                  repeat (first | refine then_normal ?_ | refine then_exit ?_ | refine then_ret ?_ | refine block_normal ?_ | refine block_ret ?_ | refine block_exit ?_ | refine block_pass rfl ?_)
                  exact ⟨(z7, z9), [], h, rfl, ⟨.inr ⟨_, rfl, pure_hpA _⟩, by (repeat (first | exact ObP.nil | refine ObP.cons (.inl rfl) ?_ | refine ObP.cons (.inr (fun _ => rfl)) ?_ | refine ObP.cons (.inr (ob_box (fl_noPt _ _))) ?_ | refine ObP.cons (.inr (ob_gb _ _)) ?_))⟩, ⟨(.refl _), ⟨(.refl _), ⟨(.refl _), ⟨(.refl _), ⟨(.refl _), ⟨(.refl _), ⟨(.refl _), ⟨(.refl _), ⟨(.refl _), ⟨(.refl _), trivial⟩⟩⟩⟩⟩⟩⟩⟩⟩⟩, rfl⟩
              · rintro ⟨y12, y13⟩ h
                refine c_region ?_
                refine o_s (.t (.d (.lit (.int .i64 z8)))) (g0 rfl) rfl rfl rfl ?_
                refine o_s (.t (.d (.lit (.int .i64 (wi (z8 + 1)))))) (g0 rfl) rfl rfl rfl ?_
                refine o_s (.t (.d (.lit (.int .i64 (wi (z8 + 1)))))) (g0 rfl) rfl rfl rfl ?_
                refine o_nil ?_
                repeat (first | refine then_normal ?_ | refine then_exit ?_ | refine then_ret ?_ | refine block_normal ?_ | refine block_ret ?_ | refine block_exit ?_ | refine block_pass rfl ?_)
                exact ⟨nl2, (y12, (wi (z8 + 1)), y13), [], Nat.lt_succ_self nl2, h, rfl, ⟨.inr ⟨_, rfl, pure_hpA _⟩, by (repeat (first | exact ObP.nil | refine ObP.cons (.inl rfl) ?_ | refine ObP.cons (.inr (fun _ => rfl)) ?_ | refine ObP.cons (.inr (ob_box (fl_noPt _ _))) ?_ | refine ObP.cons (.inr (ob_gb _ _)) ?_))⟩, ⟨(.refl _), ⟨(.refl _), ⟨(.refl _), ⟨(.refl _), ⟨(.refl _), ⟨(.refl _), trivial⟩⟩⟩⟩⟩⟩, rfl⟩
            · refine c_f h11 rfl ?_
              refine c_exit ?_
              repeat (first | refine then_normal ?_ | refine then_exit ?_ | refine then_ret ?_ | refine block_normal ?_ | refine block_ret ?_ | refine block_exit ?_ | refine block_pass rfl ?_)
              exact ⟨(z7, z9), [], h, rfl, ⟨.inr ⟨_, rfl, pure_hpA _⟩, by (repeat (first | exact ObP.nil | refine ObP.cons (.inl rfl) ?_ | refine ObP.cons (.inr (fun _ => rfl)) ?_ | refine ObP.cons (.inr (ob_box (fl_noPt _ _))) ?_ | refine ObP.cons (.inr (ob_gb _ _)) ?_))⟩, ⟨(.refl _), ⟨(.refl _), ⟨(.refl _), ⟨(.refl _), trivial⟩⟩⟩⟩, rfl⟩
          · refine o_skip rfl rfl rfl h10 rfl rfl ?_
            refine o_skip rfl rfl rfl h10 rfl rfl ?_
            refine o_skip rfl rfl rfl h10 rfl rfl ?_
            refine o_skip rfl rfl rfl h10 rfl rfl ?_
            refine o_pk (.t (.d (.lit (.bool false)))) (b := false) h10 (g0 rfl) rfl rfl rfl rfl rfl ?_
            refine o_nil ?_
            repeat (first | refine then_normal ?_ | refine then_exit ?_ | refine then_ret ?_ | refine block_normal ?_ | refine block_ret ?_ | refine block_exit ?_ | refine block_pass rfl ?_)
            refine c_f rfl rfl ?_
            refine c_exit ?_
            repeat (first | refine then_normal ?_ | refine then_exit ?_ | refine then_ret ?_ | refine block_normal ?_ | refine block_ret ?_ | refine block_exit ?_ | refine block_pass rfl ?_)
            exact ⟨(z7, z9), [], h, rfl, ⟨.inr ⟨_, rfl, pure_hpA _⟩, by (repeat (first | exact ObP.nil | refine ObP.cons (.inl rfl) ?_ | refine ObP.cons (.inr (fun _ => rfl)) ?_ | refine ObP.cons (.inr (ob_box (fl_noPt _ _))) ?_ | refine ObP.cons (.inr (ob_gb _ _)) ?_))⟩, ⟨(.refl _), ⟨(.refl _), ⟨(.refl _), ⟨(.refl _), trivial⟩⟩⟩⟩, rfl⟩
      · rintro ⟨y5, y6⟩ h
        refine c_seq ?_
        refine c_region ?_
        refine o_2 (.t (.d (.seq 1 (List.map cI64 y5)))) (.t (.own 3 1 (List.map cI64 y5))) (g0 rfl) rfl rfl rfl ?_
        refine o_2 (.t (.d (.seq 1 (List.map cI64 y5)))) (.t (.own 3 1 (List.map cI64 y5))) (g0 rfl) rfl rfl rfl ?_
        refine o_s (.t (.d (.lit (.int .i64 0)))) (g0 rfl) rfl rfl rfl ?_
        refine o_nil ?_
        repeat (first | refine then_normal ?_ | refine then_exit ?_ | refine then_ret ?_ | refine block_normal ?_ | refine block_ret ?_ | refine block_exit ?_ | refine block_pass rfl ?_)
        refine c_ret ?_
        repeat (first | refine then_normal ?_ | refine then_exit ?_ | refine then_ret ?_ | refine block_normal ?_ | refine block_ret ?_ | refine block_exit ?_ | refine block_pass rfl ?_)
        obtain rfl := Option.some.inj h
        exact ⟨⟨_, rfl, (.tup (.cons (.refl _) (.cons (.refl _) .nil)))⟩, ⟨rfl, trivial⟩, rfl⟩

theorem fch_R19_Turn_v0 (p0 : (List Bool)) (p1 : (List Int)) (p2 : Bool) (w0 : Hp) (r : (Int × (List Bool))) (h : m_R19_Turn_v0 p0 p1 p2 = some r) : FCH Tryd.prog 15 [.t (.view 0 0 4 1 p0.length), .t (.d (.seq 1 (List.map cI64 p1))), .t (.d (.lit (.bool p2)))] [.box (fl (dT cBool) p0)] [.box (fl (dT cBool) r.2)] (hpA w0) (hpA w0) (.t (.d (.lit (.int .i64 r.1)))) := by
  refine fch_mk (rs := [.tmp 6]) (n := 62) [] Tryd.func15 rfl rfl (Nat.le_of_ble_eq_true rfl) rfl (pins := [OB + 0]) rfl (L := [(HK, .hp (hpA w0)), (OB + 0, .box (fl (dT cBool) p0)), (0, .t (.view 0 0 4 1 p0.length)), (1, .t (.d (.seq 1 (List.map cI64 p1)))), (2, .t (.d (.lit (.bool p2))))]) rfl ?_
  refine c_seq ?_
  refine c_region ?_
  refine o_s (.t (.d (.lit (.int .i64 0)))) (g0 rfl) rfl rfl rfl ?_
  refine o_nil ?_
  repeat (first | refine then_normal ?_ | refine then_exit ?_ | refine then_ret ?_ | refine block_normal ?_ | refine block_ret ?_ | refine block_exit ?_ | refine block_pass rfl ?_)
  refine c_cutH (fun (_ : Unit) => [(0, .t (.view 0 0 4 1 p0.length)), (1, .t (.d (.seq 1 (List.map cI64 p1)))), (2, .t (.d (.lit (.bool p2)))), ((OB + 0), .box (fl (dT cBool) p0)), (HK, .hp (hpA w0))]) (fun (_ : Unit) => m_R19_Turn_v0_j1 p1 p2 p0 = some r) ?_ ?_
  · refine c_seq ?_
    refine c_region ?_
    refine o_s (.t (.d (.lit (.int .i64 0)))) (g0 rfl) rfl rfl rfl ?_
    refine o_nil ?_
    repeat (first | refine then_normal ?_ | refine then_exit ?_ | refine then_ret ?_ | refine block_normal ?_ | refine block_ret ?_ | refine block_exit ?_ | refine block_pass rfl ?_)
    refine c_block ?_
    refine c_fuelH (fun (z8 : Int) => [(0, .t (.view 0 0 4 1 p0.length)), (1, .t (.d (.seq 1 (List.map cI64 p1)))), (2, .t (.d (.lit (.bool p2)))), (7, .t (.d (.lit (.int .i64 z8)))), ((OB + 0), .box (fl (dT cBool) p0)), (HK, .hp (hpA w0))]) (fun nl3 => (fun (z8 : Int) => m_R19_Turn_v0_l3 p1 p0 p2 nl3 z8 = some r)) (p1.length + 1) 0 [] h rfl ⟨.inr ⟨_, rfl, pure_hpA _⟩, by (repeat (first | exact ObP.nil | refine ObP.cons (.inl rfl) ?_ | refine ObP.cons (.inr (fun _ => rfl)) ?_ | refine ObP.cons (.inr (ob_box (fl_noPt _ _))) ?_ | refine ObP.cons (.inr (ob_gb _ _)) ?_))⟩ ⟨(.refl _), ⟨(.refl _), ⟨(.refl _), ⟨(.refl _), ⟨(.refl _), ⟨(.refl _), trivial⟩⟩⟩⟩⟩⟩ rfl ?_
    rintro nl3 z8 h
    cases nl3 with
    | zero => exact none_ne h
    | succ nl3 =>
      refine c_seq ?_
      refine c_seq ?_
      refine c_region ?_
      refine o_s (.t (.d (.lit (.int .i64 z8)))) (g0 rfl) rfl rfl rfl ?_
      refine o_s (.t (.d (.seq 1 (List.map cI64 p1)))) (g0 rfl) rfl rfl rfl ?_
      refine o_c (g0 rfl) rfl rfl rfl (lenE _ _) trivial ?_
      refine o_s (.t (.d (.lit (.bool (decide (z8 < (p1.length : Int))))))) (g0 rfl) rfl rfl rfl ?_
      refine o_nil ?_
      repeat (first | refine then_normal ?_ | refine then_exit ?_ | refine then_ret ?_ | refine block_normal ?_ | refine block_ret ?_ | refine block_exit ?_ | refine block_pass rfl ?_)
      rcases bif_some h with ⟨h9, h⟩ | ⟨h9, h⟩
      · refine c_t h9 rfl ?_
        refine c_skip ?_
        repeat (first | refine then_normal ?_ | refine then_exit ?_ | refine then_ret ?_ | refine block_normal ?_ | refine block_ret ?_ | refine block_exit ?_ | refine block_pass rfl ?_)
        refine c_cutH (fun (q : Int × Bool × Int × Bool × Bool) => [(0, .t (.view 0 0 4 1 p0.length)), (1, .t (.d (.seq 1 (List.map cI64 p1)))), (2, .t (.d (.lit (.bool p2)))), (7, .t (.d (.lit (.int .i64 z8)))), (24, .t (.d (.lit (.int .i64 q.1)))), (25, .t (.view 0 0 4 1 p0.length)), (26, .t (.d (.lit (.int .i64 (p0.length : Int))))), (27, .t (.d (.lit (.bool q.2.1)))), (30, .t (.view 0 0 4 1 p0.length)), (31, .t (.d (.lit (.int .i64 q.2.2.1)))), (33, .t (.d (.lit (.bool q.2.2.2.1)))), (34, .t (.d (.lit (.bool p2)))), (35, .t (.d (.lit (.bool q.2.2.2.2)))), ((OB + 0), .box (fl (dT cBool) p0)), (HK, .hp (hpA w0))]) (fun (q : Int × Bool × Int × Bool × Bool) => m_R19_Turn_v0_j4 (m_R19_Turn_v0_l3 p1 p0 p2 nl3) z8 q.1 q.2.1 q.2.2.1 q.2.2.2.1 q.2.2.2.2 = some r) ?_ ?_
        · refine c_block ?_
          refine c_seq ?_
          refine c_region ?_
          refine o_s (.t (.d (.seq 1 (List.map cI64 p1)))) (g0 rfl) rfl rfl rfl ?_
          refine o_s (.t (.d (.lit (.int .i64 z8)))) (g0 rfl) rfl rfl rfl ?_
          obtain ⟨x15, h16, h⟩ := bind_some h
          refine o_c (g0 rfl) rfl rfl rfl (idxE h16) (idxC h16) ?_
          refine o_s (.t (.d (.lit (.int .i64 x15)))) (g0 rfl) rfl rfl rfl ?_
          refine o_s (.t (.d (.lit (.int .i64 x15)))) (g0 rfl) rfl rfl rfl ?_
          refine o_nil ?_
          repeat (first | refine then_normal ?_ | refine then_exit ?_ | refine then_ret ?_ | refine block_normal ?_ | refine block_ret ?_ | refine block_exit ?_ | refine block_pass rfl ?_)
          refine c_seq ?_
          refine c_seq ?_
          refine c_region ?_
          refine o_s (.t (.d (.lit (.int .i64 x15)))) (g0 rfl) rfl rfl rfl ?_
          refine o_s (.t (.d (.lit (.bool (decide (x15 < 0)))))) (g0 rfl) rfl rfl rfl ?_
          refine o_s (.t (.d (.lit (.bool (decide (x15 < 0)))))) (g0 rfl) rfl rfl rfl ?_
          rcases bif_some h with ⟨h17, h⟩ | ⟨h17, h⟩
          · refine o_skip rfl rfl rfl h17 rfl rfl ?_
            refine o_skip rfl rfl rfl h17 rfl rfl ?_
            refine o_skip rfl rfl rfl h17 rfl rfl ?_
            refine o_skip rfl rfl rfl h17 rfl rfl ?_
            refine o_pk (.t (.d (.lit (.bool true)))) (b := true) h17 (g0 rfl) rfl rfl rfl rfl rfl ?_
            refine o_s (.t (.d (.lit (.bool true)))) (g0 rfl) rfl rfl rfl ?_
            refine o_skip rfl rfl rfl rfl rfl rfl ?_
            refine o_skip rfl rfl rfl rfl rfl rfl ?_
            refine o_skip rfl rfl rfl rfl rfl rfl ?_
            refine o_skip rfl rfl rfl rfl rfl rfl ?_
            refine o_skip rfl rfl rfl rfl rfl rfl ?_
            refine o_skip rfl rfl rfl rfl rfl rfl ?_
            refine o_pk (.t (.d (.lit (.bool true)))) (b := true) rfl (g0 rfl) rfl rfl rfl rfl rfl ?_
            refine o_nil ?_
            repeat (first | refine then_normal ?_ | refine then_exit ?_ | refine then_ret ?_ | refine block_normal ?_ | refine block_ret ?_ | refine block_exit ?_ | refine block_pass rfl ?_)
            refine c_t rfl rfl ?_
            refine c_seq ?_
            refine c_region ?_
            refine o_s (.t (.d (.lit (.int .i64 2)))) (g0 rfl) rfl rfl rfl ?_
            refine o_nil ?_
            repeat (first | refine then_normal ?_ | refine then_exit ?_ | refine then_ret ?_ | refine block_normal ?_ | refine block_ret ?_ | refine block_exit ?_ | refine block_pass rfl ?_)
            refine c_ret ?_
            repeat (first | refine then_normal ?_ | refine then_exit ?_ | refine then_ret ?_ | refine block_normal ?_ | refine block_ret ?_ | refine block_exit ?_ | refine block_pass rfl ?_)
            obtain rfl := Option.some.inj h
            exact ⟨⟨_, rfl, (.refl _)⟩, ⟨rfl, trivial⟩, rfl⟩
          · refine o_s (.t (.d (.lit (.int .i64 x15)))) (gy rfl rfl rfl h17) rfl rfl rfl ?_
            refine o_s (.t (.view 0 0 4 1 p0.length)) (gy rfl rfl rfl h17) rfl rfl rfl ?_
            refine o_of (e := [(26, .t (.d (.lit (.int .i64 (p0.length : Int)))))]) (gy rfl rfl rfl h17) (h_lln (Mk.refl _) rfl rfl rfl rfl rfl rfl) rfl ?_
            refine o_s (.t (.d (.lit (.bool (decide (x15 ≥ (p0.length : Int))))))) (gy rfl rfl rfl h17) rfl rfl rfl ?_
            refine o_pk (.t (.d (.lit (.bool (decide (x15 ≥ (p0.length : Int))))))) (b := false) h17 (g0 rfl) rfl rfl rfl rfl rfl ?_
            refine o_s (.t (.d (.lit (.bool (decide (x15 ≥ (p0.length : Int))))))) (g0 rfl) rfl rfl rfl ?_
            rcases bif_some h with ⟨h18, h⟩ | ⟨h18, h⟩
            · refine o_skip rfl rfl rfl h18 rfl rfl ?_
              refine o_skip rfl rfl rfl h18 rfl rfl ?_
              refine o_skip rfl rfl rfl h18 rfl rfl ?_
              refine o_skip rfl rfl rfl h18 rfl rfl ?_
              refine o_skip rfl rfl rfl h18 rfl rfl ?_
              refine o_skip rfl rfl rfl h18 rfl rfl ?_
              refine o_pk (.t (.d (.lit (.bool true)))) (b := true) h18 (g0 rfl) rfl rfl rfl rfl rfl ?_
              refine o_nil ?_
              repeat (first | refine then_normal ?_ | refine then_exit ?_ | refine then_ret ?_ | refine block_normal ?_ | refine block_ret ?_ | refine block_exit ?_ | refine block_pass rfl ?_)
              refine c_t rfl rfl ?_
              refine c_seq ?_
              refine c_region ?_
              refine o_s (.t (.d (.lit (.int .i64 2)))) (g0 rfl) rfl rfl rfl ?_
              refine o_nil ?_
              repeat (first | refine then_normal ?_ | refine then_exit ?_ | refine then_ret ?_ | refine block_normal ?_ | refine block_ret ?_ | refine block_exit ?_ | refine block_pass rfl ?_)
              refine c_ret ?_
              repeat (first | refine then_normal ?_ | refine then_exit ?_ | refine then_ret ?_ | refine block_normal ?_ | refine block_ret ?_ | refine block_exit ?_ | refine block_pass rfl ?_)
              obtain rfl := Option.some.inj h
              exact ⟨⟨_, rfl, (.refl _)⟩, ⟨rfl, trivial⟩, rfl⟩
            · refine o_s (.t (.view 0 0 4 1 p0.length)) (gy rfl rfl rfl h18) rfl rfl rfl ?_
              refine o_s (.t (.d (.lit (.int .i64 x15)))) (gy rfl rfl rfl h18) rfl rfl rfl ?_
              obtain ⟨x19, h20, h⟩ := bind_some h
              refine o_of (e := [(32, .ref (OB + 0) (0 + Int.toNat x15 * 1))]) (gy rfl rfl rfl h18) (h_lix (Mk.refl _) rfl rfl rfl rfl rfl (idxV rfl h20) rfl rfl rfl) rfl ?_
              refine o_of (e := [(33, .t (.d (.lit (.bool x19))))]) (gy rfl rfl rfl h18) (h_lld (Mk.refl _) rfl rfl rfl rfl (fl_at h20 rfl (fun _ => rfl)) rfl rfl rfl) rfl ?_
              refine o_s (.t (.d (.lit (.bool p2)))) (gy rfl rfl rfl h18) rfl rfl rfl ?_
              refine o_s (.t (.d (.lit (.bool (!(x19 == p2)))))) (gy rfl rfl rfl h18) rfl rfl rfl ?_
              refine o_pk (.t (.d (.lit (.bool (!(x19 == p2)))))) (b := false) h18 (g0 rfl) rfl rfl rfl rfl rfl ?_
              refine o_nil ?_
              repeat (first | refine then_normal ?_ | refine then_exit ?_ | refine then_ret ?_ | refine block_normal ?_ | refine block_ret ?_ | refine block_exit ?_ | refine block_pass rfl ?_)
              rcases bif_some h with ⟨h21, h⟩ | ⟨h21, h⟩
              · refine c_t h21 rfl ?_
                refine c_seq ?_
                refine c_region ?_
                refine o_s (.t (.d (.lit (.int .i64 2)))) (g0 rfl) rfl rfl rfl ?_
                refine o_nil ?_
                repeat (first | refine then_normal ?_ | refine then_exit ?_ | refine then_ret ?_ | refine block_normal ?_ | refine block_ret ?_ | refine block_exit ?_ | refine block_pass rfl ?_)
                refine c_ret ?_
                repeat (first | refine then_normal ?_ | refine then_exit ?_ | refine then_ret ?_ | refine block_normal ?_ | refine block_ret ?_ | refine block_exit ?_ | refine block_pass rfl ?_)
                obtain rfl := Option.some.inj h
                exact ⟨⟨_, rfl, (.refl _)⟩, ⟨rfl, trivial⟩, rfl⟩
              · refine c_f h21 rfl ?_
                refine c_skip ?_
                repeat (first | refine then_normal ?_ | refine then_exit ?_ | refine then_ret ?_ | refine block_normal ?_ | refine block_ret ?_ | refine block_exit ?_ | refine block_pass rfl ?_)
                refine c_seq ?_
                refine c_region ?_
                refine o_s (.t (.d (.lit (.int .i64 0)))) (g0 rfl) rfl rfl rfl ?_
                refine o_nil ?_
                repeat (first | refine then_normal ?_ | refine then_exit ?_ | refine then_ret ?_ | refine block_normal ?_ | refine block_ret ?_ | refine block_exit ?_ | refine block_pass rfl ?_)
                refine c_block ?_
                refine c_fuelH (fun (z22 : Int) => [(0, .t (.view 0 0 4 1 p0.length)), (1, .t (.d (.seq 1 (List.map cI64 p1)))), (2, .t (.d (.lit (.bool p2)))), (7, .t (.d (.lit (.int .i64 z8)))), (8, .t (.d (.lit (.int .i64 x15)))), (9, .t (.d (.lit (.int .i64 z22)))), (24, .t (.d (.lit (.int .i64 x15)))), (25, .t (.view 0 0 4 1 p0.length)), (26, .t (.d (.lit (.int .i64 (p0.length : Int))))), (27, .t (.d (.lit (.bool (decide (x15 ≥ (p0.length : Int))))))), (30, .t (.view 0 0 4 1 p0.length)), (31, .t (.d (.lit (.int .i64 x15)))), (33, .t (.d (.lit (.bool x19)))), (34, .t (.d (.lit (.bool p2)))), (35, .t (.d (.lit (.bool (!(x19 == p2)))))), ((OB + 0), .box (fl (dT cBool) p0)), (HK, .hp (hpA w0))]) (fun nl5 => (fun (z22 : Int) => m_R19_Turn_v0_l5 (m_R19_Turn_v0_l3 p1 p0 p2 nl3) z8 p1 x15 p0 x19 p2 nl5 z22 = some r)) (Int.toNat z8 + 1) 0 [] h rfl ⟨.inr ⟨_, rfl, pure_hpA _⟩, by (repeat (first | exact ObP.nil | refine ObP.cons (.inl rfl) ?_ | refine ObP.cons (.inr (fun _ => rfl)) ?_ | refine ObP.cons (.inr (ob_box (fl_noPt _ _))) ?_ | refine ObP.cons (.inr (ob_gb _ _)) ?_))⟩ ⟨(.refl _), ⟨(.refl _), ⟨(.refl _), ⟨(.refl _), ⟨(.refl _), ⟨(.refl _), ⟨(.refl _), ⟨(.refl _), ⟨(.refl _), ⟨(.refl _), ⟨(.refl _), ⟨(.refl _), ⟨(.refl _), ⟨(.refl _), ⟨(.refl _), ⟨(.refl _), ⟨(.refl _), trivial⟩⟩⟩⟩⟩⟩⟩⟩⟩⟩⟩⟩⟩⟩⟩⟩⟩ rfl ?_
                rintro nl5 z22 h
                cases nl5 with
                | zero => exact none_ne h
                | succ nl5 =>
                  refine c_seq ?_
                  refine c_seq ?_
                  refine c_region ?_
                  refine o_s (.t (.d (.lit (.int .i64 z22)))) (g0 rfl) rfl rfl rfl ?_
                  refine o_s (.t (.d (.lit (.int .i64 z8)))) (g0 rfl) rfl rfl rfl ?_
                  refine o_s (.t (.d (.lit (.bool (decide (z22 < z8)))))) (g0 rfl) rfl rfl rfl ?_
                  refine o_nil ?_
                  repeat (first | refine then_normal ?_ | refine then_exit ?_ | refine then_ret ?_ | refine block_normal ?_ | refine block_ret ?_ | refine block_exit ?_ | refine block_pass rfl ?_)
                  rcases bif_some h with ⟨h23, h⟩ | ⟨h23, h⟩
                  · refine c_t h23 rfl ?_
                    refine c_skip ?_
                    repeat (first | refine then_normal ?_ | refine then_exit ?_ | refine then_ret ?_ | refine block_normal ?_ | refine block_ret ?_ | refine block_exit ?_ | refine block_pass rfl ?_)
                    refine c_seq ?_
                    refine c_block ?_
                    refine c_seq ?_
                    refine c_region ?_
                    refine o_s (.t (.d (.seq 1 (List.map cI64 p1)))) (g0 rfl) rfl rfl rfl ?_
                    refine o_s (.t (.d (.lit (.int .i64 z22)))) (g0 rfl) rfl rfl rfl ?_
                    obtain ⟨x24, h25, h⟩ := bind_some h
                    refine o_c (g0 rfl) rfl rfl rfl (idxE h25) (idxC h25) ?_
                    refine o_s (.t (.d (.lit (.int .i64 x24)))) (g0 rfl) rfl rfl rfl ?_
                    refine o_s (.t (.d (.lit (.int .i64 x15)))) (g0 rfl) rfl rfl rfl ?_
                    refine o_s (.t (.d (.lit (.bool (x24 == x15))))) (g0 rfl) rfl rfl rfl ?_
                    refine o_nil ?_
                    repeat (first | refine then_normal ?_ | refine then_exit ?_ | refine then_ret ?_ | refine block_normal ?_ | refine block_ret ?_ | refine block_exit ?_ | refine block_pass rfl ?_)
                    rcases bif_some h with ⟨h26, h⟩ | ⟨h26, h⟩
                    · refine c_t h26 rfl ?_
                      refine c_seq ?_
                      refine c_region ?_
                      refine o_s (.t (.d (.lit (.int .i64 2)))) (g0 rfl) rfl rfl rfl ?_
                      refine o_nil ?_
                      repeat (first | refine then_normal ?_ | refine then_exit ?_ | refine then_ret ?_ | refine block_normal ?_ | refine block_ret ?_ | refine block_exit ?_ | refine block_pass rfl ?_)
                      refine c_ret ?_
                      repeat (first | refine then_normal ?_ | refine then_exit ?_ | refine then_ret ?_ | refine block_normal ?_ | refine block_ret ?_ | refine block_exit ?_ | refine block_pass rfl ?_)
                      obtain rfl := Option.some.inj h
                      exact ⟨⟨_, rfl, (.refl _)⟩, ⟨rfl, trivial⟩, rfl⟩
                    · refine c_f h26 rfl ?_
                      refine c_skip ?_
                      repeat (first | refine then_normal ?_ | refine then_exit ?_ | refine then_ret ?_ | refine block_normal ?_ | refine block_ret ?_ | refine block_exit ?_ | refine block_pass rfl ?_)
                      refine c_region ?_
                      refine o_s (.t (.d (.lit (.int .i64 z22)))) (g0 rfl) rfl rfl rfl ?_
                      refine o_s (.t (.d (.lit (.int .i64 (wi (z22 + 1)))))) (g0 rfl) rfl rfl rfl ?_
                      refine o_s (.t (.d (.lit (.int .i64 (wi (z22 + 1)))))) (g0 rfl) rfl rfl rfl ?_
                      refine o_nil ?_
                      repeat (first | refine then_normal ?_ | refine then_exit ?_ | refine then_ret ?_ | refine block_normal ?_ | refine block_ret ?_ | refine block_exit ?_ | refine block_pass rfl ?_)
                      exact ⟨nl5, (wi (z22 + 1)), [], Nat.lt_succ_self nl5, h, rfl, ⟨.inr ⟨_, rfl, pure_hpA _⟩, by (repeat (first | exact ObP.nil | refine ObP.cons (.inl rfl) ?_ | refine ObP.cons (.inr (fun _ => rfl)) ?_ | refine ObP.cons (.inr (ob_box (fl_noPt _ _))) ?_ | refine ObP.cons (.inr (ob_gb _ _)) ?_))⟩, ⟨(.refl _), ⟨(.refl _), ⟨(.refl _), ⟨(.refl _), ⟨(.refl _), ⟨(.refl _), ⟨(.refl _), ⟨(.refl _), ⟨(.refl _), ⟨(.refl _), ⟨(.refl _), ⟨(.refl _), ⟨(.refl _), ⟨(.refl _), ⟨(.refl _), ⟨(.refl _), ⟨(.refl _), trivial⟩⟩⟩⟩⟩⟩⟩⟩⟩⟩⟩⟩⟩⟩⟩⟩⟩, rfl⟩
                  · refine c_f h23 rfl ?_
                    refine c_exit ?_
                    repeat (first | refine then_normal ?_ | refine then_exit ?_ | refine then_ret ?_ | refine block_normal ?_ | refine block_ret ?_ | refine block_exit ?_ | refine block_pass rfl ?_)
                    exact ⟨(x15, (decide (x15 ≥ (p0.length : Int))), x15, x19, (!(x19 == p2))), [], h, rfl, ⟨.inr ⟨_, rfl, pure_hpA _⟩, by (repeat (first | exact ObP.nil | refine ObP.cons (.inl rfl) ?_ | refine ObP.cons (.inr (fun _ => rfl)) ?_ | refine ObP.cons (.inr (ob_box (fl_noPt _ _))) ?_ | refine ObP.cons (.inr (ob_gb _ _)) ?_))⟩, ⟨(.refl _), ⟨(.refl _), ⟨(.refl _), ⟨(.refl _), ⟨(.refl _), ⟨(.refl _), ⟨(.refl _), ⟨(.refl _), ⟨(.refl _), ⟨(.refl _), ⟨(.refl _), ⟨(.refl _), ⟨(.refl _), ⟨(.refl _), ⟨(.refl _), trivial⟩⟩⟩⟩⟩⟩⟩⟩⟩⟩⟩⟩⟩⟩⟩, rfl⟩
        · rintro ⟨y10, y11, y12, y13, y14⟩ h
          refine c_region ?_
          refine o_s (.t (.d (.lit (.int .i64 z8)))) (g0 rfl) rfl rfl rfl ?_
          refine o_s (.t (.d (.lit (.int .i64 (wi (z8 + 1)))))) (g0 rfl) rfl rfl rfl ?_
          refine o_s (.t (.d (.lit (.int .i64 (wi (z8 + 1)))))) (g0 rfl) rfl rfl rfl ?_
          refine o_nil ?_
          repeat (first | refine then_normal ?_ | refine then_exit ?_ | refine then_ret ?_ | refine block_normal ?_ | refine block_ret ?_ | refine block_exit ?_ | refine block_pass rfl ?_)
          exact ⟨nl3, (wi (z8 + 1)), [], Nat.lt_succ_self nl3, h, rfl, ⟨.inr ⟨_, rfl, pure_hpA _⟩, by (repeat (first | exact ObP.nil | refine ObP.cons (.inl rfl) ?_ | refine ObP.cons (.inr (fun _ => rfl)) ?_ | refine ObP.cons (.inr (ob_box (fl_noPt _ _))) ?_ | refine ObP.cons (.inr (ob_gb _ _)) ?_))⟩, ⟨(.refl _), ⟨(.refl _), ⟨(.refl _), ⟨(.refl _), ⟨(.refl _), ⟨(.refl _), trivial⟩⟩⟩⟩⟩⟩, rfl⟩
      · refine c_f h9 rfl ?_
        refine c_exit ?_
        repeat (first | refine then_normal ?_ | refine then_exit ?_ | refine then_ret ?_ | refine block_normal ?_ | refine block_ret ?_ | refine block_exit ?_ | refine block_pass rfl ?_)
        exact ⟨(), [], h, rfl, ⟨.inr ⟨_, rfl, pure_hpA _⟩, by (repeat (first | exact ObP.nil | refine ObP.cons (.inl rfl) ?_ | refine ObP.cons (.inr (fun _ => rfl)) ?_ | refine ObP.cons (.inr (ob_box (fl_noPt _ _))) ?_ | refine ObP.cons (.inr (ob_gb _ _)) ?_))⟩, ⟨(.refl _), ⟨(.refl _), ⟨(.refl _), ⟨(.refl _), ⟨(.refl _), trivial⟩⟩⟩⟩⟩, rfl⟩
  · rintro ⟨⟩ h
    refine c_seq ?_
    refine c_seq ?_
    refine c_region ?_
    refine o_s (.t (.d (.lit (.int .i64 0)))) (g0 rfl) rfl rfl rfl ?_
    refine o_nil ?_
    repeat (first | refine then_normal ?_ | refine then_exit ?_ | refine then_ret ?_ | refine block_normal ?_ | refine block_ret ?_ | refine block_exit ?_ | refine block_pass rfl ?_)
    refine c_block ?_
    refine c_fuelH (fun (q : Int × (List Bool)) => [(0, .t (.view 0 0 4 1 q.2.length)), (1, .t (.d (.seq 1 (List.map cI64 p1)))), (2, .t (.d (.lit (.bool p2)))), (10, .t (.d (.lit (.int .i64 q.1)))), ((OB + 0), .box (fl (dT cBool) q.2)), (HK, .hp (hpA w0))]) (fun nl2 => (fun (q : Int × (List Bool)) => m_R19_Turn_v0_l2 p1 p2 nl2 q.1 q.2 = some r)) (p1.length + 1) (0, p0) [] h rfl ⟨.inr ⟨_, rfl, pure_hpA _⟩, by (repeat (first | exact ObP.nil | refine ObP.cons (.inl rfl) ?_ | refine ObP.cons (.inr (fun _ => rfl)) ?_ | refine ObP.cons (.inr (ob_box (fl_noPt _ _))) ?_ | refine ObP.cons (.inr (ob_gb _ _)) ?_))⟩ ⟨(.refl _), ⟨(.refl _), ⟨(.refl _), ⟨(.refl _), ⟨(.refl _), ⟨(.refl _), trivial⟩⟩⟩⟩⟩⟩ rfl ?_
    rintro nl2 ⟨z1, z2⟩ h
    cases nl2 with
    | zero => exact none_ne h
    | succ nl2 =>
      refine c_seq ?_
      refine c_seq ?_
      refine c_region ?_
      refine o_s (.t (.d (.lit (.int .i64 z1)))) (g0 rfl) rfl rfl rfl ?_
      refine o_s (.t (.d (.seq 1 (List.map cI64 p1)))) (g0 rfl) rfl rfl rfl ?_
      refine o_c (g0 rfl) rfl rfl rfl (lenE _ _) trivial ?_
      refine o_s (.t (.d (.lit (.bool (decide (z1 < (p1.length : Int))))))) (g0 rfl) rfl rfl rfl ?_
      refine o_nil ?_
      repeat (first | refine then_normal ?_ | refine then_exit ?_ | refine then_ret ?_ | refine block_normal ?_ | refine block_ret ?_ | refine block_exit ?_ | refine block_pass rfl ?_)
      rcases bif_some h with ⟨h3, h⟩ | ⟨h3, h⟩
      · refine c_t h3 rfl ?_
        refine c_skip ?_
        repeat (first | refine then_normal ?_ | refine then_exit ?_ | refine then_ret ?_ | refine block_normal ?_ | refine block_ret ?_ | refine block_exit ?_ | refine block_pass rfl ?_)
        refine c_seq ?_
        refine c_block ?_
        refine c_region ?_
        refine o_s (.t (.view 0 0 4 1 z2.length)) (g0 rfl) rfl rfl rfl ?_
        refine o_s (.t (.d (.seq 1 (List.map cI64 p1)))) (g0 rfl) rfl rfl rfl ?_
        refine o_s (.t (.d (.lit (.int .i64 z1)))) (g0 rfl) rfl rfl rfl ?_
        obtain ⟨x4, h5, h⟩ := bind_some h
        refine o_c (g0 rfl) rfl rfl rfl (idxE h5) (idxC h5) ?_
        refine o_s (.t (.d (.lit (.int .i64 x4)))) (g0 rfl) rfl rfl rfl ?_
        refine o_s (.t (.d (.lit (.bool p2)))) (g0 rfl) rfl rfl rfl ?_
        refine o_s (.t (.d (.lit (.bool (!p2))))) (g0 rfl) rfl rfl rfl ?_
        obtain ⟨x6, h7, h⟩ := bind_some h
        refine o_of (e := [(61, .ref (OB + 0) (0 + Int.toNat x4 * 1))]) (g0 rfl) (h_lix (Mk.refl _) rfl rfl rfl rfl rfl (idxV rfl h7) rfl rfl rfl) rfl ?_
        refine o_of (e := [((OB + 0), .box (fl (dT cBool) (z2.set (Int.toNat x4) (!p2))))]) (g0 rfl) (h_lst (Mk.refl _) rfl rfl rfl rfl rfl rfl rfl (fl_room h7 (fun _ => rfl)) (fl_put h7 (!p2) (fun _ => rfl) rfl)) rfl ?_
        refine o_nil ?_
        repeat (first | refine then_normal ?_ | refine then_exit ?_ | refine then_ret ?_ | refine block_normal ?_ | refine block_ret ?_ | refine block_exit ?_ | refine block_pass rfl ?_)
        refine c_region ?_
        refine o_s (.t (.d (.lit (.int .i64 z1)))) (g0 rfl) rfl rfl rfl ?_
        refine o_s (.t (.d (.lit (.int .i64 (wi (z1 + 1)))))) (g0 rfl) rfl rfl rfl ?_
        refine o_s (.t (.d (.lit (.int .i64 (wi (z1 + 1)))))) (g0 rfl) rfl rfl rfl ?_
        refine o_nil ?_
        repeat (first | refine then_normal ?_ | refine then_exit ?_ | refine then_ret ?_ | refine block_normal ?_ | refine block_ret ?_ | refine block_exit ?_ | refine block_pass rfl ?_)
        exact ⟨nl2, ((wi (z1 + 1)), (z2.set (Int.toNat x4) (!p2))), [], Nat.lt_succ_self nl2, h, rfl, ⟨.inr ⟨_, rfl, pure_hpA _⟩, by (repeat (first | exact ObP.nil | refine ObP.cons (.inl rfl) ?_ | refine ObP.cons (.inr (fun _ => rfl)) ?_ | refine ObP.cons (.inr (ob_box (fl_noPt _ _))) ?_ | refine ObP.cons (.inr (ob_gb _ _)) ?_))⟩, ⟨(.vwn (by first | rfl | (simp; done) | (dsimp only; omega) | (simp; omega))), ⟨(.refl _), ⟨(.refl _), ⟨(.refl _), ⟨(.refl _), ⟨(.refl _), trivial⟩⟩⟩⟩⟩⟩, rfl⟩
      · refine c_f h3 rfl ?_
        refine c_exit ?_
        repeat (first | refine then_normal ?_ | refine then_exit ?_ | refine then_ret ?_ | refine block_normal ?_ | refine block_ret ?_ | refine block_exit ?_ | refine block_pass rfl ?_)
        refine c_seq ?_
        refine c_region ?_
        refine o_s (.t (.d (.lit (.int .i64 0)))) (g0 rfl) rfl rfl rfl ?_
        refine o_nil ?_
        repeat (first | refine then_normal ?_ | refine then_exit ?_ | refine then_ret ?_ | refine block_normal ?_ | refine block_ret ?_ | refine block_exit ?_ | refine block_pass rfl ?_)
        refine c_ret ?_
        repeat (first | refine then_normal ?_ | refine then_exit ?_ | refine then_ret ?_ | refine block_normal ?_ | refine block_ret ?_ | refine block_exit ?_ | refine block_pass rfl ?_)
        obtain rfl := Option.some.inj h
        exact ⟨⟨_, rfl, (.refl _)⟩, ⟨rfl, trivial⟩, rfl⟩

theorem fch_R19_Bytes_v0 (p0 : (List Bool)) (w0 : Hp) (r : (List UInt8)) (h : m_R19_Bytes p0 = some r) : FCH Tryd.prog 30 [.t (.view 0 0 4 1 p0.length)] [.box (fl (dT cBool) p0)] [.box (fl (dT cBool) p0)] (hpA w0) (hpA w0) (.t (.own 5 1 (bytesD r))) := by
  refine fch_mk (rs := [.tmp 2]) (n := 41) [] Tryd.func30 rfl rfl (Nat.le_of_ble_eq_true rfl) rfl (pins := [OB + 0]) rfl (L := [(HK, .hp (hpA w0)), (OB + 0, .box (fl (dT cBool) p0)), (0, .t (.view 0 0 4 1 p0.length))]) rfl ?_
  refine c_seq ?_
  refine c_region ?_
  refine o_s (.t (.d (.lit (.slice none 0 0)))) (g0 rfl) rfl rfl rfl ?_
  refine o_nil ?_
  repeat (first | refine then_normal ?_ | refine then_exit ?_ | refine then_ret ?_ | refine block_normal ?_ | refine block_ret ?_ | refine block_exit ?_ | refine block_pass rfl ?_)
  refine c_seq ?_
  refine c_region ?_
  refine o_s (.t (.d (.lit (.slice none 0 0)))) (g0 rfl) rfl rfl rfl ?_
  refine o_nil ?_
  repeat (first | refine then_normal ?_ | refine then_exit ?_ | refine then_ret ?_ | refine block_normal ?_ | refine block_ret ?_ | refine block_exit ?_ | refine block_pass rfl ?_)
  refine c_seq ?_
  refine c_seq ?_
  refine c_region ?_
  refine o_s (.t (.d (.lit (.int .i64 0)))) (g0 rfl) rfl rfl rfl ?_
  refine o_nil ?_
  repeat (first | refine then_normal ?_ | refine then_exit ?_ | refine then_ret ?_ | refine block_normal ?_ | refine block_ret ?_ | refine block_exit ?_ | refine block_pass rfl ?_)
  refine c_block ?_
  refine c_fuelH (fun (q : (List UInt8) × Int) => [(0, .t (.view 0 0 4 1 p0.length)), (3, .t (.own 5 1 (bytesD q.1))), (4, .t (.d (.lit (.int .i64 q.2)))), ((OB + 0), .box (fl (dT cBool) p0)), (HK, .hp (hpA w0))]) (fun nl1 => (fun (q : (List UInt8) × Int) => m_R19_Bytes_l1 p0 nl1 q.1 q.2 = some r)) (p0.length + 1) ([], 0) [] h rfl ⟨.inr ⟨_, rfl, pure_hpA _⟩, by (repeat (first | exact ObP.nil | refine ObP.cons (.inl rfl) ?_ | refine ObP.cons (.inr (fun _ => rfl)) ?_ | refine ObP.cons (.inr (ob_box (fl_noPt _ _))) ?_ | refine ObP.cons (.inr (ob_gb _ _)) ?_))⟩ ⟨(.refl _), ⟨(.t (.nilOwn _ _)), ⟨(.refl _), ⟨(.refl _), ⟨(.refl _), trivial⟩⟩⟩⟩⟩ rfl ?_
  rintro nl1 ⟨z1, z2⟩ h
  cases nl1 with
  | zero => exact none_ne h
  | succ nl1 =>
    refine c_seq ?_
    refine c_seq ?_
    refine c_region ?_
    refine o_s (.t (.d (.lit (.int .i64 z2)))) (g0 rfl) rfl rfl rfl ?_
    refine o_s (.t (.view 0 0 4 1 p0.length)) (g0 rfl) rfl rfl rfl ?_
    refine o_of (e := [(9, .t (.d (.lit (.int .i64 (p0.length : Int)))))]) (g0 rfl) (h_lln (Mk.refl _) rfl rfl rfl rfl rfl rfl) rfl ?_
    refine o_s (.t (.d (.lit (.bool (decide (z2 < (p0.length : Int))))))) (g0 rfl) rfl rfl rfl ?_
    refine o_nil ?_
    repeat (first | refine then_normal ?_ | refine then_exit ?_ | refine then_ret ?_ | refine block_normal ?_ | refine block_ret ?_ | refine block_exit ?_ | refine block_pass rfl ?_)
    rcases bif_some h with ⟨h3, h⟩ | ⟨h3, h⟩
    · refine c_t h3 rfl ?_
      refine c_skip ?_
      repeat (first | refine then_normal ?_ | refine then_exit ?_ | refine then_ret ?_ | refine block_normal ?_ | refine block_ret ?_ | refine block_exit ?_ | refine block_pass rfl ?_)
      refine c_seq ?_
      refine c_block ?_
      refine c_seq ?_
      refine c_region ?_
      refine o_s (.t (.d (.lit (.int .i64 0)))) (g0 rfl) rfl rfl rfl ?_
      refine o_nil ?_
      repeat (first | refine then_normal ?_ | refine then_exit ?_ | refine then_ret ?_ | refine block_normal ?_ | refine block_ret ?_ | refine block_exit ?_ | refine block_pass rfl ?_)
      refine c_cutH (fun (y4 : Int) => [(0, .t (.view 0 0 4 1 p0.length)), (3, .t (.own 5 1 (bytesD z1))), (4, .t (.d (.lit (.int .i64 z2)))), (5, .t (.d (.lit (.int .i64 y4)))), ((OB + 0), .box (fl (dT cBool) p0)), (HK, .hp (hpA w0))]) (fun (y4 : Int) => m_R19_Bytes_j2 (m_R19_Bytes_l1 p0 nl1) z1 z2 y4 = some r) ?_ ?_
      · refine c_seq ?_
        refine c_region ?_
        refine o_s (.t (.d (.lit (.int .i64 7)))) (g0 rfl) rfl rfl rfl ?_
        refine o_nil ?_
        repeat (first | refine then_normal ?_ | refine then_exit ?_ | refine then_ret ?_ | refine block_normal ?_ | refine block_ret ?_ | refine block_exit ?_ | refine block_pass rfl ?_)
        refine c_block ?_
        refine c_fuelH (fun (q : Int × Int) => [(0, .t (.view 0 0 4 1 p0.length)), (3, .t (.own 5 1 (bytesD z1))), (4, .t (.d (.lit (.int .i64 z2)))), (5, .t (.d (.lit (.int .i64 q.1)))), (6, .t (.d (.lit (.int .i64 q.2)))), ((OB + 0), .box (fl (dT cBool) p0)), (HK, .hp (hpA w0))]) (fun nl3 => (fun (q : Int × Int) => m_R19_Bytes_l3 (m_R19_Bytes_l1 p0 nl1) z2 p0 z1 nl3 q.1 q.2 = some r)) (9) (0, 7) [] h rfl ⟨.inr ⟨_, rfl, pure_hpA _⟩, by (repeat (first | exact ObP.nil | refine ObP.cons (.inl rfl) ?_ | refine ObP.cons (.inr (fun _ => rfl)) ?_ | refine ObP.cons (.inr (ob_box (fl_noPt _ _))) ?_ | refine ObP.cons (.inr (ob_gb _ _)) ?_))⟩ ⟨(.refl _), ⟨(.refl _), ⟨(.refl _), ⟨(.refl _), ⟨(.refl _), ⟨(.refl _), ⟨(.refl _), trivial⟩⟩⟩⟩⟩⟩⟩ rfl ?_
        rintro nl3 ⟨z7, z8⟩ h
        cases nl3 with
        | zero => exact none_ne h
        | succ nl3 =>
          refine c_seq ?_
          refine c_seq ?_
          refine c_region ?_
          refine o_s (.t (.d (.lit (.int .i64 z8)))) (g0 rfl) rfl rfl rfl ?_
          refine o_s (.t (.d (.lit (.bool (decide (z8 ≥ 0)))))) (g0 rfl) rfl rfl rfl ?_
          refine o_nil ?_
          repeat (first | refine then_normal ?_ | refine then_exit ?_ | refine then_ret ?_ | refine block_normal ?_ | refine block_ret ?_ | refine block_exit ?_ | refine block_pass rfl ?_)
          rcases bif_some h with ⟨h9, h⟩ | ⟨h9, h⟩
          · refine c_t h9 rfl ?_
            refine c_skip ?_
            repeat (first | refine then_normal ?_ | refine then_exit ?_ | refine then_ret ?_ | refine block_normal ?_ | refine block_ret ?_ | refine block_exit ?_ | refine block_pass rfl ?_)
            refine c_cutH (fun (y10 : Int) => [(0, .t (.view 0 0 4 1 p0.length)), (3, .t (.own 5 1 (bytesD z1))), (4, .t (.d (.lit (.int .i64 z2)))), (5, .t (.d (.lit (.int .i64 y10)))), (6, .t (.d (.lit (.int .i64 z8)))), ((OB + 0), .box (fl (dT cBool) p0)), (HK, .hp (hpA w0))]) (fun (y10 : Int) => m_R19_Bytes_j4 (m_R19_Bytes_l3 (m_R19_Bytes_l1 p0 nl1) z2 p0 z1 nl3) z8 y10 = some r) ?_ ?_
            · refine c_block ?_
              refine c_seq ?_
              refine c_region ?_
              refine o_s (.t (.d (.lit (.int .i64 z7)))) (g0 rfl) rfl rfl rfl ?_
              refine o_s (.t (.d (.lit (.int .i64 (wi (2 * z7)))))) (g0 rfl) rfl rfl rfl ?_
              refine o_s (.t (.d (.lit (.int .i64 (wi (2 * z7)))))) (g0 rfl) rfl rfl rfl ?_
              refine o_nil ?_
              repeat (first | refine then_normal ?_ | refine then_exit ?_ | refine then_ret ?_ | refine block_normal ?_ | refine block_ret ?_ | refine block_exit ?_ | refine block_pass rfl ?_)
              refine c_seq ?_
              refine c_region ?_
              refine o_s (.t (.d (.lit (.int .i64 z2)))) (g0 rfl) rfl rfl rfl ?_
              refine o_s (.t (.d (.lit (.int .i64 z8)))) (g0 rfl) rfl rfl rfl ?_
              refine o_s (.t (.d (.lit (.int .i64 (wi (z2 + z8)))))) (g0 rfl) rfl rfl rfl ?_
              refine o_s (.t (.view 0 0 4 1 p0.length)) (g0 rfl) rfl rfl rfl ?_
              refine o_of (e := [(23, .t (.d (.lit (.int .i64 (p0.length : Int)))))]) (g0 rfl) (h_lln (Mk.refl _) rfl rfl rfl rfl rfl rfl) rfl ?_
              refine o_s (.t (.d (.lit (.bool (decide ((wi (z2 + z8)) < (p0.length : Int))))))) (g0 rfl) rfl rfl rfl ?_
              refine o_s (.t (.d (.lit (.bool (decide ((wi (z2 + z8)) < (p0.length : Int))))))) (g0 rfl) rfl rfl rfl ?_
              rcases bif_some h with ⟨h11, h⟩ | ⟨h11, h⟩
              · refine o_s (.t (.view 0 0 4 1 p0.length)) (gy rfl rfl rfl h11) rfl rfl rfl ?_
                refine o_s (.t (.d (.lit (.int .i64 z2)))) (gy rfl rfl rfl h11) rfl rfl rfl ?_
                refine o_s (.t (.d (.lit (.int .i64 z8)))) (gy rfl rfl rfl h11) rfl rfl rfl ?_
                refine o_s (.t (.d (.lit (.int .i64 (wi (z2 + z8)))))) (gy rfl rfl rfl h11) rfl rfl rfl ?_
                obtain ⟨x12, h13, h⟩ := bind_some h
                refine o_of (e := [(30, .ref (OB + 0) (0 + Int.toNat (wi (z2 + z8)) * 1))]) (gy rfl rfl rfl h11) (h_lix (Mk.refl _) rfl rfl rfl rfl rfl (idxV rfl h13) rfl rfl rfl) rfl ?_
                refine o_of (e := [(31, .t (.d (.lit (.bool x12))))]) (gy rfl rfl rfl h11) (h_lld (Mk.refl _) rfl rfl rfl rfl (fl_at h13 rfl (fun _ => rfl)) rfl rfl rfl) rfl ?_
                refine o_pk (.t (.d (.lit (.bool x12)))) (b := true) h11 (g0 rfl) rfl rfl rfl rfl rfl ?_
                refine o_nil ?_
                repeat (first | refine then_normal ?_ | refine then_exit ?_ | refine then_ret ?_ | refine block_normal ?_ | refine block_ret ?_ | refine block_exit ?_ | refine block_pass rfl ?_)
                rcases bif_some h with ⟨h14, h⟩ | ⟨h14, h⟩
                · refine c_t h14 rfl ?_
                  refine c_region ?_
                  refine o_s (.t (.d (.lit (.int .i64 (wi (2 * z7)))))) (g0 rfl) rfl rfl rfl ?_
                  refine o_s (.t (.d (.lit (.int .i64 (wi ((wi (2 * z7)) + 1)))))) (g0 rfl) rfl rfl rfl ?_
                  refine o_s (.t (.d (.lit (.int .i64 (wi ((wi (2 * z7)) + 1)))))) (g0 rfl) rfl rfl rfl ?_
                  refine o_nil ?_
                  repeat (first | refine then_normal ?_ | refine then_exit ?_ | refine then_ret ?_ | refine block_normal ?_ | refine block_ret ?_ | refine block_exit ?_ | refine block_pass rfl ?_)
                  exact ⟨(wi ((wi (2 * z7)) + 1)), [], h, rfl, ⟨.inr ⟨_, rfl, pure_hpA _⟩, by (repeat (first | exact ObP.nil | refine ObP.cons (.inl rfl) ?_ | refine ObP.cons (.inr (fun _ => rfl)) ?_ | refine ObP.cons (.inr (ob_box (fl_noPt _ _))) ?_ | refine ObP.cons (.inr (ob_gb _ _)) ?_))⟩, ⟨(.refl _), ⟨(.refl _), ⟨(.refl _), ⟨(.refl _), ⟨(.refl _), ⟨(.refl _), ⟨(.refl _), trivial⟩⟩⟩⟩⟩⟩⟩, rfl⟩
                · refine c_f h14 rfl ?_
                  refine c_skip ?_
                  repeat (first | refine then_normal ?_ | refine then_exit ?_ | refine then_ret ?_ | refine block_normal ?_ | refine block_ret ?_ | refine block_exit ?_ | refine block_pass rfl ?_)
                  exact ⟨(wi (2 * z7)), [], h, rfl, ⟨.inr ⟨_, rfl, pure_hpA _⟩, by (repeat (first | exact ObP.nil | refine ObP.cons (.inl rfl) ?_ | refine ObP.cons (.inr (fun _ => rfl)) ?_ | refine ObP.cons (.inr (ob_box (fl_noPt _ _))) ?_ | refine ObP.cons (.inr (ob_gb _ _)) ?_))⟩, ⟨(.refl _), ⟨(.refl _), ⟨(.refl _), ⟨(.refl _), ⟨(.refl _), ⟨(.refl _), ⟨(.refl _), trivial⟩⟩⟩⟩⟩⟩⟩, rfl⟩
              · refine o_skip rfl rfl rfl h11 rfl rfl ?_
                refine o_skip rfl rfl rfl h11 rfl rfl ?_
                refine o_skip rfl rfl rfl h11 rfl rfl ?_
                refine o_skip rfl rfl rfl h11 rfl rfl ?_
                refine o_skip rfl rfl rfl h11 rfl rfl ?_
                refine o_skip rfl rfl rfl h11 rfl rfl ?_
                refine o_pk (.t (.d (.lit (.bool false)))) (b := false) h11 (g0 rfl) rfl rfl rfl rfl rfl ?_
                refine o_nil ?_
                repeat (first | refine then_normal ?_ | refine then_exit ?_ | refine then_ret ?_ | refine block_normal ?_ | refine block_ret ?_ | refine block_exit ?_ | refine block_pass rfl ?_)
                refine c_f rfl rfl ?_
                refine c_skip ?_
                repeat (first | refine then_normal ?_ | refine then_exit ?_ | refine then_ret ?_ | refine block_normal ?_ | refine block_ret ?_ | refine block_exit ?_ | refine block_pass rfl ?_)
                exact ⟨(wi (2 * z7)), [], h, rfl, ⟨.inr ⟨_, rfl, pure_hpA _⟩, by (repeat (first | exact ObP.nil | refine ObP.cons (.inl rfl) ?_ | refine ObP.cons (.inr (fun _ => rfl)) ?_ | refine ObP.cons (.inr (ob_box (fl_noPt _ _))) ?_ | refine ObP.cons (.inr (ob_gb _ _)) ?_))⟩, ⟨(.refl _), ⟨(.refl _), ⟨(.refl _), ⟨(.refl _), ⟨(.refl _), ⟨(.refl _), ⟨(.refl _), trivial⟩⟩⟩⟩⟩⟩⟩, rfl⟩
            · rintro y10 h
              refine c_region ?_
              refine o_s (.t (.d (.lit (.int .i64 z8)))) (g0 rfl) rfl rfl rfl ?_
              refine o_s (.t (.d (.lit (.int .i64 (wi (z8 - 1)))))) (g0 rfl) rfl rfl rfl ?_
              refine o_s (.t (.d (.lit (.int .i64 (wi (z8 - 1)))))) (g0 rfl) rfl rfl rfl ?_
              refine o_nil ?_
              repeat (first | refine then_normal ?_ | refine then_exit ?_ | refine then_ret ?_ | refine block_normal ?_ | refine block_ret ?_ | refine block_exit ?_ | refine block_pass rfl ?_)
              exact ⟨nl3, (y10, (wi (z8 - 1))), [], Nat.lt_succ_self nl3, h, rfl, ⟨.inr ⟨_, rfl, pure_hpA _⟩, by (repeat (first | exact ObP.nil | refine ObP.cons (.inl rfl) ?_ | refine ObP.cons (.inr (fun _ => rfl)) ?_ | refine ObP.cons (.inr (ob_box (fl_noPt _ _))) ?_ | refine ObP.cons (.inr (ob_gb _ _)) ?_))⟩, ⟨(.refl _), ⟨(.refl _), ⟨(.refl _), ⟨(.refl _), ⟨(.refl _), ⟨(.refl _), ⟨(.refl _), trivial⟩⟩⟩⟩⟩⟩⟩, rfl⟩
          · refine c_f h9 rfl ?_
            refine c_exit ?_
            repeat (first | refine then_normal ?_ | refine then_exit ?_ | refine then_ret ?_ | refine block_normal ?_ | refine block_ret ?_ | refine block_exit ?_ | refine block_pass rfl ?_)
            exact ⟨z7, [], h, rfl, ⟨.inr ⟨_, rfl, pure_hpA _⟩, by (repeat (first | exact ObP.nil | refine ObP.cons (.inl rfl) ?_ | refine ObP.cons (.inr (fun _ => rfl)) ?_ | refine ObP.cons (.inr (ob_box (fl_noPt _ _))) ?_ | refine ObP.cons (.inr (ob_gb _ _)) ?_))⟩, ⟨(.refl _), ⟨(.refl _), ⟨(.refl _), ⟨(.refl _), ⟨(.refl _), ⟨(.refl _), trivial⟩⟩⟩⟩⟩⟩, rfl⟩
      · rintro y4 h
        refine c_region ?_
        refine o_2 (.t (.d (.seq 1 (bytesD z1)))) (.t (.own 5 1 (bytesD z1))) (g0 rfl) rfl rfl rfl ?_
        refine o_s (.t (.d (.lit (.int .i64 y4)))) (g0 rfl) rfl rfl rfl ?_
        refine o_c (g0 rfl) rfl rfl rfl (congrArg (fun z => A.t (.d (.lit (.int .u8 z)))) (u8c _)) trivial ?_
        refine o_s (.t (.own 5 1 (bytesD [(U8 y4)]))) (g0 rfl) rfl rfl rfl ?_
        obtain ⟨x5, h6, h⟩ := bind_some h
        refine o_2c (g0 rfl) rfl rfl rfl (appE (c := cU8) h6) (appC (c := cU8) h6) ?_
        refine o_2 (.t (.d (.seq 1 (bytesD x5)))) (.t (.own 5 1 (bytesD x5))) (g0 rfl) rfl rfl rfl ?_
        refine o_nil ?_
        repeat (first | refine then_normal ?_ | refine then_exit ?_ | refine then_ret ?_ | refine block_normal ?_ | refine block_ret ?_ | refine block_exit ?_ | refine block_pass rfl ?_)
        refine c_region ?_
        refine o_s (.t (.d (.lit (.int .i64 z2)))) (g0 rfl) rfl rfl rfl ?_
        refine o_s (.t (.d (.lit (.int .i64 (wi (z2 + 8)))))) (g0 rfl) rfl rfl rfl ?_
        refine o_s (.t (.d (.lit (.int .i64 (wi (z2 + 8)))))) (g0 rfl) rfl rfl rfl ?_
        refine o_nil ?_
        repeat (first | refine then_normal ?_ | refine then_exit ?_ | refine then_ret ?_ | refine block_normal ?_ | refine block_ret ?_ | refine block_exit ?_ | refine block_pass rfl ?_)
        exact ⟨nl1, (x5, (wi (z2 + 8))), [], Nat.lt_succ_self nl1, h, rfl, ⟨.inr ⟨_, rfl, pure_hpA _⟩, by (repeat (first | exact ObP.nil | refine ObP.cons (.inl rfl) ?_ | refine ObP.cons (.inr (fun _ => rfl)) ?_ | refine ObP.cons (.inr (ob_box (fl_noPt _ _))) ?_ | refine ObP.cons (.inr (ob_gb _ _)) ?_))⟩, ⟨(.refl _), ⟨(.refl _), ⟨(.refl _), ⟨(.refl _), ⟨(.refl _), trivial⟩⟩⟩⟩⟩, rfl⟩
    · refine c_f h3 rfl ?_
      refine c_exit ?_
      repeat (first | refine then_normal ?_ | refine then_exit ?_ | refine then_ret ?_ | refine block_normal ?_ | refine block_ret ?_ | refine block_exit ?_ | refine block_pass rfl ?_)
      refine c_seq ?_
      refine c_region ?_
      refine o_2 (.t (.d (.seq 1 (bytesD z1)))) (.t (.own 5 1 (bytesD z1))) (g0 rfl) rfl rfl rfl ?_
      refine o_2 (.t (.d (.seq 1 (bytesD z1)))) (.t (.own 5 1 (bytesD z1))) (g0 rfl) rfl rfl rfl ?_
      refine o_nil ?_
      repeat (first | refine then_normal ?_ | refine then_exit ?_ | refine then_ret ?_ | refine block_normal ?_ | refine block_ret ?_ | refine block_exit ?_ | refine block_pass rfl ?_)
      refine c_ret ?_
      repeat (first | refine then_normal ?_ | refine then_exit ?_ | refine then_ret ?_ | refine block_normal ?_ | refine block_ret ?_ | refine block_exit ?_ | refine block_pass rfl ?_)
      obtain rfl := Option.some.inj h
      exact ⟨⟨_, rfl, (.refl _)⟩, ⟨rfl, trivial⟩, rfl⟩

theorem fch_L19_whole_v1 (p0 : (Option Nat)) (p1 : (List Bool)) (w0 : Hp) (r : (Bool × Hp)) (h : m_L19_whole p0 p1 w0 = some r) : FCH Tryd.prog 17 [.t ((ptT 1 p0)), .t (.view 0 0 4 1 p1.length)] [.box (fl (dT cBool) p1)] [.box (fl (dT cBool) p1)] (hpA w0) (hpA r.2) (.t (.d (.lit (.bool r.1)))) := by
  refine fch_mk (rs := [.tmp 4]) (n := 128) [] Tryd.func17 rfl rfl (Nat.le_of_ble_eq_true rfl) rfl (pins := [OB + 0]) rfl (L := [(HK, .hp (hpA w0)), (OB + 0, .box (fl (dT cBool) p1)), (0, .t ((ptT 1 p0))), (1, .t (.view 0 0 4 1 p1.length))]) rfl ?_
  refine c_seq ?_
  refine c_region ?_
  refine o_s (.t (.d (.lit (.bool false)))) (g0 rfl) rfl rfl rfl ?_
  refine o_nil ?_
  repeat (first | refine then_normal ?_ | refine then_exit ?_ | refine then_ret ?_ | refine block_normal ?_ | refine block_ret ?_ | refine block_exit ?_ | refine block_pass rfl ?_)
  refine c_seq ?_
  refine c_region ?_
  refine o_s (.t (.d (.lit (.int .i64 (-1))))) (g0 rfl) rfl rfl rfl ?_
  refine o_nil ?_
  repeat (first | refine then_normal ?_ | refine then_exit ?_ | refine then_ret ?_ | refine block_normal ?_ | refine block_ret ?_ | refine block_exit ?_ | refine block_pass rfl ?_)
  refine c_cutH (fun (q : Int × Hp) => [(0, .t ((ptT 1 p0))), (1, .t (.view 0 0 4 1 p1.length)), (5, .t (.d (.lit (.int .i64 q.1)))), ((OB + 0), .box (fl (dT cBool) p1)), (HK, .hp (hpA q.2))]) (fun (q : Int × Hp) => m_L19_whole_j1 p0 p1 q.1 q.2 = some r) ?_ ?_
  · refine c_seq ?_
    refine c_region ?_
    refine o_s (.t (.view 0 0 4 1 p1.length)) (g0 rfl) rfl rfl rfl ?_
    refine o_of (e := [(12, .t (.d (.lit (.int .i64 (p1.length : Int)))))]) (g0 rfl) (h_lln (Mk.refl _) rfl rfl rfl rfl rfl rfl) rfl ?_
    refine o_s (.t (.d (.lit (.int .i64 0)))) (g0 rfl) rfl rfl rfl ?_
    refine o_nil ?_
    repeat (first | refine then_normal ?_ | refine then_exit ?_ | refine then_ret ?_ | refine block_normal ?_ | refine block_ret ?_ | refine block_exit ?_ | refine block_pass rfl ?_)
    refine c_block ?_
    refine c_fuelH (fun (q : Int × Int × Hp) => [(0, .t ((ptT 1 p0))), (1, .t (.view 0 0 4 1 p1.length)), (5, .t (.d (.lit (.int .i64 q.1)))), (11, .t (.view 0 0 4 1 p1.length)), (12, .t (.d (.lit (.int .i64 (p1.length : Int))))), (13, .t (.d (.lit (.int .i64 q.2.1)))), ((OB + 0), .box (fl (dT cBool) p1)), (HK, .hp (hpA q.2.2))]) (fun nl10 => (fun (q : Int × Int × Hp) => m_L19_whole_l10 p1 p0 nl10 q.1 q.2.1 q.2.2 = some r)) (p1.length + 1) ((-1), 0, w0) [] h rfl ⟨.inr ⟨_, rfl, pure_hpA _⟩, by (repeat (first | exact ObP.nil | refine ObP.cons (.inl rfl) ?_ | refine ObP.cons (.inr (fun _ => rfl)) ?_ | refine ObP.cons (.inr (ob_box (fl_noPt _ _))) ?_ | refine ObP.cons (.inr (ob_gb _ _)) ?_))⟩ ⟨(.refl _), ⟨(.refl _), ⟨(.refl _), ⟨(.refl _), ⟨(.refl _), ⟨(.refl _), ⟨(.refl _), ⟨(.refl _), trivial⟩⟩⟩⟩⟩⟩⟩⟩ rfl ?_
    rintro nl10 ⟨z54, z55, z56⟩ h
    cases nl10 with
    | zero => exact none_ne h
    | succ nl10 =>
      refine c_seq ?_
      refine c_region ?_
      refine o_s (.t (.d (.lit (.bool (decide (z55 < (p1.length : Int))))))) (g0 rfl) rfl rfl rfl ?_
      refine o_nil ?_
      repeat (first | refine then_normal ?_ | refine then_exit ?_ | refine then_ret ?_ | refine block_normal ?_ | refine block_ret ?_ | refine block_exit ?_ | refine block_pass rfl ?_)
      refine c_seq ?_
      rcases bif_some h with ⟨h57, h⟩ | ⟨h57, h⟩
      · refine c_t h57 rfl ?_
        refine c_skip ?_
        repeat (first | refine then_normal ?_ | refine then_exit ?_ | refine then_ret ?_ | refine block_normal ?_ | refine block_ret ?_ | refine block_exit ?_ | refine block_pass rfl ?_)
        refine c_seq ?_
        refine c_block ?_
        refine c_seq ?_
        refine c_region ?_
        refine o_s (.t (.d (.lit (.int .i64 z55)))) (g0 rfl) rfl rfl rfl ?_
        obtain ⟨x58, h59, h⟩ := bind_some h
        refine o_of (e := [(16, .ref (OB + 0) (0 + Int.toNat z55 * 1))]) (g0 rfl) (h_lix (Mk.refl _) rfl rfl rfl rfl rfl (idxV rfl h59) rfl rfl rfl) rfl ?_
        refine o_of (e := [(17, .t (.d (.lit (.bool x58))))]) (g0 rfl) (h_lld (Mk.refl _) rfl rfl rfl rfl (fl_at h59 rfl (fun _ => rfl)) rfl rfl rfl) rfl ?_
        refine o_s (.t (.d (.lit (.int .i64 z55)))) (g0 rfl) rfl rfl rfl ?_
        refine o_s (.t (.d (.lit (.bool x58)))) (g0 rfl) rfl rfl rfl ?_
        refine o_nil ?_
        repeat (first | refine then_normal ?_ | refine then_exit ?_ | refine then_ret ?_ | refine block_normal ?_ | refine block_ret ?_ | refine block_exit ?_ | refine block_pass rfl ?_)
        refine c_seq ?_
        refine c_seq ?_
        refine c_region ?_
        refine o_of (e := [(18, .t ((ptT 1 p0)))]) (g0 rfl) (h_mv (Mk.refl _) (.inl rfl) (cpO_pt rfl) rfl rfl) rfl ?_
        refine o_s (.t (.d (.lit (.int .i64 z55)))) (g0 rfl) rfl rfl rfl ?_
        obtain ⟨x60, h61, h⟩ := bind_some h
        refine o_of (e := [(HK, .hp (hpA x60.2)), (20, .t (.d (.lit (.bool x60.1))))]) (g0 rfl) (h_call (Mk.refl _) rfl (σ := []) (fr := []) rfl rfl rfl rfl rfl rfl rfl (fch_space_Space_Has _ _ z56 _ h61) (pure_hpA _) (pure_hpA _) rfl rfl rfl rfl (.cons (argPt rfl) (.cons (.plain (.refl _) rfl) .nil)) rfl (.t (.flat rfl))) rfl ?_
        refine o_s (.t (.d (.lit (.bool x58)))) (g0 rfl) rfl rfl rfl ?_
        refine o_s (.t (.d (.lit (.bool (x60.1 == x58))))) (g0 rfl) rfl rfl rfl ?_
        refine o_nil ?_
        repeat (first | refine then_normal ?_ | refine then_exit ?_ | refine then_ret ?_ | refine block_normal ?_ | refine block_ret ?_ | refine block_exit ?_ | refine block_pass rfl ?_)
        rcases bif_some h with ⟨h62, h⟩ | ⟨h62, h⟩
        · refine c_t h62 rfl ?_
          refine c_seq ?_
          refine c_region ?_
          refine o_s (.t (.d (.lit (.bool false)))) (g0 rfl) rfl rfl rfl ?_
          refine o_nil ?_
          repeat (first | refine then_normal ?_ | refine then_exit ?_ | refine then_ret ?_ | refine block_normal ?_ | refine block_ret ?_ | refine block_exit ?_ | refine block_pass rfl ?_)
          refine c_ret ?_
          repeat (first | refine then_normal ?_ | refine then_exit ?_ | refine then_ret ?_ | refine block_normal ?_ | refine block_ret ?_ | refine block_exit ?_ | refine block_pass rfl ?_)
          obtain rfl := Option.some.inj h
          exact ⟨⟨_, rfl, (.refl _)⟩, ⟨rfl, trivial⟩, rfl⟩
        · refine c_f h62 rfl ?_
          refine c_skip ?_
          repeat (first | refine then_normal ?_ | refine then_exit ?_ | refine then_ret ?_ | refine block_normal ?_ | refine block_ret ?_ | refine block_exit ?_ | refine block_pass rfl ?_)
          refine c_seq ?_
          refine c_region ?_
          refine o_s (.t (.d (.lit (.bool x58)))) (g0 rfl) rfl rfl rfl ?_
          refine o_nil ?_
          repeat (first | refine then_normal ?_ | refine then_exit ?_ | refine then_ret ?_ | refine block_normal ?_ | refine block_ret ?_ | refine block_exit ?_ | refine block_pass rfl ?_)
          rcases bif_some h with ⟨h63, h⟩ | ⟨h63, h⟩
          · refine c_t h63 rfl ?_
            refine c_region ?_
            refine o_s (.t (.d (.lit (.int .i64 z55)))) (g0 rfl) rfl rfl rfl ?_
            refine o_s (.t (.d (.lit (.int .i64 z55)))) (g0 rfl) rfl rfl rfl ?_
            refine o_nil ?_
            repeat (first | refine then_normal ?_ | refine then_exit ?_ | refine then_ret ?_ | refine block_normal ?_ | refine block_ret ?_ | refine block_exit ?_ | refine block_pass rfl ?_)
            refine c_region ?_
            refine o_s (.t (.d (.lit (.int .i64 (wi (z55 + 1)))))) (g0 rfl) rfl rfl rfl ?_
            refine o_s (.t (.d (.lit (.int .i64 (wi (z55 + 1)))))) (g0 rfl) rfl rfl rfl ?_
            refine o_nil ?_
            repeat (first | refine then_normal ?_ | refine then_exit ?_ | refine then_ret ?_ | refine block_normal ?_ | refine block_ret ?_ | refine block_exit ?_ | refine block_pass rfl ?_)
            exact ⟨nl10, (z55, (wi (z55 + 1)), x60.2), [], Nat.lt_succ_self nl10, h, rfl, ⟨.inr ⟨_, rfl, pure_hpA _⟩, by (repeat (first | exact ObP.nil | refine ObP.cons (.inl rfl) ?_ | refine ObP.cons (.inr (fun _ => rfl)) ?_ | refine ObP.cons (.inr (ob_box (fl_noPt _ _))) ?_ | refine ObP.cons (.inr (ob_gb _ _)) ?_))⟩, ⟨(.refl _), ⟨(.refl _), ⟨(.refl _), ⟨(.refl _), ⟨(.refl _), ⟨(.refl _), ⟨(.refl _), ⟨(.refl _), trivial⟩⟩⟩⟩⟩⟩⟩⟩, rfl⟩
          · refine c_f h63 rfl ?_
            refine c_skip ?_
            repeat (first | refine then_normal ?_ | refine then_exit ?_ | refine then_ret ?_ | refine block_normal ?_ | refine block_ret ?_ | refine block_exit ?_ | refine block_pass rfl ?_)
            refine c_region ?_
            refine o_s (.t (.d (.lit (.int .i64 (wi (z55 + 1)))))) (g0 rfl) rfl rfl rfl ?_
            refine o_s (.t (.d (.lit (.int .i64 (wi (z55 + 1)))))) (g0 rfl) rfl rfl rfl ?_
            refine o_nil ?_
            repeat (first | refine then_normal ?_ | refine then_exit ?_ | refine then_ret ?_ | refine block_normal ?_ | refine block_ret ?_ | refine block_exit ?_ | refine block_pass rfl ?_)
            exact ⟨nl10, (z54, (wi (z55 + 1)), x60.2), [], Nat.lt_succ_self nl10, h, rfl, ⟨.inr ⟨_, rfl, pure_hpA _⟩, by (repeat (first | exact ObP.nil | refine ObP.cons (.inl rfl) ?_ | refine ObP.cons (.inr (fun _ => rfl)) ?_ | refine ObP.cons (.inr (ob_box (fl_noPt _ _))) ?_ | refine ObP.cons (.inr (ob_gb _ _)) ?_))⟩, ⟨(.refl _), ⟨(.refl _), ⟨(.refl _), ⟨(.refl _), ⟨(.refl _), ⟨(.refl _), ⟨(.refl _), ⟨(.refl _), trivial⟩⟩⟩⟩⟩⟩⟩⟩, rfl⟩
      · refine c_f h57 rfl ?_
        refine c_exit ?_
        repeat (first | refine then_normal ?_ | refine then_exit ?_ | refine then_ret ?_ | refine block_normal ?_ | refine block_ret ?_ | refine block_exit ?_ | refine block_pass rfl ?_)
        exact ⟨(z54, z56), [], h, rfl, ⟨.inr ⟨_, rfl, pure_hpA _⟩, by (repeat (first | exact ObP.nil | refine ObP.cons (.inl rfl) ?_ | refine ObP.cons (.inr (fun _ => rfl)) ?_ | refine ObP.cons (.inr (ob_box (fl_noPt _ _))) ?_ | refine ObP.cons (.inr (ob_gb _ _)) ?_))⟩, ⟨(.refl _), ⟨(.refl _), ⟨(.refl _), ⟨(.refl _), ⟨(.refl _), trivial⟩⟩⟩⟩⟩, rfl⟩
  · rintro ⟨y1, y2⟩ h
    refine c_seq ?_
    refine c_region ?_
    refine o_s (.t (.d (.lit (.int .i64 0)))) (g0 rfl) rfl rfl rfl ?_
    refine o_nil ?_
    repeat (first | refine then_normal ?_ | refine then_exit ?_ | refine then_ret ?_ | refine block_normal ?_ | refine block_ret ?_ | refine block_exit ?_ | refine block_pass rfl ?_)
    refine c_cutH (fun (q : Int × Hp) => [(0, .t ((ptT 1 p0))), (1, .t (.view 0 0 4 1 p1.length)), (5, .t (.d (.lit (.int .i64 y1)))), (8, .t (.d (.lit (.int .i64 q.1)))), ((OB + 0), .box (fl (dT cBool) p1)), (HK, .hp (hpA q.2))]) (fun (q : Int × Hp) => m_L19_whole_j2 p1 p0 y1 q.1 q.2 = some r) ?_ ?_
    · refine c_seq ?_
      refine c_region ?_
      refine o_of (e := [(26, .t ((ptT 1 p0)))]) (g0 rfl) (h_mv (Mk.refl _) (.inl rfl) (cpO_pt rfl) rfl rfl) rfl ?_
      obtain ⟨x30, h31, h⟩ := bind_some h
      refine o_of (e := [(HK, .hp (hpA x30.2)), (27, .t (.d (.seq 2 (List.map cS_api_Run x30.1))))]) (g0 rfl) (h_call (Mk.refl _) rfl (σ := []) (fr := []) rfl rfl rfl rfl rfl rfl rfl (fch_space_Space_Runs _ y2 _ h31) (pure_hpA _) (pure_hpA _) rfl rfl rfl rfl (.cons (argPt rfl) .nil) rfl (.t (.flat rfl))) rfl ?_
      refine o_c (g0 rfl) rfl rfl rfl (lenE _ _) trivial ?_
      refine o_s (.t (.d (.lit (.int .i64 0)))) (g0 rfl) rfl rfl rfl ?_
      refine o_nil ?_
      repeat (first | refine then_normal ?_ | refine then_exit ?_ | refine then_ret ?_ | refine block_normal ?_ | refine block_ret ?_ | refine block_exit ?_ | refine block_pass rfl ?_)
      refine c_block ?_
      refine c_fuelH (fun (q : Int × Int) => [(0, .t ((ptT 1 p0))), (1, .t (.view 0 0 4 1 p1.length)), (5, .t (.d (.lit (.int .i64 y1)))), (8, .t (.d (.lit (.int .i64 q.1)))), (27, .t (.d (.seq 2 (List.map cS_api_Run x30.1)))), (28, .t (.d (.lit (.int .i64 (x30.1.length : Int))))), (29, .t (.d (.lit (.int .i64 q.2)))), ((OB + 0), .box (fl (dT cBool) p1)), (HK, .hp (hpA x30.2))]) (fun nl5 => (fun (q : Int × Int) => m_L19_whole_l5 x30 p1 p0 y1 nl5 q.1 q.2 = some r)) (x30.1.length + 1) (0, 0) [] h rfl ⟨.inr ⟨_, rfl, pure_hpA _⟩, by (repeat (first | exact ObP.nil | refine ObP.cons (.inl rfl) ?_ | refine ObP.cons (.inr (fun _ => rfl)) ?_ | refine ObP.cons (.inr (ob_box (fl_noPt _ _))) ?_ | refine ObP.cons (.inr (ob_gb _ _)) ?_))⟩ ⟨(.refl _), ⟨(.refl _), ⟨(.refl _), ⟨(.refl _), ⟨(.refl _), ⟨(.refl _), ⟨(.refl _), ⟨(.refl _), ⟨(.refl _), trivial⟩⟩⟩⟩⟩⟩⟩⟩⟩ rfl ?_
      rintro nl5 ⟨z32, z33⟩ h
      cases nl5 with
      | zero => exact none_ne h
      | succ nl5 =>
        refine c_seq ?_
        refine c_region ?_
        refine o_s (.t (.d (.lit (.bool (decide (z33 < (x30.1.length : Int))))))) (g0 rfl) rfl rfl rfl ?_
        refine o_nil ?_
        repeat (first | refine then_normal ?_ | refine then_exit ?_ | refine then_ret ?_ | refine block_normal ?_ | refine block_ret ?_ | refine block_exit ?_ | refine block_pass rfl ?_)
        refine c_seq ?_
        rcases bif_some h with ⟨h34, h⟩ | ⟨h34, h⟩
        · refine c_t h34 rfl ?_
          refine c_skip ?_
          repeat (first | refine then_normal ?_ | refine then_exit ?_ | refine then_ret ?_ | refine block_normal ?_ | refine block_ret ?_ | refine block_exit ?_ | refine block_pass rfl ?_)
          refine c_seq ?_
          refine c_block ?_
          refine c_seq ?_
          refine c_region ?_
          obtain ⟨x35, h36, h⟩ := bind_some h
          refine o_c (g0 rfl) rfl rfl rfl (idxE h36) (idxC h36) ?_
          refine o_s (.t (.agg [.lit (.int .i64 x35.From), .lit (.int .i64 x35.Len)])) (g0 rfl) rfl rfl rfl ?_
          refine o_s (.box [.d (.lit (.int .i64 0)), .d (.lit (.int .i64 0))]) (g0 rfl) rfl rfl rfl ?_
          refine o_st (.box [.d (.lit (.int .i64 x35.From)), .d (.lit (.int .i64 x35.Len))]) (g0 rfl) rfl rfl rfl ?_
          refine o_nil ?_
          repeat (first | refine then_normal ?_ | refine then_exit ?_ | refine then_ret ?_ | refine block_normal ?_ | refine block_ret ?_ | refine block_exit ?_ | refine block_pass rfl ?_)
          refine c_cutH (fun (y37 : Bool) => [(0, .t ((ptT 1 p0))), (1, .t (.view 0 0 4 1 p1.length)), (5, .t (.d (.lit (.int .i64 y1)))), (8, .t (.d (.lit (.int .i64 z32)))), (10, .box [.d (.lit (.int .i64 x35.From)), .d (.lit (.int .i64 x35.Len))]), (27, .t (.d (.seq 2 (List.map cS_api_Run x30.1)))), (28, .t (.d (.lit (.int .i64 (x30.1.length : Int))))), (29, .t (.d (.lit (.int .i64 z33)))), (38, .ref 10 1), (39, .t (.d (.lit (.int .i64 x35.Len)))), (40, .t (.d (.lit (.bool (decide (x35.Len < 1)))))), (43, .ref 10 0), (44, .t (.d (.lit (.int .i64 x35.From)))), (45, .ref 10 1), (46, .t (.d (.lit (.int .i64 x35.Len)))), (47, .t (.d (.lit (.int .i64 (wi (x35.From + x35.Len)))))), (48, .t (.view 0 0 4 1 p1.length)), (49, .t (.d (.lit (.int .i64 (p1.length : Int))))), (50, .t (.d (.lit (.bool (decide ((wi (x35.From + x35.Len)) > (p1.length : Int))))))), (53, .t (.d (.lit (.int .i64 z32)))), (54, .t (.d (.lit (.bool (decide (z32 > 0)))))), (55, .t (.d (.lit (.bool (decide (z32 > 0)))))), (60, .t (.d (.lit (.bool y37)))), ((OB + 0), .box (fl (dT cBool) p1)), (HK, .hp (hpA x30.2))]) (fun (y37 : Bool) => m_L19_whole_j6 (m_L19_whole_l5 x30 p1 p0 y1 nl5) x35 p1 x30 z33 z32 y37 = some r) ?_ ?_
          · refine c_seq ?_
            refine c_region ?_
            refine o_s (.ref 10 0) (g0 rfl) rfl rfl rfl ?_
            refine o_s (.t (.d (.lit (.int .i64 x35.From)))) (g0 rfl) rfl rfl rfl ?_
            refine o_s (.t (.d (.lit (.int .i64 z32)))) (g0 rfl) rfl rfl rfl ?_
            refine o_s (.t (.d (.lit (.bool (decide (x35.From < z32)))))) (g0 rfl) rfl rfl rfl ?_
            refine o_s (.t (.d (.lit (.bool (decide (x35.From < z32)))))) (g0 rfl) rfl rfl rfl ?_
            rcases bif_some h with ⟨h49, h⟩ | ⟨h49, h⟩
            · refine o_skip rfl rfl rfl h49 rfl rfl ?_
              refine o_skip rfl rfl rfl h49 rfl rfl ?_
              refine o_skip rfl rfl rfl h49 rfl rfl ?_
              refine o_pk (.t (.d (.lit (.bool true)))) (b := true) h49 (g0 rfl) rfl rfl rfl rfl rfl ?_
              refine o_s (.t (.d (.lit (.bool true)))) (g0 rfl) rfl rfl rfl ?_
              refine o_skip rfl rfl rfl rfl rfl rfl ?_
              refine o_skip rfl rfl rfl rfl rfl rfl ?_
              refine o_skip rfl rfl rfl rfl rfl rfl ?_
              refine o_skip rfl rfl rfl rfl rfl rfl ?_
              refine o_skip rfl rfl rfl rfl rfl rfl ?_
              refine o_skip rfl rfl rfl rfl rfl rfl ?_
              refine o_skip rfl rfl rfl rfl rfl rfl ?_
              refine o_skip rfl rfl rfl rfl rfl rfl ?_
              refine o_pk (.t (.d (.lit (.bool true)))) (b := true) rfl (g0 rfl) rfl rfl rfl rfl rfl ?_
              refine o_s (.t (.d (.lit (.bool true)))) (g0 rfl) rfl rfl rfl ?_
              refine o_skip rfl rfl rfl rfl rfl rfl ?_
              refine o_skip rfl rfl rfl rfl rfl rfl ?_
              refine o_skip rfl rfl rfl rfl rfl rfl ?_
              refine o_un rfl rfl rfl rfl rfl ?_
              refine o_un rfl rfl rfl rfl rfl ?_
              refine o_un rfl rfl rfl rfl rfl ?_
              refine o_un rfl rfl rfl rfl rfl ?_
              refine o_skip rfl rfl rfl rfl rfl rfl ?_
              refine o_pk (.t (.d (.lit (.bool true)))) (b := true) rfl (g0 rfl) rfl rfl rfl rfl rfl ?_
              refine o_nil ?_
              repeat (first | refine then_normal ?_ | refine then_exit ?_ | refine then_ret ?_ | refine block_normal ?_ | refine block_ret ?_ | refine block_exit ?_ | refine block_pass rfl ?_)
              refine c_t rfl rfl ?_
              refine c_seq ?_
              refine c_region ?_
              refine o_s (.t (.d (.lit (.bool false)))) (g0 rfl) rfl rfl rfl ?_
              refine o_nil ?_
              repeat (first | refine then_normal ?_ | refine then_exit ?_ | refine then_ret ?_ | refine block_normal ?_ | refine block_ret ?_ | refine block_exit ?_ | refine block_pass rfl ?_)
              refine c_ret ?_
              repeat (first | refine then_normal ?_ | refine then_exit ?_ | refine then_ret ?_ | refine block_normal ?_ | refine block_ret ?_ | refine block_exit ?_ | refine block_pass rfl ?_)
              obtain rfl := Option.some.inj h
              exact ⟨⟨_, rfl, (.refl _)⟩, ⟨rfl, trivial⟩, rfl⟩
            · refine o_s (.ref 10 1) (gy rfl rfl rfl h49) rfl rfl rfl ?_
              refine o_s (.t (.d (.lit (.int .i64 x35.Len)))) (gy rfl rfl rfl h49) rfl rfl rfl ?_
              refine o_s (.t (.d (.lit (.bool (decide (x35.Len < 1)))))) (gy rfl rfl rfl h49) rfl rfl rfl ?_
              refine o_pk (.t (.d (.lit (.bool (decide (x35.Len < 1)))))) (b := false) h49 (g0 rfl) rfl rfl rfl rfl rfl ?_
              refine o_s (.t (.d (.lit (.bool (decide (x35.Len < 1)))))) (g0 rfl) rfl rfl rfl ?_
              rcases bif_some h with ⟨h50, h⟩ | ⟨h50, h⟩
              · refine o_skip rfl rfl rfl h50 rfl rfl ?_
                refine o_skip rfl rfl rfl h50 rfl rfl ?_
                refine o_skip rfl rfl rfl h50 rfl rfl ?_
                refine o_skip rfl rfl rfl h50 rfl rfl ?_
                refine o_skip rfl rfl rfl h50 rfl rfl ?_
                refine o_skip rfl rfl rfl h50 rfl rfl ?_
                refine o_skip rfl rfl rfl h50 rfl rfl ?_
                refine o_skip rfl rfl rfl h50 rfl rfl ?_
                refine o_pk (.t (.d (.lit (.bool true)))) (b := true) h50 (g0 rfl) rfl rfl rfl rfl rfl ?_
                refine o_s (.t (.d (.lit (.bool true)))) (g0 rfl) rfl rfl rfl ?_
                refine o_skip rfl rfl rfl rfl rfl rfl ?_
                refine o_skip rfl rfl rfl rfl rfl rfl ?_
                refine o_skip rfl rfl rfl rfl rfl rfl ?_
                refine o_un rfl rfl rfl rfl rfl ?_
                refine o_un rfl rfl rfl rfl rfl ?_
                refine o_un rfl rfl rfl rfl rfl ?_
                refine o_un rfl rfl rfl rfl rfl ?_
                refine o_skip rfl rfl rfl rfl rfl rfl ?_
                refine o_pk (.t (.d (.lit (.bool true)))) (b := true) rfl (g0 rfl) rfl rfl rfl rfl rfl ?_
                refine o_nil ?_
                repeat (first | refine then_normal ?_ | refine then_exit ?_ | refine then_ret ?_ | refine block_normal ?_ | refine block_ret ?_ | refine block_exit ?_ | refine block_pass rfl ?_)
                refine c_t rfl rfl ?_
                refine c_seq ?_
                refine c_region ?_
                refine o_s (.t (.d (.lit (.bool false)))) (g0 rfl) rfl rfl rfl ?_
                refine o_nil ?_
                repeat (first | refine then_normal ?_ | refine then_exit ?_ | refine then_ret ?_ | refine block_normal ?_ | refine block_ret ?_ | refine block_exit ?_ | refine block_pass rfl ?_)
                refine c_ret ?_
                repeat (first | refine then_normal ?_ | refine then_exit ?_ | refine then_ret ?_ | refine block_normal ?_ | refine block_ret ?_ | refine block_exit ?_ | refine block_pass rfl ?_)
                obtain rfl := Option.some.inj h
                exact ⟨⟨_, rfl, (.refl _)⟩, ⟨rfl, trivial⟩, rfl⟩
              · refine o_s (.ref 10 0) (gy rfl rfl rfl h50) rfl rfl rfl ?_
                refine o_s (.t (.d (.lit (.int .i64 x35.From)))) (gy rfl rfl rfl h50) rfl rfl rfl ?_
                refine o_s (.ref 10 1) (gy rfl rfl rfl h50) rfl rfl rfl ?_
                refine o_s (.t (.d (.lit (.int .i64 x35.Len)))) (gy rfl rfl rfl h50) rfl rfl rfl ?_
                refine o_s (.t (.d (.lit (.int .i64 (wi (x35.From + x35.Len)))))) (gy rfl rfl rfl h50) rfl rfl rfl ?_
                refine o_s (.t (.view 0 0 4 1 p1.length)) (gy rfl rfl rfl h50) rfl rfl rfl ?_
                refine o_of (e := [(49, .t (.d (.lit (.int .i64 (p1.length : Int)))))]) (gy rfl rfl rfl h50) (h_lln (Mk.refl _) rfl rfl rfl rfl rfl rfl) rfl ?_
                refine o_s (.t (.d (.lit (.bool (decide ((wi (x35.From + x35.Len)) > (p1.length : Int))))))) (gy rfl rfl rfl h50) rfl rfl rfl ?_
                refine o_pk (.t (.d (.lit (.bool (decide ((wi (x35.From + x35.Len)) > (p1.length : Int))))))) (b := false) h50 (g0 rfl) rfl rfl rfl rfl rfl ?_
                refine o_s (.t (.d (.lit (.bool (decide ((wi (x35.From + x35.Len)) > (p1.length : Int))))))) (g0 rfl) rfl rfl rfl ?_
                rcases bif_some h with ⟨h51, h⟩ | ⟨h51, h⟩
                · refine o_skip rfl rfl rfl h51 rfl rfl ?_
                  refine o_skip rfl rfl rfl h51 rfl rfl ?_
                  refine o_skip rfl rfl rfl h51 rfl rfl ?_
                  refine o_un rfl rfl rfl rfl rfl ?_
                  refine o_un rfl rfl rfl rfl rfl ?_
                  refine o_un rfl rfl rfl rfl rfl ?_
                  refine o_un rfl rfl rfl rfl rfl ?_
                  refine o_skip rfl rfl rfl h51 rfl rfl ?_
                  refine o_pk (.t (.d (.lit (.bool true)))) (b := true) h51 (g0 rfl) rfl rfl rfl rfl rfl ?_
                  refine o_nil ?_
                  repeat (first | refine then_normal ?_ | refine then_exit ?_ | refine then_ret ?_ | refine block_normal ?_ | refine block_ret ?_ | refine block_exit ?_ | refine block_pass rfl ?_)
                  refine c_t rfl rfl ?_
                  refine c_seq ?_
                  refine c_region ?_
                  refine o_s (.t (.d (.lit (.bool false)))) (g0 rfl) rfl rfl rfl ?_
                  refine o_nil ?_
                  repeat (first | refine then_normal ?_ | refine then_exit ?_ | refine then_ret ?_ | refine block_normal ?_ | refine block_ret ?_ | refine block_exit ?_ | refine block_pass rfl ?_)
                  refine c_ret ?_
                  repeat (first | refine then_normal ?_ | refine then_exit ?_ | refine then_ret ?_ | refine block_normal ?_ | refine block_ret ?_ | refine block_exit ?_ | refine block_pass rfl ?_)
                  obtain rfl := Option.some.inj h
                  exact ⟨⟨_, rfl, (.refl _)⟩, ⟨rfl, trivial⟩, rfl⟩
                · refine o_s (.t (.d (.lit (.int .i64 z32)))) (gy rfl rfl rfl h51) rfl rfl rfl ?_
                  refine o_s (.t (.d (.lit (.bool (decide (z32 > 0)))))) (gy rfl rfl rfl h51) rfl rfl rfl ?_
                  refine o_s (.t (.d (.lit (.bool (decide (z32 > 0)))))) (gy rfl rfl rfl h51) rfl rfl rfl ?_
                  rcases bif_some h with ⟨h52, h⟩ | ⟨h52, h⟩
                  · refine o_s (.ref 10 0) (gy rfl rfl rfl h52) rfl rfl rfl ?_
                    refine o_s (.t (.d (.lit (.int .i64 x35.From)))) (gy rfl rfl rfl h52) rfl rfl rfl ?_
                    refine o_s (.t (.d (.lit (.int .i64 z32)))) (gy rfl rfl rfl h52) rfl rfl rfl ?_
                    refine o_s (.t (.d (.lit (.bool (x35.From == z32))))) (gy rfl rfl rfl h52) rfl rfl rfl ?_
                    refine o_pk (.t (.d (.lit (.bool (x35.From == z32))))) (b := true) h52 (gy rfl rfl rfl h51) rfl rfl rfl rfl rfl ?_
                    refine o_pk (.t (.d (.lit (.bool (x35.From == z32))))) (b := false) h51 (g0 rfl) rfl rfl rfl rfl rfl ?_
                    refine o_nil ?_
                    repeat (first | refine then_normal ?_ | refine then_exit ?_ | refine then_ret ?_ | refine block_normal ?_ | refine block_ret ?_ | refine block_exit ?_ | refine block_pass rfl ?_)
                    rcases bif_some h with ⟨h53, h⟩ | ⟨h53, h⟩
                    · refine c_t h53 rfl ?_
                      refine c_seq ?_
                      refine c_region ?_
                      refine o_s (.t (.d (.lit (.bool false)))) (g0 rfl) rfl rfl rfl ?_
                      refine o_nil ?_
                      repeat (first | refine then_normal ?_ | refine then_exit ?_ | refine then_ret ?_ | refine block_normal ?_ | refine block_ret ?_ | refine block_exit ?_ | refine block_pass rfl ?_)
                      refine c_ret ?_
                      repeat (first | refine then_normal ?_ | refine then_exit ?_ | refine then_ret ?_ | refine block_normal ?_ | refine block_ret ?_ | refine block_exit ?_ | refine block_pass rfl ?_)
                      obtain rfl := Option.some.inj h
                      exact ⟨⟨_, rfl, (.refl _)⟩, ⟨rfl, trivial⟩, rfl⟩
                    · refine c_f h53 rfl ?_
                      refine c_skip ?_
                      repeat (first | refine then_normal ?_ | refine then_exit ?_ | refine then_ret ?_ | refine block_normal ?_ | refine block_ret ?_ | refine block_exit ?_ | refine block_pass rfl ?_)
                      exact ⟨(x35.From == z32), [], h, rfl, ⟨.inr ⟨_, rfl, pure_hpA _⟩, by (repeat (first | exact ObP.nil | refine ObP.cons (.inl rfl) ?_ | refine ObP.cons (.inr (fun _ => rfl)) ?_ | refine ObP.cons (.inr (ob_box (fl_noPt _ _))) ?_ | refine ObP.cons (.inr (ob_gb _ _)) ?_))⟩, ⟨(.refl _), ⟨(.refl _), ⟨(.refl _), ⟨(.refl _), ⟨(.refl _), ⟨(.refl _), ⟨(.refl _), ⟨(.refl _), ⟨(.refl _), ⟨(.refl _), ⟨(.refl _), ⟨(.refl _), ⟨(.refl _), ⟨(.refl _), ⟨(.refl _), ⟨(.refl _), ⟨(.refl _), ⟨(.refl _), ⟨(.refl _), ⟨(.refl _), ⟨(.refl _), ⟨(.refl _), ⟨(.refl _), ⟨(.refl _), ⟨(.refl _), trivial⟩⟩⟩⟩⟩⟩⟩⟩⟩⟩⟩⟩⟩⟩⟩⟩⟩⟩⟩⟩⟩⟩⟩⟩⟩, rfl⟩
                  · refine o_skip rfl rfl rfl h52 rfl rfl ?_
                    refine o_skip rfl rfl rfl h52 rfl rfl ?_
                    refine o_skip rfl rfl rfl h52 rfl rfl ?_
                    refine o_skip rfl rfl rfl h52 rfl rfl ?_
                    refine o_pk (.t (.d (.lit (.bool false)))) (b := false) h52 (gy rfl rfl rfl h51) rfl rfl rfl rfl rfl ?_
                    refine o_pk (.t (.d (.lit (.bool false)))) (b := false) h51 (g0 rfl) rfl rfl rfl rfl rfl ?_
                    refine o_nil ?_
                    repeat (first | refine then_normal ?_ | refine then_exit ?_ | refine then_ret ?_ | refine block_normal ?_ | refine block_ret ?_ | refine block_exit ?_ | refine block_pass rfl ?_)
                    refine c_f rfl rfl ?_
                    refine c_skip ?_
                    repeat (first | refine then_normal ?_ | refine then_exit ?_ | refine then_ret ?_ | refine block_normal ?_ | refine block_ret ?_ | refine block_exit ?_ | refine block_pass rfl ?_)
                    exact ⟨false, [], h, rfl, ⟨.inr ⟨_, rfl, pure_hpA _⟩, by (repeat (first | exact ObP.nil | refine ObP.cons (.inl rfl) ?_ | refine ObP.cons (.inr (fun _ => rfl)) ?_ | refine ObP.cons (.inr (ob_box (fl_noPt _ _))) ?_ | refine ObP.cons (.inr (ob_gb _ _)) ?_))⟩, ⟨(.refl _), ⟨(.refl _), ⟨(.refl _), ⟨(.refl _), ⟨(.refl _), ⟨(.refl _), ⟨(.refl _), ⟨(.refl _), ⟨(.refl _), ⟨(.refl _), ⟨(.refl _), ⟨(.refl _), ⟨(.refl _), ⟨(.refl _), ⟨(.refl _), ⟨(.refl _), ⟨(.refl _), ⟨(.refl _), ⟨(.refl _), ⟨(.refl _), ⟨(.refl _), ⟨(.refl _), ⟨(.refl _), ⟨(.refl _), ⟨(.refl _), trivial⟩⟩⟩⟩⟩⟩⟩⟩⟩⟩⟩⟩⟩⟩⟩⟩⟩⟩⟩⟩⟩⟩⟩⟩⟩, rfl⟩
          · rintro y37 h
            refine c_cutH (fun (y38 : Int) => [(0, .t ((ptT 1 p0))), (1, .t (.view 0 0 4 1 p1.length)), (5, .t (.d (.lit (.int .i64 y1)))), (8, .t (.d (.lit (.int .i64 y38)))), (10, .box [.d (.lit (.int .i64 x35.From)), .d (.lit (.int .i64 x35.Len))]), (27, .t (.d (.seq 2 (List.map cS_api_Run x30.1)))), (28, .t (.d (.lit (.int .i64 (x30.1.length : Int))))), (29, .t (.d (.lit (.int .i64 z33)))), (38, .ref 10 1), (39, .t (.d (.lit (.int .i64 x35.Len)))), (40, .t (.d (.lit (.bool (decide (x35.Len < 1)))))), (43, .ref 10 0), (44, .t (.d (.lit (.int .i64 x35.From)))), (45, .ref 10 1), (46, .t (.d (.lit (.int .i64 x35.Len)))), (47, .t (.d (.lit (.int .i64 (wi (x35.From + x35.Len)))))), (48, .t (.view 0 0 4 1 p1.length)), (49, .t (.d (.lit (.int .i64 (p1.length : Int))))), (50, .t (.d (.lit (.bool (decide ((wi (x35.From + x35.Len)) > (p1.length : Int))))))), (53, .t (.d (.lit (.int .i64 z32)))), (54, .t (.d (.lit (.bool (decide (z32 > 0)))))), (55, .t (.d (.lit (.bool (decide (z32 > 0)))))), (60, .t (.d (.lit (.bool y37)))), ((OB + 0), .box (fl (dT cBool) p1)), (HK, .hp (hpA x30.2))]) (fun (y38 : Int) => m_L19_whole_j7 (m_L19_whole_l5 x30 p1 p0 y1 nl5) x35 p1 x30 z33 y38 = some r) ?_ ?_
            · refine c_block ?_
              refine c_fuelH (fun (z44 : Int) => [(0, .t ((ptT 1 p0))), (1, .t (.view 0 0 4 1 p1.length)), (5, .t (.d (.lit (.int .i64 y1)))), (8, .t (.d (.lit (.int .i64 z44)))), (10, .box [.d (.lit (.int .i64 x35.From)), .d (.lit (.int .i64 x35.Len))]), (27, .t (.d (.seq 2 (List.map cS_api_Run x30.1)))), (28, .t (.d (.lit (.int .i64 (x30.1.length : Int))))), (29, .t (.d (.lit (.int .i64 z33)))), (38, .ref 10 1), (39, .t (.d (.lit (.int .i64 x35.Len)))), (40, .t (.d (.lit (.bool (decide (x35.Len < 1)))))), (43, .ref 10 0), (44, .t (.d (.lit (.int .i64 x35.From)))), (45, .ref 10 1), (46, .t (.d (.lit (.int .i64 x35.Len)))), (47, .t (.d (.lit (.int .i64 (wi (x35.From + x35.Len)))))), (48, .t (.view 0 0 4 1 p1.length)), (49, .t (.d (.lit (.int .i64 (p1.length : Int))))), (50, .t (.d (.lit (.bool (decide ((wi (x35.From + x35.Len)) > (p1.length : Int))))))), (53, .t (.d (.lit (.int .i64 z32)))), (54, .t (.d (.lit (.bool (decide (z32 > 0)))))), (55, .t (.d (.lit (.bool (decide (z32 > 0)))))), (60, .t (.d (.lit (.bool y37)))), ((OB + 0), .box (fl (dT cBool) p1)), (HK, .hp (hpA x30.2))]) (fun nl9 => (fun (z44 : Int) => m_L19_whole_l9 (m_L19_whole_l5 x30 p1 p0 y1 nl5) x35 p1 x30 z33 nl9 z44 = some r)) (Int.toNat x35.From + 1) z32 [] h rfl ⟨.inr ⟨_, rfl, pure_hpA _⟩, by (repeat (first | exact ObP.nil | refine ObP.cons (.inl rfl) ?_ | refine ObP.cons (.inr (fun _ => rfl)) ?_ | refine ObP.cons (.inr (ob_box (fl_noPt _ _))) ?_ | refine ObP.cons (.inr (ob_gb _ _)) ?_))⟩ ⟨(.refl _), ⟨(.refl _), ⟨(.refl _), ⟨(.refl _), ⟨(.refl _), ⟨(.refl _), ⟨(.refl _), ⟨(.refl _), ⟨(.refl _), ⟨(.refl _), ⟨(.refl _), ⟨(.refl _), ⟨(.refl _), ⟨(.refl _), ⟨(.refl _), ⟨(.refl _), ⟨(.refl _), ⟨(.refl _), ⟨(.refl _), ⟨(.refl _), ⟨(.refl _), ⟨(.refl _), ⟨(.refl _), ⟨(.refl _), ⟨(.refl _), trivial⟩⟩⟩⟩⟩⟩⟩⟩⟩⟩⟩⟩⟩⟩⟩⟩⟩⟩⟩⟩⟩⟩⟩⟩⟩ rfl ?_
              rintro nl9 z44 h
              cases nl9 with
              | zero => exact none_ne h
              | succ nl9 =>
                refine c_seq ?_
                refine c_seq ?_
                refine c_region ?_
                refine o_s (.t (.d (.lit (.int .i64 z44)))) (g0 rfl) rfl rfl rfl ?_
                refine o_s (.ref 10 0) (g0 rfl) rfl rfl rfl ?_
                refine o_s (.t (.d (.lit (.int .i64 x35.From)))) (g0 rfl) rfl rfl rfl ?_
                refine o_s (.t (.d (.lit (.bool (decide (z44 < x35.From)))))) (g0 rfl) rfl rfl rfl ?_
                refine o_nil ?_
                repeat (first | refine then_normal ?_ | refine then_exit ?_ | refine then_ret ?_ | refine block_normal ?_ | refine block_ret ?_ | refine block_exit ?_ | refine block_pass rfl ?_)
                rcases bif_some h with ⟨h45, h⟩ | ⟨h45, h⟩
                · refine c_t h45 rfl ?_
                  refine c_skip ?_
                  repeat (first | refine then_normal ?_ | refine then_exit ?_ | refine then_ret ?_ | refine block_normal ?_ | refine block_ret ?_ | refine block_exit ?_ | refine block_pass rfl ?_)
                  refine c_seq ?_
                  refine c_block ?_
                  refine c_seq ?_
                  refine c_region ?_
                  refine o_s (.t (.view 0 0 4 1 p1.length)) (g0 rfl) rfl rfl rfl ?_
                  refine o_s (.t (.d (.lit (.int .i64 z44)))) (g0 rfl) rfl rfl rfl ?_
                  obtain ⟨x46, h47, h⟩ := bind_some h
                  refine o_of (e := [(70, .ref (OB + 0) (0 + Int.toNat z44 * 1))]) (g0 rfl) (h_lix (Mk.refl _) rfl rfl rfl rfl rfl (idxV rfl h47) rfl rfl rfl) rfl ?_
                  refine o_of (e := [(71, .t (.d (.lit (.bool x46))))]) (g0 rfl) (h_lld (Mk.refl _) rfl rfl rfl rfl (fl_at h47 rfl (fun _ => rfl)) rfl rfl rfl) rfl ?_
                  refine o_s (.t (.d (.lit (.bool (!x46))))) (g0 rfl) rfl rfl rfl ?_
                  refine o_nil ?_
                  repeat (first | refine then_normal ?_ | refine then_exit ?_ | refine then_ret ?_ | refine block_normal ?_ | refine block_ret ?_ | refine block_exit ?_ | refine block_pass rfl ?_)
                  rcases bif_some h with ⟨h48, h⟩ | ⟨h48, h⟩
                  · refine c_t h48 rfl ?_
                    refine c_seq ?_
                    refine c_region ?_
                    refine o_s (.t (.d (.lit (.bool false)))) (g0 rfl) rfl rfl rfl ?_
                    refine o_nil ?_
                    repeat (first | refine then_normal ?_ | refine then_exit ?_ | refine then_ret ?_ | refine block_normal ?_ | refine block_ret ?_ | refine block_exit ?_ | refine block_pass rfl ?_)
                    refine c_ret ?_
                    repeat (first | refine then_normal ?_ | refine then_exit ?_ | refine then_ret ?_ | refine block_normal ?_ | refine block_ret ?_ | refine block_exit ?_ | refine block_pass rfl ?_)
                    obtain rfl := Option.some.inj h
                    exact ⟨⟨_, rfl, (.refl _)⟩, ⟨rfl, trivial⟩, rfl⟩
                  · refine c_f h48 rfl ?_
                    refine c_skip ?_
                    repeat (first | refine then_normal ?_ | refine then_exit ?_ | refine then_ret ?_ | refine block_normal ?_ | refine block_ret ?_ | refine block_exit ?_ | refine block_pass rfl ?_)
                    refine c_region ?_
                    refine o_s (.t (.d (.lit (.int .i64 z44)))) (g0 rfl) rfl rfl rfl ?_
                    refine o_s (.t (.d (.lit (.int .i64 (wi (z44 + 1)))))) (g0 rfl) rfl rfl rfl ?_
                    refine o_s (.t (.d (.lit (.int .i64 (wi (z44 + 1)))))) (g0 rfl) rfl rfl rfl ?_
                    refine o_nil ?_
                    repeat (first | refine then_normal ?_ | refine then_exit ?_ | refine then_ret ?_ | refine block_normal ?_ | refine block_ret ?_ | refine block_exit ?_ | refine block_pass rfl ?_)
                    exact ⟨nl9, (wi (z44 + 1)), [], Nat.lt_succ_self nl9, h, rfl, ⟨.inr ⟨_, rfl, pure_hpA _⟩, by (repeat (first | exact ObP.nil | refine ObP.cons (.inl rfl) ?_ | refine ObP.cons (.inr (fun _ => rfl)) ?_ | refine ObP.cons (.inr (ob_box (fl_noPt _ _))) ?_ | refine ObP.cons (.inr (ob_gb _ _)) ?_))⟩, ⟨(.refl _), ⟨(.refl _), ⟨(.refl _), ⟨(.refl _), ⟨(.refl _), ⟨(.refl _), ⟨(.refl _), ⟨(.refl _), ⟨(.refl _), ⟨(.refl _), ⟨(.refl _), ⟨(.refl _), ⟨(.refl _), ⟨(.refl _), ⟨(.refl _), ⟨(.refl _), ⟨(.refl _), ⟨(.refl _), ⟨(.refl _), ⟨(.refl _), ⟨(.refl _), ⟨(.refl _), ⟨(.refl _), ⟨(.refl _), ⟨(.refl _), trivial⟩⟩⟩⟩⟩⟩⟩⟩⟩⟩⟩⟩⟩⟩⟩⟩⟩⟩⟩⟩⟩⟩⟩⟩⟩, rfl⟩
                · refine c_f h45 rfl ?_
                  refine c_exit ?_
                  repeat (first | refine then_normal ?_ | refine then_exit ?_ | refine then_ret ?_ | refine block_normal ?_ | refine block_ret ?_ | refine block_exit ?_ | refine block_pass rfl ?_)
                  exact ⟨z44, [], h, rfl, ⟨.inr ⟨_, rfl, pure_hpA _⟩, by (repeat (first | exact ObP.nil | refine ObP.cons (.inl rfl) ?_ | refine ObP.cons (.inr (fun _ => rfl)) ?_ | refine ObP.cons (.inr (ob_box (fl_noPt _ _))) ?_ | refine ObP.cons (.inr (ob_gb _ _)) ?_))⟩, ⟨(.refl _), ⟨(.refl _), ⟨(.refl _), ⟨(.refl _), ⟨(.refl _), ⟨(.refl _), ⟨(.refl _), ⟨(.refl _), ⟨(.refl _), ⟨(.refl _), ⟨(.refl _), ⟨(.refl _), ⟨(.refl _), ⟨(.refl _), ⟨(.refl _), ⟨(.refl _), ⟨(.refl _), ⟨(.refl _), ⟨(.refl _), ⟨(.refl _), ⟨(.refl _), ⟨(.refl _), ⟨(.refl _), ⟨(.refl _), ⟨(.refl _), trivial⟩⟩⟩⟩⟩⟩⟩⟩⟩⟩⟩⟩⟩⟩⟩⟩⟩⟩⟩⟩⟩⟩⟩⟩⟩, rfl⟩
            · rintro y38 h
              refine c_block ?_
              refine c_fuelH (fun (z39 : Int) => [(0, .t ((ptT 1 p0))), (1, .t (.view 0 0 4 1 p1.length)), (5, .t (.d (.lit (.int .i64 y1)))), (8, .t (.d (.lit (.int .i64 z39)))), (10, .box [.d (.lit (.int .i64 x35.From)), .d (.lit (.int .i64 x35.Len))]), (27, .t (.d (.seq 2 (List.map cS_api_Run x30.1)))), (28, .t (.d (.lit (.int .i64 (x30.1.length : Int))))), (29, .t (.d (.lit (.int .i64 z33)))), (38, .ref 10 1), (39, .t (.d (.lit (.int .i64 x35.Len)))), (40, .t (.d (.lit (.bool (decide (x35.Len < 1)))))), (43, .ref 10 0), (44, .t (.d (.lit (.int .i64 x35.From)))), (45, .ref 10 1), (46, .t (.d (.lit (.int .i64 x35.Len)))), (47, .t (.d (.lit (.int .i64 (wi (x35.From + x35.Len)))))), (48, .t (.view 0 0 4 1 p1.length)), (49, .t (.d (.lit (.int .i64 (p1.length : Int))))), (50, .t (.d (.lit (.bool (decide ((wi (x35.From + x35.Len)) > (p1.length : Int))))))), (53, .t (.d (.lit (.int .i64 z32)))), (54, .t (.d (.lit (.bool (decide (z32 > 0)))))), (55, .t (.d (.lit (.bool (decide (z32 > 0)))))), (60, .t (.d (.lit (.bool y37)))), ((OB + 0), .box (fl (dT cBool) p1)), (HK, .hp (hpA x30.2))]) (fun nl8 => (fun (z39 : Int) => m_L19_whole_l8 (m_L19_whole_l5 x30 p1 p0 y1 nl5) x35 p1 x30 z33 nl8 z39 = some r)) (Int.toNat (wi (x35.From + x35.Len)) + 1) y38 [] h rfl ⟨.inr ⟨_, rfl, pure_hpA _⟩, by (repeat (first | exact ObP.nil | refine ObP.cons (.inl rfl) ?_ | refine ObP.cons (.inr (fun _ => rfl)) ?_ | refine ObP.cons (.inr (ob_box (fl_noPt _ _))) ?_ | refine ObP.cons (.inr (ob_gb _ _)) ?_))⟩ ⟨(.refl _), ⟨(.refl _), ⟨(.refl _), ⟨(.refl _), ⟨(.refl _), ⟨(.refl _), ⟨(.refl _), ⟨(.refl _), ⟨(.refl _), ⟨(.refl _), ⟨(.refl _), ⟨(.refl _), ⟨(.refl _), ⟨(.refl _), ⟨(.refl _), ⟨(.refl _), ⟨(.refl _), ⟨(.refl _), ⟨(.refl _), ⟨(.refl _), ⟨(.refl _), ⟨(.refl _), ⟨(.refl _), ⟨(.refl _), ⟨(.refl _), trivial⟩⟩⟩⟩⟩⟩⟩⟩⟩⟩⟩⟩⟩⟩⟩⟩⟩⟩⟩⟩⟩⟩⟩⟩⟩ rfl ?_
              rintro nl8 z39 h
              cases nl8 with
              | zero => exact none_ne h
              | succ nl8 =>
                refine c_seq ?_
                refine c_seq ?_
                refine c_region ?_
                refine o_s (.t (.d (.lit (.int .i64 z39)))) (g0 rfl) rfl rfl rfl ?_
                refine o_s (.ref 10 0) (g0 rfl) rfl rfl rfl ?_
                refine o_s (.t (.d (.lit (.int .i64 x35.From)))) (g0 rfl) rfl rfl rfl ?_
                refine o_s (.ref 10 1) (g0 rfl) rfl rfl rfl ?_
                refine o_s (.t (.d (.lit (.int .i64 x35.Len)))) (g0 rfl) rfl rfl rfl ?_
                refine o_s (.t (.d (.lit (.int .i64 (wi (x35.From + x35.Len)))))) (g0 rfl) rfl rfl rfl ?_
                refine o_s (.t (.d (.lit (.bool (decide (z39 < (wi (x35.From + x35.Len)))))))) (g0 rfl) rfl rfl rfl ?_
                refine o_nil ?_
                repeat (first | refine then_normal ?_ | refine then_exit ?_ | refine then_ret ?_ | refine block_normal ?_ | refine block_ret ?_ | refine block_exit ?_ | refine block_pass rfl ?_)
                rcases bif_some h with ⟨h40, h⟩ | ⟨h40, h⟩
                · refine c_t h40 rfl ?_
                  refine c_skip ?_
                  repeat (first | refine then_normal ?_ | refine then_exit ?_ | refine then_ret ?_ | refine block_normal ?_ | refine block_ret ?_ | refine block_exit ?_ | refine block_pass rfl ?_)
                  refine c_seq ?_
                  refine c_block ?_
                  refine c_seq ?_
                  refine c_region ?_
                  refine o_s (.t (.view 0 0 4 1 p1.length)) (g0 rfl) rfl rfl rfl ?_
                  refine o_s (.t (.d (.lit (.int .i64 z39)))) (g0 rfl) rfl rfl rfl ?_
                  obtain ⟨x41, h42, h⟩ := bind_some h
                  refine o_of (e := [(84, .ref (OB + 0) (0 + Int.toNat z39 * 1))]) (g0 rfl) (h_lix (Mk.refl _) rfl rfl rfl rfl rfl (idxV rfl h42) rfl rfl rfl) rfl ?_
                  refine o_of (e := [(85, .t (.d (.lit (.bool x41))))]) (g0 rfl) (h_lld (Mk.refl _) rfl rfl rfl rfl (fl_at h42 rfl (fun _ => rfl)) rfl rfl rfl) rfl ?_
                  refine o_nil ?_
                  repeat (first | refine then_normal ?_ | refine then_exit ?_ | refine then_ret ?_ | refine block_normal ?_ | refine block_ret ?_ | refine block_exit ?_ | refine block_pass rfl ?_)
                  rcases bif_some h with ⟨h43, h⟩ | ⟨h43, h⟩
                  · refine c_t h43 rfl ?_
                    refine c_seq ?_
                    refine c_region ?_
                    refine o_s (.t (.d (.lit (.bool false)))) (g0 rfl) rfl rfl rfl ?_
                    refine o_nil ?_
                    repeat (first | refine then_normal ?_ | refine then_exit ?_ | refine then_ret ?_ | refine block_normal ?_ | refine block_ret ?_ | refine block_exit ?_ | refine block_pass rfl ?_)
                    refine c_ret ?_
                    repeat (first | refine then_normal ?_ | refine then_exit ?_ | refine then_ret ?_ | refine block_normal ?_ | refine block_ret ?_ | refine block_exit ?_ | refine block_pass rfl ?_)
                    obtain rfl := Option.some.inj h
                    exact ⟨⟨_, rfl, (.refl _)⟩, ⟨rfl, trivial⟩, rfl⟩
                  · refine c_f h43 rfl ?_
                    refine c_skip ?_
                    repeat (first | refine then_normal ?_ | refine then_exit ?_ | refine then_ret ?_ | refine block_normal ?_ | refine block_ret ?_ | refine block_exit ?_ | refine block_pass rfl ?_)
                    refine c_region ?_
                    refine o_s (.t (.d (.lit (.int .i64 z39)))) (g0 rfl) rfl rfl rfl ?_
                    refine o_s (.t (.d (.lit (.int .i64 (wi (z39 + 1)))))) (g0 rfl) rfl rfl rfl ?_
                    refine o_s (.t (.d (.lit (.int .i64 (wi (z39 + 1)))))) (g0 rfl) rfl rfl rfl ?_
                    refine o_nil ?_
                    repeat (first | refine then_normal ?_ | refine then_exit ?_ | refine then_ret ?_ | refine block_normal ?_ | refine block_ret ?_ | refine block_exit ?_ | refine block_pass rfl ?_)
                    exact ⟨nl8, (wi (z39 + 1)), [], Nat.lt_succ_self nl8, h, rfl, ⟨.inr ⟨_, rfl, pure_hpA _⟩, by (repeat (first | exact ObP.nil | refine ObP.cons (.inl rfl) ?_ | refine ObP.cons (.inr (fun _ => rfl)) ?_ | refine ObP.cons (.inr (ob_box (fl_noPt _ _))) ?_ | refine ObP.cons (.inr (ob_gb _ _)) ?_))⟩, ⟨(.refl _), ⟨(.refl _), ⟨(.refl _), ⟨(.refl _), ⟨(.refl _), ⟨(.refl _), ⟨(.refl _), ⟨(.refl _), ⟨(.refl _), ⟨(.refl _), ⟨(.refl _), ⟨(.refl _), ⟨(.refl _), ⟨(.refl _), ⟨(.refl _), ⟨(.refl _), ⟨(.refl _), ⟨(.refl _), ⟨(.refl _), ⟨(.refl _), ⟨(.refl _), ⟨(.refl _), ⟨(.refl _), ⟨(.refl _), ⟨(.refl _), trivial⟩⟩⟩⟩⟩⟩⟩⟩⟩⟩⟩⟩⟩⟩⟩⟩⟩⟩⟩⟩⟩⟩⟩⟩⟩, rfl⟩
                · refine c_f h40 rfl ?_
                  refine c_exit ?_
                  repeat (first | refine then_normal ?_ | refine then_exit ?_ | refine then_ret ?_ | refine block_normal ?_ | refine block_ret ?_ | refine block_exit ?_ | refine block_pass rfl ?_)
                  refine c_region ?_
                  refine o_s (.t (.d (.lit (.int .i64 (wi (z33 + 1)))))) (g0 rfl) rfl rfl rfl ?_
                  refine o_s (.t (.d (.lit (.int .i64 (wi (z33 + 1)))))) (g0 rfl) rfl rfl rfl ?_
                  refine o_nil ?_
                  repeat (first | refine then_normal ?_ | refine then_exit ?_ | refine then_ret ?_ | refine block_normal ?_ | refine block_ret ?_ | refine block_exit ?_ | refine block_pass rfl ?_)
                  exact ⟨nl5, (z39, (wi (z33 + 1))), [], Nat.lt_succ_self nl5, h, rfl, ⟨.inr ⟨_, rfl, pure_hpA _⟩, by (repeat (first | exact ObP.nil | refine ObP.cons (.inl rfl) ?_ | refine ObP.cons (.inr (fun _ => rfl)) ?_ | refine ObP.cons (.inr (ob_box (fl_noPt _ _))) ?_ | refine ObP.cons (.inr (ob_gb _ _)) ?_))⟩, ⟨(.refl _), ⟨(.refl _), ⟨(.refl _), ⟨(.refl _), ⟨(.refl _), ⟨(.refl _), ⟨(.refl _), ⟨(.refl _), ⟨(.refl _), trivial⟩⟩⟩⟩⟩⟩⟩⟩⟩, rfl⟩
        · refine c_f h34 rfl ?_
          refine c_exit ?_
          repeat (first | refine then_normal ?_ | refine then_exit ?_ | refine then_ret ?_ | refine block_normal ?_ | refine block_ret ?_ | refine block_exit ?_ | refine block_pass rfl ?_)
          exact ⟨(z32, x30.2), [], h, rfl, ⟨.inr ⟨_, rfl, pure_hpA _⟩, by (repeat (first | exact ObP.nil | refine ObP.cons (.inl rfl) ?_ | refine ObP.cons (.inr (fun _ => rfl)) ?_ | refine ObP.cons (.inr (ob_box (fl_noPt _ _))) ?_ | refine ObP.cons (.inr (ob_gb _ _)) ?_))⟩, ⟨(.refl _), ⟨(.refl _), ⟨(.refl _), ⟨(.refl _), ⟨(.refl _), ⟨(.refl _), trivial⟩⟩⟩⟩⟩⟩, rfl⟩
    · rintro ⟨y3, y4⟩ h
      refine c_cutH (fun (_ : Unit) => [(0, .t ((ptT 1 p0))), (1, .t (.view 0 0 4 1 p1.length)), (5, .t (.d (.lit (.int .i64 y1)))), ((OB + 0), .box (fl (dT cBool) p1)), (HK, .hp (hpA y4))]) (fun (_ : Unit) => m_L19_whole_j3 p0 y4 p1 y1 = some r) ?_ ?_
      · refine c_block ?_
        refine c_fuelH (fun (z25 : Int) => [(0, .t ((ptT 1 p0))), (1, .t (.view 0 0 4 1 p1.length)), (5, .t (.d (.lit (.int .i64 y1)))), (8, .t (.d (.lit (.int .i64 z25)))), ((OB + 0), .box (fl (dT cBool) p1)), (HK, .hp (hpA y4))]) (fun nl4 => (fun (z25 : Int) => m_L19_whole_l4 p1 y4 p0 y1 nl4 z25 = some r)) (p1.length + 1) y3 [] h rfl ⟨.inr ⟨_, rfl, pure_hpA _⟩, by (repeat (first | exact ObP.nil | refine ObP.cons (.inl rfl) ?_ | refine ObP.cons (.inr (fun _ => rfl)) ?_ | refine ObP.cons (.inr (ob_box (fl_noPt _ _))) ?_ | refine ObP.cons (.inr (ob_gb _ _)) ?_))⟩ ⟨(.refl _), ⟨(.refl _), ⟨(.refl _), ⟨(.refl _), ⟨(.refl _), ⟨(.refl _), trivial⟩⟩⟩⟩⟩⟩ rfl ?_
        rintro nl4 z25 h
        cases nl4 with
        | zero => exact none_ne h
        | succ nl4 =>
          refine c_seq ?_
          refine c_seq ?_
          refine c_region ?_
          refine o_s (.t (.d (.lit (.int .i64 z25)))) (g0 rfl) rfl rfl rfl ?_
          refine o_s (.t (.view 0 0 4 1 p1.length)) (g0 rfl) rfl rfl rfl ?_
          refine o_of (e := [(89, .t (.d (.lit (.int .i64 (p1.length : Int)))))]) (g0 rfl) (h_lln (Mk.refl _) rfl rfl rfl rfl rfl rfl) rfl ?_
          refine o_s (.t (.d (.lit (.bool (decide (z25 < (p1.length : Int))))))) (g0 rfl) rfl rfl rfl ?_
          refine o_nil ?_
          repeat (first | refine then_normal ?_ | refine then_exit ?_ | refine then_ret ?_ | refine block_normal ?_ | refine block_ret ?_ | refine block_exit ?_ | refine block_pass rfl ?_)
          rcases bif_some h with ⟨h26, h⟩ | ⟨h26, h⟩
          · refine c_t h26 rfl ?_
            refine c_skip ?_
            repeat (first | refine then_normal ?_ | refine then_exit ?_ | refine then_ret ?_ | refine block_normal ?_ | refine block_ret ?_ | refine block_exit ?_ | refine block_pass rfl ?_)
            refine c_seq ?_
            refine c_block ?_
            refine c_seq ?_
            refine c_region ?_
            refine o_s (.t (.view 0 0 4 1 p1.length)) (g0 rfl) rfl rfl rfl ?_
            refine o_s (.t (.d (.lit (.int .i64 z25)))) (g0 rfl) rfl rfl rfl ?_
            obtain ⟨x27, h28, h⟩ := bind_some h
            refine o_of (e := [(95, .ref (OB + 0) (0 + Int.toNat z25 * 1))]) (g0 rfl) (h_lix (Mk.refl _) rfl rfl rfl rfl rfl (idxV rfl h28) rfl rfl rfl) rfl ?_
            refine o_of (e := [(96, .t (.d (.lit (.bool x27))))]) (g0 rfl) (h_lld (Mk.refl _) rfl rfl rfl rfl (fl_at h28 rfl (fun _ => rfl)) rfl rfl rfl) rfl ?_
            refine o_s (.t (.d (.lit (.bool (!x27))))) (g0 rfl) rfl rfl rfl ?_
            refine o_nil ?_
            repeat (first | refine then_normal ?_ | refine then_exit ?_ | refine then_ret ?_ | refine block_normal ?_ | refine block_ret ?_ | refine block_exit ?_ | refine block_pass rfl ?_)
            rcases bif_some h with ⟨h29, h⟩ | ⟨h29, h⟩
            · refine c_t h29 rfl ?_
              refine c_seq ?_
              refine c_region ?_
              refine o_s (.t (.d (.lit (.bool false)))) (g0 rfl) rfl rfl rfl ?_
              refine o_nil ?_
              repeat (first | refine then_normal ?_ | refine then_exit ?_ | refine then_ret ?_ | refine block_normal ?_ | refine block_ret ?_ | refine block_exit ?_ | refine block_pass rfl ?_)
              refine c_ret ?_
              repeat (first | refine then_normal ?_ | refine then_exit ?_ | refine then_ret ?_ | refine block_normal ?_ | refine block_ret ?_ | refine block_exit ?_ | refine block_pass rfl ?_)
              obtain rfl := Option.some.inj h
              exact ⟨⟨_, rfl, (.refl _)⟩, ⟨rfl, trivial⟩, rfl⟩
            · refine c_f h29 rfl ?_
              refine c_skip ?_
              repeat (first | refine then_normal ?_ | refine then_exit ?_ | refine then_ret ?_ | refine block_normal ?_ | refine block_ret ?_ | refine block_exit ?_ | refine block_pass rfl ?_)
              refine c_region ?_
              refine o_s (.t (.d (.lit (.int .i64 z25)))) (g0 rfl) rfl rfl rfl ?_
              refine o_s (.t (.d (.lit (.int .i64 (wi (z25 + 1)))))) (g0 rfl) rfl rfl rfl ?_
              refine o_s (.t (.d (.lit (.int .i64 (wi (z25 + 1)))))) (g0 rfl) rfl rfl rfl ?_
              refine o_nil ?_
              repeat (first | refine then_normal ?_ | refine then_exit ?_ | refine then_ret ?_ | refine block_normal ?_ | refine block_ret ?_ | refine block_exit ?_ | refine block_pass rfl ?_)
              exact ⟨nl4, (wi (z25 + 1)), [], Nat.lt_succ_self nl4, h, rfl, ⟨.inr ⟨_, rfl, pure_hpA _⟩, by (repeat (first | exact ObP.nil | refine ObP.cons (.inl rfl) ?_ | refine ObP.cons (.inr (fun _ => rfl)) ?_ | refine ObP.cons (.inr (ob_box (fl_noPt _ _))) ?_ | refine ObP.cons (.inr (ob_gb _ _)) ?_))⟩, ⟨(.refl _), ⟨(.refl _), ⟨(.refl _), ⟨(.refl _), ⟨(.refl _), ⟨(.refl _), trivial⟩⟩⟩⟩⟩⟩, rfl⟩
          · refine c_f h26 rfl ?_
            refine c_exit ?_
            repeat (first | refine then_normal ?_ | refine then_exit ?_ | refine then_ret ?_ | refine block_normal ?_ | refine block_ret ?_ | refine block_exit ?_ | refine block_pass rfl ?_)
            exact ⟨(), [], h, rfl, ⟨.inr ⟨_, rfl, pure_hpA _⟩, by (repeat (first | exact ObP.nil | refine ObP.cons (.inl rfl) ?_ | refine ObP.cons (.inr (fun _ => rfl)) ?_ | refine ObP.cons (.inr (ob_box (fl_noPt _ _))) ?_ | refine ObP.cons (.inr (ob_gb _ _)) ?_))⟩, ⟨(.refl _), ⟨(.refl _), ⟨(.refl _), ⟨(.refl _), ⟨(.refl _), trivial⟩⟩⟩⟩⟩, rfl⟩
      · rintro ⟨⟩ h
        refine c_seq ?_
        refine c_region ?_
        refine o_of (e := [(98, .t ((ptT 1 p0)))]) (g0 rfl) (h_mv (Mk.refl _) (.inl rfl) (cpO_pt rfl) rfl rfl) rfl ?_
        obtain ⟨x5, h6, h⟩ := bind_some h
        refine o_of (e := [(HK, .hp (hpA x5.2)), (99, .t (.d (.lit (.int .i64 x5.1))))]) (g0 rfl) (h_call (Mk.refl _) rfl (σ := []) (fr := []) rfl rfl rfl rfl rfl rfl rfl (fch_space_Space_Free _ y4 _ h6) (pure_hpA _) (pure_hpA _) rfl rfl rfl rfl (.cons (argPt rfl) .nil) rfl (.t (.flat rfl))) rfl ?_
        refine o_s (.t (.view 0 0 4 1 p1.length)) (g0 rfl) rfl rfl rfl ?_
        obtain ⟨x7, h8, h⟩ := bind_some h
        refine o_of (e := [((OB + 0), .box (fl (dT cBool) p1)), (HK, .hp (hpA x5.2)), (101, .t (.d (.lit (.int .i64 x7))))]) (g0 rfl) (h_call (Mk.refl _) rfl (σ := [0]) (fr := []) rfl rfl rfl rfl rfl rfl rfl (fch_R19_Free_v0 _ x5.2 _ h8) (pure_hpA _) (pure_hpA _) rfl (by simp [A.flatO, fl_noPt]) (by simp [A.flatO, fl_noPt]) rfl (.cons (argVw rfl rfl rfl) .nil) rfl (.t (.flat rfl))) rfl ?_
        refine o_s (.t (.d (.lit (.bool (x5.1 == x7))))) (g0 rfl) rfl rfl rfl ?_
        refine o_s (.t (.d (.lit (.bool (x5.1 == x7))))) (g0 rfl) rfl rfl rfl ?_
        rcases bif_some h with ⟨h9, h⟩ | ⟨h9, h⟩
        · refine o_of (e := [(104, .t ((ptT 1 p0)))]) (gy rfl rfl rfl h9) (h_mv (Mk.refl _) (.inl rfl) (cpO_pt rfl) rfl rfl) rfl ?_
          obtain ⟨x10, h11, h⟩ := bind_some h
          refine o_of (e := [(HK, .hp (hpA x10.2)), (105, .t (.d (.lit (.int .i64 x10.1))))]) (gy rfl rfl rfl h9) (h_call (Mk.refl _) rfl (σ := []) (fr := []) rfl rfl rfl rfl rfl rfl rfl (fch_space_Space_Top _ x5.2 _ h11) (pure_hpA _) (pure_hpA _) rfl rfl rfl rfl (.cons (argPt rfl) .nil) rfl (.t (.flat rfl))) rfl ?_
          refine o_s (.t (.d (.lit (.int .i64 y1)))) (gy rfl rfl rfl h9) rfl rfl rfl ?_
          refine o_s (.t (.d (.lit (.bool (x10.1 == y1))))) (gy rfl rfl rfl h9) rfl rfl rfl ?_
          refine o_pk (.t (.d (.lit (.bool (x10.1 == y1))))) (b := true) h9 (g0 rfl) rfl rfl rfl rfl rfl ?_
          refine o_s (.t (.d (.lit (.bool (x10.1 == y1))))) (g0 rfl) rfl rfl rfl ?_
          rcases bif_some h with ⟨h12, h⟩ | ⟨h12, h⟩
          · refine o_of (e := [(110, .t ((ptT 1 p0)))]) (gy rfl rfl rfl h12) (h_mv (Mk.refl _) (.inl rfl) (cpO_pt rfl) rfl rfl) rfl ?_
            obtain ⟨x13, h14, h⟩ := bind_some h
            refine o_of (e := [(HK, .hp (hpA x13.2)), (111, .t (.d (.seq 1 (bytesD x13.1))))]) (gy rfl rfl rfl h12) (h_call (Mk.refl _) rfl (σ := []) (fr := []) rfl rfl rfl rfl rfl rfl rfl (fch_space_Space_Bytes _ x10.2 _ h14) (pure_hpA _) (pure_hpA _) rfl rfl rfl rfl (.cons (argPt rfl) .nil) rfl (.t (.flat rfl))) rfl ?_
            refine o_s (.t (.view 0 0 4 1 p1.length)) (gy rfl rfl rfl h12) rfl rfl rfl ?_
            obtain ⟨x15, h16, h⟩ := bind_some h
            refine o_of (e := [((OB + 0), .box (fl (dT cBool) p1)), (HK, .hp (hpA x13.2)), (113, .t (.own 5 1 (bytesD x15)))]) (gy rfl rfl rfl h12) (h_call (Mk.refl _) rfl (σ := [0]) (fr := []) rfl rfl rfl rfl rfl rfl rfl (fch_R19_Bytes_v0 _ x13.2 _ h16) (pure_hpA _) (pure_hpA _) rfl (by simp [A.flatO, fl_noPt]) (by simp [A.flatO, fl_noPt]) rfl (.cons (argVw rfl rfl rfl) .nil) rfl (.t (.flat rfl))) rfl ?_
            obtain ⟨x17, h18, h⟩ := bind_some h
            refine o_ca (fc_R01_Same _ _ _ h18) (gy rfl rfl rfl h12) rfl rfl rfl rfl rfl rfl rfl (.cons (.refl _) (.cons (.refl _) .nil)) rfl rfl ?_
            refine o_pk (.t (.d (.lit (.bool x17)))) (b := true) h12 (g0 rfl) rfl rfl rfl rfl rfl ?_
            refine o_s (.t (.d (.lit (.bool x17)))) (g0 rfl) rfl rfl rfl ?_
            rcases bif_some h with ⟨h19, h⟩ | ⟨h19, h⟩
            · refine o_of (e := [(117, .t ((ptT 1 p0)))]) (gy rfl rfl rfl h19) (h_mv (Mk.refl _) (.inl rfl) (cpO_pt rfl) rfl rfl) rfl ?_
              obtain ⟨x20, h21, h⟩ := bind_some h
              refine o_of (e := [(HK, .hp (hpA x20.2)), (118, .t (.d (.lit (.bool x20.1))))]) (gy rfl rfl rfl h19) (h_call (Mk.refl _) rfl (σ := []) (fr := []) rfl rfl rfl rfl rfl rfl rfl (fch_space_Space_Has _ _ x13.2 _ h21) (pure_hpA _) (pure_hpA _) rfl rfl rfl rfl (.cons (argPt rfl) (.cons (.plain (.refl _) rfl) .nil)) rfl (.t (.flat rfl))) rfl ?_
              refine o_s (.t (.d (.lit (.bool (!x20.1))))) (gy rfl rfl rfl h19) rfl rfl rfl ?_
              refine o_pk (.t (.d (.lit (.bool (!x20.1))))) (b := true) h19 (g0 rfl) rfl rfl rfl rfl rfl ?_
              refine o_s (.t (.d (.lit (.bool (!x20.1))))) (g0 rfl) rfl rfl rfl ?_
              rcases bif_some h with ⟨h22, h⟩ | ⟨h22, h⟩
              · refine o_of (e := [(122, .t ((ptT 1 p0)))]) (gy rfl rfl rfl h22) (h_mv (Mk.refl _) (.inl rfl) (cpO_pt rfl) rfl rfl) rfl ?_
                refine o_s (.t (.view 0 0 4 1 p1.length)) (gy rfl rfl rfl h22) rfl rfl rfl ?_
                refine o_of (e := [(124, .t (.d (.lit (.int .i64 (p1.length : Int)))))]) (gy rfl rfl rfl h22) (h_lln (Mk.refl _) rfl rfl rfl rfl rfl rfl) rfl ?_
                obtain ⟨x23, h24, h⟩ := bind_some h
                refine o_of (e := [(HK, .hp (hpA x23.2)), (125, .t (.d (.lit (.bool x23.1))))]) (gy rfl rfl rfl h22) (h_call (Mk.refl _) rfl (σ := []) (fr := []) rfl rfl rfl rfl rfl rfl rfl (fch_space_Space_Has _ _ x20.2 _ h24) (pure_hpA _) (pure_hpA _) rfl rfl rfl rfl (.cons (argPt rfl) (.cons (.plain (.refl _) rfl) .nil)) rfl (.t (.flat rfl))) rfl ?_
                refine o_s (.t (.d (.lit (.bool (!x23.1))))) (gy rfl rfl rfl h22) rfl rfl rfl ?_
                refine o_pk (.t (.d (.lit (.bool (!x23.1))))) (b := true) h22 (g0 rfl) rfl rfl rfl rfl rfl ?_
                refine o_s (.t (.d (.lit (.bool (!x23.1))))) (g0 rfl) rfl rfl rfl ?_
                refine o_nil ?_
                repeat (first | refine then_normal ?_ | refine then_exit ?_ | refine then_ret ?_ | refine block_normal ?_ | refine block_ret ?_ | refine block_exit ?_ | refine block_pass rfl ?_)
                refine c_ret ?_
                repeat (first | refine then_normal ?_ | refine then_exit ?_ | refine then_ret ?_ | refine block_normal ?_ | refine block_ret ?_ | refine block_exit ?_ | refine block_pass rfl ?_)
                obtain rfl := Option.some.inj h
                exact ⟨⟨_, rfl, (.refl _)⟩, ⟨rfl, trivial⟩, rfl⟩
              · refine o_skip rfl rfl rfl h22 rfl rfl ?_
                refine o_skip rfl rfl rfl h22 rfl rfl ?_
                refine o_skip rfl rfl rfl h22 rfl rfl ?_
                refine o_skip rfl rfl rfl h22 rfl rfl ?_
                refine o_skip rfl rfl rfl h22 rfl rfl ?_
                refine o_pk (.t (.d (.lit (.bool false)))) (b := false) h22 (g0 rfl) rfl rfl rfl rfl rfl ?_
                refine o_s (.t (.d (.lit (.bool false)))) (g0 rfl) rfl rfl rfl ?_
                refine o_nil ?_
                repeat (first | refine then_normal ?_ | refine then_exit ?_ | refine then_ret ?_ | refine block_normal ?_ | refine block_ret ?_ | refine block_exit ?_ | refine block_pass rfl ?_)
                refine c_ret ?_
                repeat (first | refine then_normal ?_ | refine then_exit ?_ | refine then_ret ?_ | refine block_normal ?_ | refine block_ret ?_ | refine block_exit ?_ | refine block_pass rfl ?_)
                obtain rfl := Option.some.inj h
                exact ⟨⟨_, rfl, (.refl _)⟩, ⟨rfl, trivial⟩, rfl⟩
            · refine o_skip rfl rfl rfl h19 rfl rfl ?_
              refine o_skip rfl rfl rfl h19 rfl rfl ?_
              refine o_skip rfl rfl rfl h19 rfl rfl ?_
              refine o_pk (.t (.d (.lit (.bool false)))) (b := false) h19 (g0 rfl) rfl rfl rfl rfl rfl ?_
              refine o_s (.t (.d (.lit (.bool false)))) (g0 rfl) rfl rfl rfl ?_
              refine o_skip rfl rfl rfl rfl rfl rfl ?_
              refine o_skip rfl rfl rfl rfl rfl rfl ?_
              refine o_skip rfl rfl rfl rfl rfl rfl ?_
              refine o_skip rfl rfl rfl rfl rfl rfl ?_
              refine o_skip rfl rfl rfl rfl rfl rfl ?_
              refine o_pk (.t (.d (.lit (.bool false)))) (b := false) rfl (g0 rfl) rfl rfl rfl rfl rfl ?_
              refine o_s (.t (.d (.lit (.bool false)))) (g0 rfl) rfl rfl rfl ?_
              refine o_nil ?_
              repeat (first | refine then_normal ?_ | refine then_exit ?_ | refine then_ret ?_ | refine block_normal ?_ | refine block_ret ?_ | refine block_exit ?_ | refine block_pass rfl ?_)
              refine c_ret ?_
              repeat (first | refine then_normal ?_ | refine then_exit ?_ | refine then_ret ?_ | refine block_normal ?_ | refine block_ret ?_ | refine block_exit ?_ | refine block_pass rfl ?_)
              obtain rfl := Option.some.inj h
              exact ⟨⟨_, rfl, (.refl _)⟩, ⟨rfl, trivial⟩, rfl⟩
          · refine o_skip rfl rfl rfl h12 rfl rfl ?_
            refine o_skip rfl rfl rfl h12 rfl rfl ?_
            refine o_skip rfl rfl rfl h12 rfl rfl ?_
            refine o_skip rfl rfl rfl h12 rfl rfl ?_
            refine o_skip rfl rfl rfl h12 rfl rfl ?_
            refine o_pk (.t (.d (.lit (.bool false)))) (b := false) h12 (g0 rfl) rfl rfl rfl rfl rfl ?_
            refine o_s (.t (.d (.lit (.bool false)))) (g0 rfl) rfl rfl rfl ?_
            refine o_skip rfl rfl rfl rfl rfl rfl ?_
            refine o_skip rfl rfl rfl rfl rfl rfl ?_
            refine o_skip rfl rfl rfl rfl rfl rfl ?_
            refine o_pk (.t (.d (.lit (.bool false)))) (b := false) rfl (g0 rfl) rfl rfl rfl rfl rfl ?_
            refine o_s (.t (.d (.lit (.bool false)))) (g0 rfl) rfl rfl rfl ?_
            refine o_skip rfl rfl rfl rfl rfl rfl ?_
            refine o_skip rfl rfl rfl rfl rfl rfl ?_
            refine o_skip rfl rfl rfl rfl rfl rfl ?_
            refine o_skip rfl rfl rfl rfl rfl rfl ?_
            refine o_skip rfl rfl rfl rfl rfl rfl ?_
            refine o_pk (.t (.d (.lit (.bool false)))) (b := false) rfl (g0 rfl) rfl rfl rfl rfl rfl ?_
            refine o_s (.t (.d (.lit (.bool false)))) (g0 rfl) rfl rfl rfl ?_
            refine o_nil ?_
            repeat (first | refine then_normal ?_ | refine then_exit ?_ | refine then_ret ?_ | refine block_normal ?_ | refine block_ret ?_ | refine block_exit ?_ | refine block_pass rfl ?_)
            refine c_ret ?_
            repeat (first | refine then_normal ?_ | refine then_exit ?_ | refine then_ret ?_ | refine block_normal ?_ | refine block_ret ?_ | refine block_exit ?_ | refine block_pass rfl ?_)
            obtain rfl := Option.some.inj h
            exact ⟨⟨_, rfl, (.refl _)⟩, ⟨rfl, trivial⟩, rfl⟩
        · refine o_skip rfl rfl rfl h9 rfl rfl ?_
          refine o_skip rfl rfl rfl h9 rfl rfl ?_
          refine o_skip rfl rfl rfl h9 rfl rfl ?_
          refine o_skip rfl rfl rfl h9 rfl rfl ?_
          refine o_pk (.t (.d (.lit (.bool false)))) (b := false) h9 (g0 rfl) rfl rfl rfl rfl rfl ?_
          refine o_s (.t (.d (.lit (.bool false)))) (g0 rfl) rfl rfl rfl ?_
          refine o_skip rfl rfl rfl rfl rfl rfl ?_
          refine o_skip rfl rfl rfl rfl rfl rfl ?_
          refine o_skip rfl rfl rfl rfl rfl rfl ?_
          refine o_skip rfl rfl rfl rfl rfl rfl ?_
          refine o_skip rfl rfl rfl rfl rfl rfl ?_
          refine o_pk (.t (.d (.lit (.bool false)))) (b := false) rfl (g0 rfl) rfl rfl rfl rfl rfl ?_
          refine o_s (.t (.d (.lit (.bool false)))) (g0 rfl) rfl rfl rfl ?_
          refine o_skip rfl rfl rfl rfl rfl rfl ?_
          refine o_skip rfl rfl rfl rfl rfl rfl ?_
          refine o_skip rfl rfl rfl rfl rfl rfl ?_
          refine o_pk (.t (.d (.lit (.bool false)))) (b := false) rfl (g0 rfl) rfl rfl rfl rfl rfl ?_
          refine o_s (.t (.d (.lit (.bool false)))) (g0 rfl) rfl rfl rfl ?_
          refine o_skip rfl rfl rfl rfl rfl rfl ?_
          refine o_skip rfl rfl rfl rfl rfl rfl ?_
          refine o_skip rfl rfl rfl rfl rfl rfl ?_
          refine o_skip rfl rfl rfl rfl rfl rfl ?_
          refine o_skip rfl rfl rfl rfl rfl rfl ?_
          refine o_pk (.t (.d (.lit (.bool false)))) (b := false) rfl (g0 rfl) rfl rfl rfl rfl rfl ?_
          refine o_s (.t (.d (.lit (.bool false)))) (g0 rfl) rfl rfl rfl ?_
          refine o_nil ?_
          repeat (first | refine then_normal ?_ | refine then_exit ?_ | refine then_ret ?_ | refine block_normal ?_ | refine block_ret ?_ | refine block_exit ?_ | refine block_pass rfl ?_)
          refine c_ret ?_
          repeat (first | refine then_normal ?_ | refine then_exit ?_ | refine then_ret ?_ | refine block_normal ?_ | refine block_ret ?_ | refine block_exit ?_ | refine block_pass rfl ?_)
          obtain rfl := Option.some.inj h
          exact ⟨⟨_, rfl, (.refl _)⟩, ⟨rfl, trivial⟩, rfl⟩

end Go.Proofs.YtimdogdplphmoaaDoor
