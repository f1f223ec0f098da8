/-
  Walks of functions: each function does what its model tells. Printed by a program of this claim's own (gen.py) off the given translation.
-/
import Derived.Test.YtimdogdplphmoacMfM
import Derived.Test.YtimdogdplphmoacCbW
import Derived.Test.YtimdogdplphmoacMfWa
namespace Go.Proofs.Ytimdogdplphmoac
open Go Go.RowKit
set_option linter.unusedVariables false
set_option maxHeartbeats 4000000
set_option maxRecDepth 20000
theorem fc_R28_May (p0 : S_api_Manifest) (r : Bool) (h : m_R28_May p0 = some r) : FC Try.prog 9 [.t (.agg [.lit (.string ⟨⟨p0.Folder⟩⟩), .lit (.int .i64 p0.Seq), .seq 1 (bytesD p0.Prev), .lit (.string ⟨⟨p0.Parent⟩⟩), .seq 2 (List.map cS_api_Member p0.Members), .lit (.int .i64 p0.Cut), .lit (.bool p0.Gone), .lit (.string ⟨⟨p0.By⟩⟩)])] [] (.t (.d (.lit (.bool r)))) := by
  refine fc_mk (rs := [.tmp 2]) (n := 80) Try.func9 rfl rfl (Nat.le_of_ble_eq_true rfl) rfl (pins := []) rfl (L := [(0, .t (.agg [.lit (.string ⟨⟨p0.Folder⟩⟩), .lit (.int .i64 p0.Seq), .seq 1 (bytesD p0.Prev), .lit (.string ⟨⟨p0.Parent⟩⟩), .seq 2 (List.map cS_api_Member p0.Members), .lit (.int .i64 p0.Cut), .lit (.bool p0.Gone), .lit (.string ⟨⟨p0.By⟩⟩)]))]) rfl ?_
  refine c_seq ?_
  refine c_region ?_
  refine o_s (.box [.d (.lit (.string ⟨⟨p0.Folder⟩⟩)), .d (.lit (.int .i64 p0.Seq)), .d (.seq 1 (bytesD p0.Prev)), .d (.lit (.string ⟨⟨p0.Parent⟩⟩)), .d (.seq 2 (List.map cS_api_Member p0.Members)), .d (.lit (.int .i64 p0.Cut)), .d (.lit (.bool p0.Gone)), .d (.lit (.string ⟨⟨p0.By⟩⟩))]) (g0 rfl) rfl rfl rfl ?_
  refine o_s (.t (.d (.lit (.bool false)))) (g0 rfl) rfl rfl rfl ?_
  refine o_nil ?_
  repeat (first | refine then_normal ?_ | refine then_exit ?_ | refine then_ret ?_ | refine block_normal ?_ | refine block_ret ?_ | refine block_exit ?_ | refine block_pass rfl ?_)
  refine c_seq ?_
  refine c_seq ?_
  refine c_region ?_
  refine o_s (.ref 1 0) (g0 rfl) rfl rfl rfl ?_
  refine o_s (.t (.d (.lit (.string ⟨⟨p0.Folder⟩⟩)))) (g0 rfl) rfl rfl rfl ?_
  obtain ⟨x1, h2, h⟩ := bind_some h
  refine o_ca (fc_R25_Name _ _ h2) (g0 rfl) rfl rfl rfl rfl rfl rfl rfl (.cons (.refl _) .nil) rfl rfl ?_
  refine o_s (.t (.d (.lit (.bool (!x1))))) (g0 rfl) rfl rfl rfl ?_
  refine o_s (.t (.d (.lit (.bool (!x1))))) (g0 rfl) rfl rfl rfl ?_
  rcases bif_some h with ⟨h3, h⟩ | ⟨h3, h⟩
  · refine o_skip rfl rfl rfl h3 rfl rfl ?_
    refine o_skip rfl rfl rfl h3 rfl rfl ?_
    refine o_skip rfl rfl rfl h3 rfl rfl ?_
    refine o_skip rfl rfl rfl h3 rfl rfl ?_
    refine o_pk (.t (.d (.lit (.bool true)))) (b := true) h3 (g0 rfl) rfl rfl rfl rfl rfl ?_
    refine o_s (.t (.d (.lit (.bool true)))) (g0 rfl) rfl rfl rfl ?_
    refine o_skip rfl rfl rfl rfl rfl rfl ?_
    refine o_skip rfl rfl rfl rfl rfl rfl ?_
    refine o_skip rfl rfl rfl rfl rfl rfl ?_
    refine o_skip rfl rfl rfl rfl rfl rfl ?_
    refine o_pk (.t (.d (.lit (.bool true)))) (b := true) rfl (g0 rfl) rfl rfl rfl rfl rfl ?_
    refine o_nil ?_
    repeat (first | refine then_normal ?_ | refine then_exit ?_ | refine then_ret ?_ | refine block_normal ?_ | refine block_ret ?_ | refine block_exit ?_ | refine block_pass rfl ?_)
    refine c_t rfl rfl ?_
    refine c_seq ?_
    refine c_region ?_
    refine o_s (.t (.d (.lit (.bool false)))) (g0 rfl) rfl rfl rfl ?_
    refine o_nil ?_
    repeat (first | refine then_normal ?_ | refine then_exit ?_ | refine then_ret ?_ | refine block_normal ?_ | refine block_ret ?_ | refine block_exit ?_ | refine block_pass rfl ?_)
    refine c_ret ?_
    repeat (first | refine then_normal ?_ | refine then_exit ?_ | refine then_ret ?_ | refine block_normal ?_ | refine block_ret ?_ | refine block_exit ?_ | refine block_pass rfl ?_)
    obtain rfl := Option.some.inj h
    exact end0 rfl (.refl _)
  · refine o_s (.ref 1 7) (gy rfl rfl rfl h3) rfl rfl rfl ?_
    refine o_s (.t (.d (.lit (.string ⟨⟨p0.By⟩⟩)))) (gy rfl rfl rfl h3) rfl rfl rfl ?_
    obtain ⟨x4, h5, h⟩ := bind_some h
    refine o_ca (fc_R25_Name _ _ h5) (gy rfl rfl rfl h3) rfl rfl rfl rfl rfl rfl rfl (.cons (.refl _) .nil) rfl rfl ?_
    refine o_s (.t (.d (.lit (.bool (!x4))))) (gy rfl rfl rfl h3) rfl rfl rfl ?_
    refine o_pk (.t (.d (.lit (.bool (!x4))))) (b := false) h3 (g0 rfl) rfl rfl rfl rfl rfl ?_
    refine o_s (.t (.d (.lit (.bool (!x4))))) (g0 rfl) rfl rfl rfl ?_
    rcases bif_some h with ⟨h6, h⟩ | ⟨h6, h⟩
    · refine o_skip rfl rfl rfl h6 rfl rfl ?_
      refine o_skip rfl rfl rfl h6 rfl rfl ?_
      refine o_skip rfl rfl rfl h6 rfl rfl ?_
      refine o_skip rfl rfl rfl h6 rfl rfl ?_
      refine o_pk (.t (.d (.lit (.bool true)))) (b := true) h6 (g0 rfl) rfl rfl rfl rfl rfl ?_
      refine o_nil ?_
      repeat (first | refine then_normal ?_ | refine then_exit ?_ | refine then_ret ?_ | refine block_normal ?_ | refine block_ret ?_ | refine block_exit ?_ | refine block_pass rfl ?_)
      refine c_t rfl rfl ?_
      refine c_seq ?_
      refine c_region ?_
      refine o_s (.t (.d (.lit (.bool false)))) (g0 rfl) rfl rfl rfl ?_
      refine o_nil ?_
      repeat (first | refine then_normal ?_ | refine then_exit ?_ | refine then_ret ?_ | refine block_normal ?_ | refine block_ret ?_ | refine block_exit ?_ | refine block_pass rfl ?_)
      refine c_ret ?_
      repeat (first | refine then_normal ?_ | refine then_exit ?_ | refine then_ret ?_ | refine block_normal ?_ | refine block_ret ?_ | refine block_exit ?_ | refine block_pass rfl ?_)
      obtain rfl := Option.some.inj h
      exact end0 rfl (.refl _)
    · refine o_s (.ref 1 4) (gy rfl rfl rfl h6) rfl rfl rfl ?_
      refine o_s (.t (.d (.seq 2 (List.map cS_api_Member p0.Members)))) (gy rfl rfl rfl h6) rfl rfl rfl ?_
      obtain ⟨x7, h8, h⟩ := bind_some h
      refine o_ca (fc_R27_Right _ _ h8) (gy rfl rfl rfl h6) rfl rfl rfl rfl rfl rfl rfl (.cons (.refl _) .nil) rfl rfl ?_
      refine o_s (.t (.d (.lit (.bool (!x7))))) (gy rfl rfl rfl h6) rfl rfl rfl ?_
      refine o_pk (.t (.d (.lit (.bool (!x7))))) (b := false) h6 (g0 rfl) rfl rfl rfl rfl rfl ?_
      refine o_nil ?_
      repeat (first | refine then_normal ?_ | refine then_exit ?_ | refine then_ret ?_ | refine block_normal ?_ | refine block_ret ?_ | refine block_exit ?_ | refine block_pass rfl ?_)
      rcases bif_some h with ⟨h9, h⟩ | ⟨h9, h⟩
      · refine c_t h9 rfl ?_
        refine c_seq ?_
        refine c_region ?_
        refine o_s (.t (.d (.lit (.bool false)))) (g0 rfl) rfl rfl rfl ?_
        refine o_nil ?_
        repeat (first | refine then_normal ?_ | refine then_exit ?_ | refine then_ret ?_ | refine block_normal ?_ | refine block_ret ?_ | refine block_exit ?_ | refine block_pass rfl ?_)
        refine c_ret ?_
        repeat (first | refine then_normal ?_ | refine then_exit ?_ | refine then_ret ?_ | refine block_normal ?_ | refine block_ret ?_ | refine block_exit ?_ | refine block_pass rfl ?_)
        obtain rfl := Option.some.inj h
        exact end0 rfl (.refl _)
      · refine c_f h9 rfl ?_
        refine c_skip ?_
        repeat (first | refine then_normal ?_ | refine then_exit ?_ | refine then_ret ?_ | refine block_normal ?_ | refine block_ret ?_ | refine block_exit ?_ | refine block_pass rfl ?_)
        refine c_seq ?_
        refine c_seq ?_
        refine c_region ?_
        refine o_s (.ref 1 1) (g0 rfl) rfl rfl rfl ?_
        refine o_s (.t (.d (.lit (.int .i64 p0.Seq)))) (g0 rfl) rfl rfl rfl ?_
        refine o_s (.t (.d (.lit (.bool (decide (p0.Seq < 1)))))) (g0 rfl) rfl rfl rfl ?_
        refine o_s (.t (.d (.lit (.bool (decide (p0.Seq < 1)))))) (g0 rfl) rfl rfl rfl ?_
        rcases bif_some h with ⟨h10, h⟩ | ⟨h10, h⟩
        · refine o_skip rfl rfl rfl h10 rfl rfl ?_
          refine o_skip rfl rfl rfl h10 rfl rfl ?_
          refine o_skip rfl rfl rfl h10 rfl rfl ?_
          refine o_pk (.t (.d (.lit (.bool true)))) (b := true) h10 (g0 rfl) rfl rfl rfl rfl rfl ?_
          refine o_s (.t (.d (.lit (.bool true)))) (g0 rfl) rfl rfl rfl ?_
          refine o_skip rfl rfl rfl rfl rfl rfl ?_
          refine o_skip rfl rfl rfl rfl rfl rfl ?_
          refine o_skip rfl rfl rfl rfl rfl rfl ?_
          refine o_pk (.t (.d (.lit (.bool true)))) (b := true) rfl (g0 rfl) rfl rfl rfl rfl rfl ?_
          refine o_s (.t (.d (.lit (.bool true)))) (g0 rfl) rfl rfl rfl ?_
          refine o_skip rfl rfl rfl rfl rfl rfl ?_
          refine o_skip rfl rfl rfl rfl rfl rfl ?_
          refine o_skip rfl rfl rfl rfl rfl rfl ?_
          refine o_skip rfl rfl rfl rfl rfl rfl ?_
          refine o_skip rfl rfl rfl rfl rfl rfl ?_
          refine o_pk (.t (.d (.lit (.bool true)))) (b := true) rfl (g0 rfl) rfl rfl rfl rfl rfl ?_
          refine o_nil ?_
          repeat (first | refine then_normal ?_ | refine then_exit ?_ | refine then_ret ?_ | refine block_normal ?_ | refine block_ret ?_ | refine block_exit ?_ | refine block_pass rfl ?_)
          refine c_t rfl rfl ?_
          refine c_seq ?_
          refine c_region ?_
          refine o_s (.t (.d (.lit (.bool false)))) (g0 rfl) rfl rfl rfl ?_
          refine o_nil ?_
          repeat (first | refine then_normal ?_ | refine then_exit ?_ | refine then_ret ?_ | refine block_normal ?_ | refine block_ret ?_ | refine block_exit ?_ | refine block_pass rfl ?_)
          refine c_ret ?_
          repeat (first | refine then_normal ?_ | refine then_exit ?_ | refine then_ret ?_ | refine block_normal ?_ | refine block_ret ?_ | refine block_exit ?_ | refine block_pass rfl ?_)
          obtain rfl := Option.some.inj h
          exact end0 rfl (.refl _)
        · refine o_s (.ref 1 1) (gy rfl rfl rfl h10) rfl rfl rfl ?_
          refine o_s (.t (.d (.lit (.int .i64 p0.Seq)))) (gy rfl rfl rfl h10) rfl rfl rfl ?_
          refine o_s (.t (.d (.lit (.bool (decide (p0.Seq > 1099511627776)))))) (gy rfl rfl rfl h10) rfl rfl rfl ?_
          refine o_pk (.t (.d (.lit (.bool (decide (p0.Seq > 1099511627776)))))) (b := false) h10 (g0 rfl) rfl rfl rfl rfl rfl ?_
          refine o_s (.t (.d (.lit (.bool (decide (p0.Seq > 1099511627776)))))) (g0 rfl) rfl rfl rfl ?_
          rcases bif_some h with ⟨h11, h⟩ | ⟨h11, h⟩
          · refine o_skip rfl rfl rfl h11 rfl rfl ?_
            refine o_skip rfl rfl rfl h11 rfl rfl ?_
            refine o_skip rfl rfl rfl h11 rfl rfl ?_
            refine o_pk (.t (.d (.lit (.bool true)))) (b := true) h11 (g0 rfl) rfl rfl rfl rfl rfl ?_
            refine o_s (.t (.d (.lit (.bool true)))) (g0 rfl) rfl rfl rfl ?_
            refine o_skip rfl rfl rfl rfl rfl rfl ?_
            refine o_skip rfl rfl rfl rfl rfl rfl ?_
            refine o_skip rfl rfl rfl rfl rfl rfl ?_
            refine o_skip rfl rfl rfl rfl rfl rfl ?_
            refine o_skip rfl rfl rfl rfl rfl rfl ?_
            refine o_pk (.t (.d (.lit (.bool true)))) (b := true) rfl (g0 rfl) rfl rfl rfl rfl rfl ?_
            refine o_nil ?_
            repeat (first | refine then_normal ?_ | refine then_exit ?_ | refine then_ret ?_ | refine block_normal ?_ | refine block_ret ?_ | refine block_exit ?_ | refine block_pass rfl ?_)
            refine c_t rfl rfl ?_
            refine c_seq ?_
            refine c_region ?_
            refine o_s (.t (.d (.lit (.bool false)))) (g0 rfl) rfl rfl rfl ?_
            refine o_nil ?_
            repeat (first | refine then_normal ?_ | refine then_exit ?_ | refine then_ret ?_ | refine block_normal ?_ | refine block_ret ?_ | refine block_exit ?_ | refine block_pass rfl ?_)
            refine c_ret ?_
            repeat (first | refine then_normal ?_ | refine then_exit ?_ | refine then_ret ?_ | refine block_normal ?_ | refine block_ret ?_ | refine block_exit ?_ | refine block_pass rfl ?_)
            obtain rfl := Option.some.inj h
            exact end0 rfl (.refl _)
          · refine o_s (.ref 1 5) (gy rfl rfl rfl h11) rfl rfl rfl ?_
            refine o_s (.t (.d (.lit (.int .i64 p0.Cut)))) (gy rfl rfl rfl h11) rfl rfl rfl ?_
            refine o_s (.t (.d (.lit (.bool (decide (p0.Cut < 0)))))) (gy rfl rfl rfl h11) rfl rfl rfl ?_
            refine o_pk (.t (.d (.lit (.bool (decide (p0.Cut < 0)))))) (b := false) h11 (g0 rfl) rfl rfl rfl rfl rfl ?_
            refine o_s (.t (.d (.lit (.bool (decide (p0.Cut < 0)))))) (g0 rfl) rfl rfl rfl ?_
            rcases bif_some h with ⟨h12, h⟩ | ⟨h12, h⟩
            · refine o_skip rfl rfl rfl h12 rfl rfl ?_
              refine o_skip rfl rfl rfl h12 rfl rfl ?_
              refine o_skip rfl rfl rfl h12 rfl rfl ?_
              refine o_skip rfl rfl rfl h12 rfl rfl ?_
              refine o_skip rfl rfl rfl h12 rfl rfl ?_
              refine o_pk (.t (.d (.lit (.bool true)))) (b := true) h12 (g0 rfl) rfl rfl rfl rfl rfl ?_
              refine o_nil ?_
              repeat (first | refine then_normal ?_ | refine then_exit ?_ | refine then_ret ?_ | refine block_normal ?_ | refine block_ret ?_ | refine block_exit ?_ | refine block_pass rfl ?_)
              refine c_t rfl rfl ?_
              refine c_seq ?_
              refine c_region ?_
              refine o_s (.t (.d (.lit (.bool false)))) (g0 rfl) rfl rfl rfl ?_
              refine o_nil ?_
              repeat (first | refine then_normal ?_ | refine then_exit ?_ | refine then_ret ?_ | refine block_normal ?_ | refine block_ret ?_ | refine block_exit ?_ | refine block_pass rfl ?_)
              refine c_ret ?_
              repeat (first | refine then_normal ?_ | refine then_exit ?_ | refine then_ret ?_ | refine block_normal ?_ | refine block_ret ?_ | refine block_exit ?_ | refine block_pass rfl ?_)
              obtain rfl := Option.some.inj h
              exact end0 rfl (.refl _)
            · refine o_s (.ref 1 5) (gy rfl rfl rfl h12) rfl rfl rfl ?_
              refine o_s (.t (.d (.lit (.int .i64 p0.Cut)))) (gy rfl rfl rfl h12) rfl rfl rfl ?_
              refine o_s (.ref 1 1) (gy rfl rfl rfl h12) rfl rfl rfl ?_
              refine o_s (.t (.d (.lit (.int .i64 p0.Seq)))) (gy rfl rfl rfl h12) rfl rfl rfl ?_
              refine o_s (.t (.d (.lit (.bool (decide (p0.Cut > p0.Seq)))))) (gy rfl rfl rfl h12) rfl rfl rfl ?_
              refine o_pk (.t (.d (.lit (.bool (decide (p0.Cut > p0.Seq)))))) (b := false) h12 (g0 rfl) rfl rfl rfl rfl rfl ?_
              refine o_nil ?_
              repeat (first | refine then_normal ?_ | refine then_exit ?_ | refine then_ret ?_ | refine block_normal ?_ | refine block_ret ?_ | refine block_exit ?_ | refine block_pass rfl ?_)
              rcases bif_some h with ⟨h13, h⟩ | ⟨h13, h⟩
              · refine c_t h13 rfl ?_
                refine c_seq ?_
                refine c_region ?_
                refine o_s (.t (.d (.lit (.bool false)))) (g0 rfl) rfl rfl rfl ?_
                refine o_nil ?_
                repeat (first | refine then_normal ?_ | refine then_exit ?_ | refine then_ret ?_ | refine block_normal ?_ | refine block_ret ?_ | refine block_exit ?_ | refine block_pass rfl ?_)
                refine c_ret ?_
                repeat (first | refine then_normal ?_ | refine then_exit ?_ | refine then_ret ?_ | refine block_normal ?_ | refine block_ret ?_ | refine block_exit ?_ | refine block_pass rfl ?_)
                obtain rfl := Option.some.inj h
                exact end0 rfl (.refl _)
              · refine c_f h13 rfl ?_
                refine c_skip ?_
                repeat (first | refine then_normal ?_ | refine then_exit ?_ | refine then_ret ?_ | refine block_normal ?_ | refine block_ret ?_ | refine block_exit ?_ | refine block_pass rfl ?_)
                refine c_cut (fun (_ : Unit) => [(1, .box [.d (.lit (.string ⟨⟨p0.Folder⟩⟩)), .d (.lit (.int .i64 p0.Seq)), .d (.seq 1 (bytesD p0.Prev)), .d (.lit (.string ⟨⟨p0.Parent⟩⟩)), .d (.seq 2 (List.map cS_api_Member p0.Members)), .d (.lit (.int .i64 p0.Cut)), .d (.lit (.bool p0.Gone)), .d (.lit (.string ⟨⟨p0.By⟩⟩))])]) (fun (_ : Unit) => m_R28_May_j1 p0 = some r) ?_ ?_
                · refine c_seq ?_
                  refine c_region ?_
                  refine o_s (.ref 1 1) (g0 rfl) rfl rfl rfl ?_
                  refine o_s (.t (.d (.lit (.int .i64 p0.Seq)))) (g0 rfl) rfl rfl rfl ?_
                  refine o_s (.t (.d (.lit (.bool (p0.Seq == 1))))) (g0 rfl) rfl rfl rfl ?_
                  refine o_s (.t (.d (.lit (.bool (p0.Seq == 1))))) (g0 rfl) rfl rfl rfl ?_
                  rcases bif_some h with ⟨h18, h⟩ | ⟨h18, h⟩
                  · refine o_s (.ref 1 2) (gy rfl rfl rfl h18) rfl rfl rfl ?_
                    refine o_s (.t (.d (.seq 1 (bytesD p0.Prev)))) (gy rfl rfl rfl h18) rfl rfl rfl ?_
                    refine o_c (gy rfl rfl rfl h18) rfl rfl rfl (lenE _ _) trivial ?_
                    refine o_s (.t (.d (.lit (.bool (decide ((p0.Prev.length : Int) > 0)))))) (gy rfl rfl rfl h18) rfl rfl rfl ?_
                    refine o_pk (.t (.d (.lit (.bool (decide ((p0.Prev.length : Int) > 0)))))) (b := true) h18 (g0 rfl) rfl rfl rfl rfl rfl ?_
                    refine o_s (.t (.d (.lit (.bool (decide ((p0.Prev.length : Int) > 0)))))) (g0 rfl) rfl rfl rfl ?_
                    rcases bif_some h with ⟨h19, h⟩ | ⟨h19, h⟩
                    · refine o_skip rfl rfl rfl h19 rfl rfl ?_
                      refine o_skip rfl rfl rfl h19 rfl rfl ?_
                      refine o_skip rfl rfl rfl h19 rfl rfl ?_
                      refine o_skip rfl rfl rfl h19 rfl rfl ?_
                      refine o_un rfl rfl rfl rfl rfl ?_
                      refine o_un rfl rfl rfl rfl rfl ?_
                      refine o_un rfl rfl rfl rfl rfl ?_
                      refine o_un rfl rfl rfl rfl rfl ?_
                      refine o_un rfl rfl rfl rfl rfl ?_
                      refine o_un rfl rfl rfl rfl rfl ?_
                      refine o_un rfl rfl rfl rfl rfl ?_
                      refine o_un rfl rfl rfl rfl rfl ?_
                      refine o_un rfl rfl rfl rfl rfl ?_
                      refine o_un rfl rfl rfl rfl rfl ?_
                      refine o_skip rfl rfl rfl h19 rfl rfl ?_
                      refine o_pk (.t (.d (.lit (.bool true)))) (b := true) h19 (g0 rfl) rfl rfl rfl rfl rfl ?_
                      refine o_nil ?_
                      repeat (first | refine then_normal ?_ | refine then_exit ?_ | refine then_ret ?_ | refine block_normal ?_ | refine block_ret ?_ | refine block_exit ?_ | refine block_pass rfl ?_)
                      refine c_t rfl rfl ?_
                      refine c_seq ?_
                      refine c_region ?_
                      refine o_s (.t (.d (.lit (.bool false)))) (g0 rfl) rfl rfl rfl ?_
                      refine o_nil ?_
                      repeat (first | refine then_normal ?_ | refine then_exit ?_ | refine then_ret ?_ | refine block_normal ?_ | refine block_ret ?_ | refine block_exit ?_ | refine block_pass rfl ?_)
                      refine c_ret ?_
                      repeat (first | refine then_normal ?_ | refine then_exit ?_ | refine then_ret ?_ | refine block_normal ?_ | refine block_ret ?_ | refine block_exit ?_ | refine block_pass rfl ?_)
                      obtain rfl := Option.some.inj h
                      exact end0 rfl (.refl _)
                    · refine o_s (.ref 1 1) (gy rfl rfl rfl h19) rfl rfl rfl ?_
                      refine o_s (.t (.d (.lit (.int .i64 p0.Seq)))) (gy rfl rfl rfl h19) rfl rfl rfl ?_
                      refine o_s (.t (.d (.lit (.bool (decide (p0.Seq > 1)))))) (gy rfl rfl rfl h19) rfl rfl rfl ?_
                      refine o_s (.t (.d (.lit (.bool (decide (p0.Seq > 1)))))) (gy rfl rfl rfl h19) rfl rfl rfl ?_
                      rcases bif_some h with ⟨h20, h⟩ | ⟨h20, h⟩
                      · refine o_s (.ref 1 2) (gy rfl rfl rfl h20) rfl rfl rfl ?_
                        refine o_s (.t (.d (.seq 1 (bytesD p0.Prev)))) (gy rfl rfl rfl h20) rfl rfl rfl ?_
                        refine o_c (gy rfl rfl rfl h20) rfl rfl rfl (lenE _ _) trivial ?_
                        refine o_s (.t (.d (.lit (.bool ((p0.Prev.length : Int) == 0))))) (gy rfl rfl rfl h20) rfl rfl rfl ?_
                        refine o_s (.t (.d (.lit (.bool ((p0.Prev.length : Int) == 0))))) (gy rfl rfl rfl h20) rfl rfl rfl ?_
                        rcases bif_some h with ⟨h21, h⟩ | ⟨h21, h⟩
                        · refine o_skip rfl rfl rfl h21 rfl rfl ?_
                          refine o_skip rfl rfl rfl h21 rfl rfl ?_
                          refine o_skip rfl rfl rfl h21 rfl rfl ?_
                          refine o_skip rfl rfl rfl h21 rfl rfl ?_
                          refine o_pk (.t (.d (.lit (.bool true)))) (b := true) h21 (gy rfl rfl rfl h20) rfl rfl rfl rfl rfl ?_
                          refine o_pk (.t (.d (.lit (.bool true)))) (b := true) h20 (gy rfl rfl rfl h19) rfl rfl rfl rfl rfl ?_
                          refine o_pk (.t (.d (.lit (.bool true)))) (b := false) h19 (g0 rfl) rfl rfl rfl rfl rfl ?_
                          refine o_nil ?_
                          repeat (first | refine then_normal ?_ | refine then_exit ?_ | refine then_ret ?_ | refine block_normal ?_ | refine block_ret ?_ | refine block_exit ?_ | refine block_pass rfl ?_)
                          refine c_t rfl rfl ?_
                          refine c_seq ?_
                          refine c_region ?_
                          refine o_s (.t (.d (.lit (.bool false)))) (g0 rfl) rfl rfl rfl ?_
                          refine o_nil ?_
                          repeat (first | refine then_normal ?_ | refine then_exit ?_ | refine then_ret ?_ | refine block_normal ?_ | refine block_ret ?_ | refine block_exit ?_ | refine block_pass rfl ?_)
                          refine c_ret ?_
                          repeat (first | refine then_normal ?_ | refine then_exit ?_ | refine then_ret ?_ | refine block_normal ?_ | refine block_ret ?_ | refine block_exit ?_ | refine block_pass rfl ?_)
                          obtain rfl := Option.some.inj h
                          exact end0 rfl (.refl _)
                        · refine o_s (.ref 1 2) (gy rfl rfl rfl h21) rfl rfl rfl ?_
                          refine o_s (.t (.d (.seq 1 (bytesD p0.Prev)))) (gy rfl rfl rfl h21) rfl rfl rfl ?_
                          refine o_c (gy rfl rfl rfl h21) rfl rfl rfl (lenE _ _) trivial ?_
                          refine o_s (.t (.d (.lit (.bool (decide ((p0.Prev.length : Int) > 64)))))) (gy rfl rfl rfl h21) rfl rfl rfl ?_
                          refine o_pk (.t (.d (.lit (.bool (decide ((p0.Prev.length : Int) > 64)))))) (b := false) h21 (gy rfl rfl rfl h20) rfl rfl rfl rfl rfl ?_
                          refine o_pk (.t (.d (.lit (.bool (decide ((p0.Prev.length : Int) > 64)))))) (b := true) h20 (gy rfl rfl rfl h19) rfl rfl rfl rfl rfl ?_
                          refine o_pk (.t (.d (.lit (.bool (decide ((p0.Prev.length : Int) > 64)))))) (b := false) h19 (g0 rfl) rfl rfl rfl rfl rfl ?_
                          refine o_nil ?_
                          repeat (first | refine then_normal ?_ | refine then_exit ?_ | refine then_ret ?_ | refine block_normal ?_ | refine block_ret ?_ | refine block_exit ?_ | refine block_pass rfl ?_)
                          rcases bif_some h with ⟨h22, h⟩ | ⟨h22, h⟩
                          · refine c_t h22 rfl ?_
                            refine c_seq ?_
                            refine c_region ?_
                            refine o_s (.t (.d (.lit (.bool false)))) (g0 rfl) rfl rfl rfl ?_
                            refine o_nil ?_
                            repeat (first | refine then_normal ?_ | refine then_exit ?_ | refine then_ret ?_ | refine block_normal ?_ | refine block_ret ?_ | refine block_exit ?_ | refine block_pass rfl ?_)
                            refine c_ret ?_
                            repeat (first | refine then_normal ?_ | refine then_exit ?_ | refine then_ret ?_ | refine block_normal ?_ | refine block_ret ?_ | refine block_exit ?_ | refine block_pass rfl ?_)
                            obtain rfl := Option.some.inj h
                            exact end0 rfl (.refl _)
                          · refine c_f h22 rfl ?_
                            refine c_skip ?_
                            repeat (first | refine then_normal ?_ | refine then_exit ?_ | refine then_ret ?_ | refine block_normal ?_ | refine block_ret ?_ | refine block_exit ?_ | refine block_pass rfl ?_)
                            exact ⟨(), h, ⟨(.refl _), trivial⟩, rfl⟩
                      · refine o_skip rfl rfl rfl h20 rfl rfl ?_
                        refine o_skip rfl rfl rfl h20 rfl rfl ?_
                        refine o_skip rfl rfl rfl h20 rfl rfl ?_
                        refine o_skip rfl rfl rfl h20 rfl rfl ?_
                        refine o_skip rfl rfl rfl h20 rfl rfl ?_
                        refine o_un rfl rfl rfl rfl rfl ?_
                        refine o_un rfl rfl rfl rfl rfl ?_
                        refine o_un rfl rfl rfl rfl rfl ?_
                        refine o_un rfl rfl rfl rfl rfl ?_
                        refine o_skip rfl rfl rfl h20 rfl rfl ?_
                        refine o_pk (.t (.d (.lit (.bool false)))) (b := false) h20 (gy rfl rfl rfl h19) rfl rfl rfl rfl rfl ?_
                        refine o_pk (.t (.d (.lit (.bool false)))) (b := false) h19 (g0 rfl) rfl rfl rfl rfl rfl ?_
                        refine o_nil ?_
                        repeat (first | refine then_normal ?_ | refine then_exit ?_ | refine then_ret ?_ | refine block_normal ?_ | refine block_ret ?_ | refine block_exit ?_ | refine block_pass rfl ?_)
                        refine c_f rfl rfl ?_
                        refine c_skip ?_
                        repeat (first | refine then_normal ?_ | refine then_exit ?_ | refine then_ret ?_ | refine block_normal ?_ | refine block_ret ?_ | refine block_exit ?_ | refine block_pass rfl ?_)
                        exact ⟨(), h, ⟨(.refl _), trivial⟩, rfl⟩
                  · refine o_skip rfl rfl rfl h18 rfl rfl ?_
                    refine o_skip rfl rfl rfl h18 rfl rfl ?_
                    refine o_skip rfl rfl rfl h18 rfl rfl ?_
                    refine o_skip rfl rfl rfl h18 rfl rfl ?_
                    refine o_pk (.t (.d (.lit (.bool false)))) (b := false) h18 (g0 rfl) rfl rfl rfl rfl rfl ?_
                    refine o_s (.t (.d (.lit (.bool false)))) (g0 rfl) rfl rfl rfl ?_
                    refine o_s (.ref 1 1) (gy rfl rfl rfl rfl) rfl rfl rfl ?_
                    refine o_s (.t (.d (.lit (.int .i64 p0.Seq)))) (gy rfl rfl rfl rfl) rfl rfl rfl ?_
                    refine o_s (.t (.d (.lit (.bool (decide (p0.Seq > 1)))))) (gy rfl rfl rfl rfl) rfl rfl rfl ?_
                    refine o_s (.t (.d (.lit (.bool (decide (p0.Seq > 1)))))) (gy rfl rfl rfl rfl) rfl rfl rfl ?_
                    rcases bif_some h with ⟨h23, h⟩ | ⟨h23, h⟩
                    · refine o_s (.ref 1 2) (gy rfl rfl rfl h23) rfl rfl rfl ?_
                      refine o_s (.t (.d (.seq 1 (bytesD p0.Prev)))) (gy rfl rfl rfl h23) rfl rfl rfl ?_
                      refine o_c (gy rfl rfl rfl h23) rfl rfl rfl (lenE _ _) trivial ?_
                      refine o_s (.t (.d (.lit (.bool ((p0.Prev.length : Int) == 0))))) (gy rfl rfl rfl h23) rfl rfl rfl ?_
                      refine o_s (.t (.d (.lit (.bool ((p0.Prev.length : Int) == 0))))) (gy rfl rfl rfl h23) rfl rfl rfl ?_
                      rcases bif_some h with ⟨h24, h⟩ | ⟨h24, h⟩
                      · refine o_skip rfl rfl rfl h24 rfl rfl ?_
                        refine o_skip rfl rfl rfl h24 rfl rfl ?_
                        refine o_skip rfl rfl rfl h24 rfl rfl ?_
                        refine o_skip rfl rfl rfl h24 rfl rfl ?_
                        refine o_pk (.t (.d (.lit (.bool true)))) (b := true) h24 (gy rfl rfl rfl h23) rfl rfl rfl rfl rfl ?_
                        refine o_pk (.t (.d (.lit (.bool true)))) (b := true) h23 (gy rfl rfl rfl rfl) rfl rfl rfl rfl rfl ?_
                        refine o_pk (.t (.d (.lit (.bool true)))) (b := false) rfl (g0 rfl) rfl rfl rfl rfl rfl ?_
                        refine o_nil ?_
                        repeat (first | refine then_normal ?_ | refine then_exit ?_ | refine then_ret ?_ | refine block_normal ?_ | refine block_ret ?_ | refine block_exit ?_ | refine block_pass rfl ?_)
                        refine c_t rfl rfl ?_
                        refine c_seq ?_
                        refine c_region ?_
                        refine o_s (.t (.d (.lit (.bool false)))) (g0 rfl) rfl rfl rfl ?_
                        refine o_nil ?_
                        repeat (first | refine then_normal ?_ | refine then_exit ?_ | refine then_ret ?_ | refine block_normal ?_ | refine block_ret ?_ | refine block_exit ?_ | refine block_pass rfl ?_)
                        refine c_ret ?_
                        repeat (first | refine then_normal ?_ | refine then_exit ?_ | refine then_ret ?_ | refine block_normal ?_ | refine block_ret ?_ | refine block_exit ?_ | refine block_pass rfl ?_)
                        obtain rfl := Option.some.inj h
                        exact end0 rfl (.refl _)
                      · refine o_s (.ref 1 2) (gy rfl rfl rfl h24) rfl rfl rfl ?_
                        refine o_s (.t (.d (.seq 1 (bytesD p0.Prev)))) (gy rfl rfl rfl h24) rfl rfl rfl ?_
                        refine o_c (gy rfl rfl rfl h24) rfl rfl rfl (lenE _ _) trivial ?_
                        refine o_s (.t (.d (.lit (.bool (decide ((p0.Prev.length : Int) > 64)))))) (gy rfl rfl rfl h24) rfl rfl rfl ?_
                        refine o_pk (.t (.d (.lit (.bool (decide ((p0.Prev.length : Int) > 64)))))) (b := false) h24 (gy rfl rfl rfl h23) rfl rfl rfl rfl rfl ?_
                        refine o_pk (.t (.d (.lit (.bool (decide ((p0.Prev.length : Int) > 64)))))) (b := true) h23 (gy rfl rfl rfl rfl) rfl rfl rfl rfl rfl ?_
                        refine o_pk (.t (.d (.lit (.bool (decide ((p0.Prev.length : Int) > 64)))))) (b := false) rfl (g0 rfl) rfl rfl rfl rfl rfl ?_
                        refine o_nil ?_
                        repeat (first | refine then_normal ?_ | refine then_exit ?_ | refine then_ret ?_ | refine block_normal ?_ | refine block_ret ?_ | refine block_exit ?_ | refine block_pass rfl ?_)
                        rcases bif_some h with ⟨h25, h⟩ | ⟨h25, h⟩
                        · refine c_t h25 rfl ?_
                          refine c_seq ?_
                          refine c_region ?_
                          refine o_s (.t (.d (.lit (.bool false)))) (g0 rfl) rfl rfl rfl ?_
                          refine o_nil ?_
                          repeat (first | refine then_normal ?_ | refine then_exit ?_ | refine then_ret ?_ | refine block_normal ?_ | refine block_ret ?_ | refine block_exit ?_ | refine block_pass rfl ?_)
                          refine c_ret ?_
                          repeat (first | refine then_normal ?_ | refine then_exit ?_ | refine then_ret ?_ | refine block_normal ?_ | refine block_ret ?_ | refine block_exit ?_ | refine block_pass rfl ?_)
                          obtain rfl := Option.some.inj h
                          exact end0 rfl (.refl _)
                        · refine c_f h25 rfl ?_
                          refine c_skip ?_
                          repeat (first | refine then_normal ?_ | refine then_exit ?_ | refine then_ret ?_ | refine block_normal ?_ | refine block_ret ?_ | refine block_exit ?_ | refine block_pass rfl ?_)
                          exact ⟨(), h, ⟨(.refl _), trivial⟩, rfl⟩
                    · refine o_skip rfl rfl rfl h23 rfl rfl ?_
                      refine o_skip rfl rfl rfl h23 rfl rfl ?_
                      refine o_skip rfl rfl rfl h23 rfl rfl ?_
                      refine o_skip rfl rfl rfl h23 rfl rfl ?_
                      refine o_skip rfl rfl rfl h23 rfl rfl ?_
                      refine o_un rfl rfl rfl rfl rfl ?_
                      refine o_un rfl rfl rfl rfl rfl ?_
                      refine o_un rfl rfl rfl rfl rfl ?_
                      refine o_un rfl rfl rfl rfl rfl ?_
                      refine o_skip rfl rfl rfl h23 rfl rfl ?_
                      refine o_pk (.t (.d (.lit (.bool false)))) (b := false) h23 (gy rfl rfl rfl rfl) rfl rfl rfl rfl rfl ?_
                      refine o_pk (.t (.d (.lit (.bool false)))) (b := false) rfl (g0 rfl) rfl rfl rfl rfl rfl ?_
                      refine o_nil ?_
                      repeat (first | refine then_normal ?_ | refine then_exit ?_ | refine then_ret ?_ | refine block_normal ?_ | refine block_ret ?_ | refine block_exit ?_ | refine block_pass rfl ?_)
                      refine c_f rfl rfl ?_
                      refine c_skip ?_
                      repeat (first | refine then_normal ?_ | refine then_exit ?_ | refine then_ret ?_ | refine block_normal ?_ | refine block_ret ?_ | refine block_exit ?_ | refine block_pass rfl ?_)
                      exact ⟨(), h, ⟨(.refl _), trivial⟩, rfl⟩
                · rintro ⟨⟩ h
                  refine c_seq ?_
                  refine c_region ?_
                  refine o_s (.ref 1 3) (g0 rfl) rfl rfl rfl ?_
                  refine o_s (.t (.d (.lit (.string ⟨⟨p0.Parent⟩⟩)))) (g0 rfl) rfl rfl rfl ?_
                  refine o_c (g0 rfl) rfl rfl rfl (congrArg (fun z => A.t (.d (.lit (.bool z)))) (str_beqL _ _)) trivial ?_
                  refine o_s (.t (.d (.lit (.bool (p0.Parent == []))))) (g0 rfl) rfl rfl rfl ?_
                  rcases bif_some h with ⟨h14, h⟩ | ⟨h14, h⟩
                  · refine o_skip rfl rfl rfl h14 rfl rfl ?_
                    refine o_skip rfl rfl rfl h14 rfl rfl ?_
                    refine o_skip rfl rfl rfl h14 rfl rfl ?_
                    refine o_skip rfl rfl rfl h14 rfl rfl ?_
                    refine o_un rfl rfl rfl rfl rfl ?_
                    refine o_un rfl rfl rfl rfl rfl ?_
                    refine o_un rfl rfl rfl rfl rfl ?_
                    refine o_un rfl rfl rfl rfl rfl ?_
                    refine o_un rfl rfl rfl rfl rfl ?_
                    refine o_skip rfl rfl rfl h14 rfl rfl ?_
                    refine o_pk (.t (.d (.lit (.bool true)))) (b := true) h14 (g0 rfl) rfl rfl rfl rfl rfl ?_
                    refine o_s (.t (.d (.lit (.bool true)))) (g0 rfl) rfl rfl rfl ?_
                    refine o_nil ?_
                    repeat (first | refine then_normal ?_ | refine then_exit ?_ | refine then_ret ?_ | refine block_normal ?_ | refine block_ret ?_ | refine block_exit ?_ | refine block_pass rfl ?_)
                    refine c_ret ?_
                    repeat (first | refine then_normal ?_ | refine then_exit ?_ | refine then_ret ?_ | refine block_normal ?_ | refine block_ret ?_ | refine block_exit ?_ | refine block_pass rfl ?_)
                    obtain rfl := Option.some.inj h
                    exact end0 rfl (.refl _)
                  · refine o_s (.ref 1 3) (gy rfl rfl rfl h14) rfl rfl rfl ?_
                    refine o_s (.t (.d (.lit (.string ⟨⟨p0.Parent⟩⟩)))) (gy rfl rfl rfl h14) rfl rfl rfl ?_
                    obtain ⟨x15, h16, h⟩ := bind_some h
                    refine o_ca (fc_R25_Name _ _ h16) (gy rfl rfl rfl h14) rfl rfl rfl rfl rfl rfl rfl (.cons (.refl _) .nil) rfl rfl ?_
                    refine o_s (.t (.d (.lit (.bool x15)))) (gy rfl rfl rfl h14) rfl rfl rfl ?_
                    rcases bif_some h with ⟨h17, h⟩ | ⟨h17, h⟩
                    · refine o_s (.ref 1 3) (gy rfl rfl rfl h17) rfl rfl rfl ?_
                      refine o_s (.t (.d (.lit (.string ⟨⟨p0.Parent⟩⟩)))) (gy rfl rfl rfl h17) rfl rfl rfl ?_
                      refine o_s (.ref 1 0) (gy rfl rfl rfl h17) rfl rfl rfl ?_
                      refine o_s (.t (.d (.lit (.string ⟨⟨p0.Folder⟩⟩)))) (gy rfl rfl rfl h17) rfl rfl rfl ?_
                      refine o_c (gy rfl rfl rfl h17) rfl rfl rfl (congrArg (fun z => A.t (.d (.lit (.bool (!z))))) (str_beqL _ _)) trivial ?_
                      refine o_pk (.t (.d (.lit (.bool (!(p0.Parent == p0.Folder)))))) (b := true) h17 (gy rfl rfl rfl h14) rfl rfl rfl rfl rfl ?_
                      refine o_pk (.t (.d (.lit (.bool (!(p0.Parent == p0.Folder)))))) (b := false) h14 (g0 rfl) rfl rfl rfl rfl rfl ?_
                      refine o_s (.t (.d (.lit (.bool (!(p0.Parent == p0.Folder)))))) (g0 rfl) rfl rfl rfl ?_
                      refine o_nil ?_
                      repeat (first | refine then_normal ?_ | refine then_exit ?_ | refine then_ret ?_ | refine block_normal ?_ | refine block_ret ?_ | refine block_exit ?_ | refine block_pass rfl ?_)
                      refine c_ret ?_
                      repeat (first | refine then_normal ?_ | refine then_exit ?_ | refine then_ret ?_ | refine block_normal ?_ | refine block_ret ?_ | refine block_exit ?_ | refine block_pass rfl ?_)
                      obtain rfl := Option.some.inj h
                      exact end0 rfl (.refl _)
                    · refine o_skip rfl rfl rfl h17 rfl rfl ?_
                      refine o_skip rfl rfl rfl h17 rfl rfl ?_
                      refine o_skip rfl rfl rfl h17 rfl rfl ?_
                      refine o_skip rfl rfl rfl h17 rfl rfl ?_
                      refine o_skip rfl rfl rfl h17 rfl rfl ?_
                      refine o_pk (.t (.d (.lit (.bool false)))) (b := false) h17 (gy rfl rfl rfl h14) rfl rfl rfl rfl rfl ?_
                      refine o_pk (.t (.d (.lit (.bool false)))) (b := false) h14 (g0 rfl) rfl rfl rfl rfl rfl ?_
                      refine o_s (.t (.d (.lit (.bool false)))) (g0 rfl) rfl rfl rfl ?_
                      refine o_nil ?_
                      repeat (first | refine then_normal ?_ | refine then_exit ?_ | refine then_ret ?_ | refine block_normal ?_ | refine block_ret ?_ | refine block_exit ?_ | refine block_pass rfl ?_)
                      refine c_ret ?_
                      repeat (first | refine then_normal ?_ | refine then_exit ?_ | refine then_ret ?_ | refine block_normal ?_ | refine block_ret ?_ | refine block_exit ?_ | refine block_pass rfl ?_)
                      obtain rfl := Option.some.inj h
                      exact end0 rfl (.refl _)

theorem fc_codec_Fields (p0 : V) (p1 : (List Int)) (r : ((List V) × Bool)) (h : m_codec_Fields p0 p1 = some r) : FC Try.prog 36 [.t (.agg [.lit (.int .i64 p0.k), .lit (.int .i64 p0.n), .seq 1 (bytesD p0.b), .seq 4 (List.map V.cells p0.l)]), .t (.d (.seq 1 (List.map cI64 p1)))] [] (.tup [.d (.seq 4 (List.map V.cells r.1)), .d (.lit (.bool r.2))]) := by
  refine fc_mk (rs := [.tmp 4, .tmp 5]) (n := 42) Try.func36 rfl rfl (Nat.le_of_ble_eq_true rfl) rfl (pins := []) rfl (L := [(0, .t (.agg [.lit (.int .i64 p0.k), .lit (.int .i64 p0.n), .seq 1 (bytesD p0.b), .seq 4 (List.map V.cells p0.l)])), (1, .t (.d (.seq 1 (List.map cI64 p1))))]) rfl ?_
  refine c_seq ?_
  refine c_region ?_
  refine o_s (.box [.d (.lit (.int .i64 p0.k)), .d (.lit (.int .i64 p0.n)), .d (.seq 1 (bytesD p0.b)), .d (.seq 4 (List.map V.cells p0.l))]) (g0 rfl) rfl rfl rfl ?_
  refine o_s (.t (.d (.lit (.slice none 0 0)))) (g0 rfl) rfl rfl rfl ?_
  refine o_s (.t (.d (.lit (.bool false)))) (g0 rfl) rfl rfl rfl ?_
  refine o_nil ?_
  repeat (first | refine then_normal ?_ | refine then_exit ?_ | refine then_ret ?_ | refine block_normal ?_ | refine block_ret ?_ | refine block_exit ?_ | refine block_pass rfl ?_)
  refine c_seq ?_
  refine c_seq ?_
  refine c_region ?_
  refine o_s (.ref 2 0) (g0 rfl) rfl rfl rfl ?_
  refine o_s (.t (.d (.lit (.int .i64 p0.k)))) (g0 rfl) rfl rfl rfl ?_
  refine o_s (.t (.d (.lit (.bool (p0.k != 3))))) (g0 rfl) rfl rfl rfl ?_
  refine o_s (.t (.d (.lit (.bool (p0.k != 3))))) (g0 rfl) rfl rfl rfl ?_
  rcases bif_some h with ⟨h1, h⟩ | ⟨h1, h⟩
  · refine o_skip rfl rfl rfl h1 rfl rfl ?_
    refine o_skip rfl rfl rfl h1 rfl rfl ?_
    refine o_skip rfl rfl rfl h1 rfl rfl ?_
    refine o_skip rfl rfl rfl h1 rfl rfl ?_
    refine o_skip rfl rfl rfl h1 rfl rfl ?_
    refine o_skip rfl rfl rfl h1 rfl rfl ?_
    refine o_pk (.t (.d (.lit (.bool true)))) (b := true) h1 (g0 rfl) rfl rfl rfl rfl rfl ?_
    refine o_nil ?_
    repeat (first | refine then_normal ?_ | refine then_exit ?_ | refine then_ret ?_ | refine block_normal ?_ | refine block_ret ?_ | refine block_exit ?_ | refine block_pass rfl ?_)
    refine c_t rfl rfl ?_
    refine c_seq ?_
    refine c_region ?_
    refine o_s (.t (.d (.lit (.slice none 0 0)))) (g0 rfl) rfl rfl rfl ?_
    refine o_s (.t (.d (.lit (.bool false)))) (g0 rfl) rfl rfl rfl ?_
    refine o_nil ?_
    repeat (first | refine then_normal ?_ | refine then_exit ?_ | refine then_ret ?_ | refine block_normal ?_ | refine block_ret ?_ | refine block_exit ?_ | refine block_pass rfl ?_)
    refine c_ret ?_
    repeat (first | refine then_normal ?_ | refine then_exit ?_ | refine then_ret ?_ | refine block_normal ?_ | refine block_ret ?_ | refine block_exit ?_ | refine block_pass rfl ?_)
    obtain rfl := Option.some.inj h
    exact end0 rfl (.tup (.cons (.d (.nil _)) (.cons (.refl _) .nil)))
  · refine o_s (.ref 2 3) (gy rfl rfl rfl h1) rfl rfl rfl ?_
    refine o_s (.t (.d (.seq 4 (List.map V.cells p0.l)))) (gy rfl rfl rfl h1) rfl rfl rfl ?_
    refine o_c (gy rfl rfl rfl h1) rfl rfl rfl (lenE _ _) trivial ?_
    refine o_s (.t (.d (.seq 1 (List.map cI64 p1)))) (gy rfl rfl rfl h1) rfl rfl rfl ?_
    refine o_c (gy rfl rfl rfl h1) rfl rfl rfl (lenE _ _) trivial ?_
    refine o_s (.t (.d (.lit (.bool ((p0.l.length : Int) != (p1.length : Int)))))) (gy rfl rfl rfl h1) rfl rfl rfl ?_
    refine o_pk (.t (.d (.lit (.bool ((p0.l.length : Int) != (p1.length : Int)))))) (b := false) h1 (g0 rfl) rfl rfl rfl rfl rfl ?_
    refine o_nil ?_
    repeat (first | refine then_normal ?_ | refine then_exit ?_ | refine then_ret ?_ | refine block_normal ?_ | refine block_ret ?_ | refine block_exit ?_ | refine block_pass rfl ?_)
    rcases bif_some h with ⟨h2, h⟩ | ⟨h2, h⟩
    · refine c_t h2 rfl ?_
      refine c_seq ?_
      refine c_region ?_
      refine o_s (.t (.d (.lit (.slice none 0 0)))) (g0 rfl) rfl rfl rfl ?_
      refine o_s (.t (.d (.lit (.bool false)))) (g0 rfl) rfl rfl rfl ?_
      refine o_nil ?_
      repeat (first | refine then_normal ?_ | refine then_exit ?_ | refine then_ret ?_ | refine block_normal ?_ | refine block_ret ?_ | refine block_exit ?_ | refine block_pass rfl ?_)
      refine c_ret ?_
      repeat (first | refine then_normal ?_ | refine then_exit ?_ | refine then_ret ?_ | refine block_normal ?_ | refine block_ret ?_ | refine block_exit ?_ | refine block_pass rfl ?_)
      obtain rfl := Option.some.inj h
      exact end0 rfl (.tup (.cons (.d (.nil _)) (.cons (.refl _) .nil)))
    · refine c_f h2 rfl ?_
      refine c_skip ?_
      repeat (first | refine then_normal ?_ | refine then_exit ?_ | refine then_ret ?_ | refine block_normal ?_ | refine block_ret ?_ | refine block_exit ?_ | refine block_pass rfl ?_)
      refine c_cut (fun (_ : Unit) => [(2, .box [.d (.lit (.int .i64 p0.k)), .d (.lit (.int .i64 p0.n)), .d (.seq 1 (bytesD p0.b)), .d (.seq 4 (List.map V.cells p0.l))])]) (fun (_ : Unit) => m_codec_Fields_j1 p0 = some r) ?_ ?_
      · refine c_seq ?_
        refine c_region ?_
        refine o_s (.t (.d (.seq 1 (List.map cI64 p1)))) (g0 rfl) rfl rfl rfl ?_
        refine o_c (g0 rfl) rfl rfl rfl (lenE _ _) trivial ?_
        refine o_s (.t (.d (.lit (.int .i64 0)))) (g0 rfl) rfl rfl rfl ?_
        refine o_nil ?_
        repeat (first | refine then_normal ?_ | refine then_exit ?_ | refine then_ret ?_ | refine block_normal ?_ | refine block_ret ?_ | refine block_exit ?_ | refine block_pass rfl ?_)
        refine c_block ?_
        refine c_fuel (fun (z3 : Int) => [(2, .box [.d (.lit (.int .i64 p0.k)), .d (.lit (.int .i64 p0.n)), .d (.seq 1 (bytesD p0.b)), .d (.seq 4 (List.map V.cells p0.l))]), (19, .t (.d (.seq 1 (List.map cI64 p1)))), (20, .t (.d (.lit (.int .i64 (p1.length : Int))))), (21, .t (.d (.lit (.int .i64 z3))))]) (fun nl2 => (fun (z3 : Int) => m_codec_Fields_l2 p1 p0 nl2 z3 = some r)) (p1.length + 1) 0 h ⟨(.refl _), ⟨(.refl _), ⟨(.refl _), ⟨(.refl _), trivial⟩⟩⟩⟩ rfl ?_
        rintro nl2 z3 h
        cases nl2 with
        | zero => exact none_ne h
        | succ nl2 =>
          refine c_seq ?_
          refine c_region ?_
          refine o_s (.t (.d (.lit (.bool (decide (z3 < (p1.length : Int))))))) (g0 rfl) rfl rfl rfl ?_
          refine o_nil ?_
          repeat (first | refine then_normal ?_ | refine then_exit ?_ | refine then_ret ?_ | refine block_normal ?_ | refine block_ret ?_ | refine block_exit ?_ | refine block_pass rfl ?_)
          refine c_seq ?_
          rcases bif_some h with ⟨h4, h⟩ | ⟨h4, h⟩
          · refine c_t h4 rfl ?_
            refine c_skip ?_
            repeat (first | refine then_normal ?_ | refine then_exit ?_ | refine then_ret ?_ | refine block_normal ?_ | refine block_ret ?_ | refine block_exit ?_ | refine block_pass rfl ?_)
            refine c_seq ?_
            refine c_block ?_
            refine c_seq ?_
            refine c_region ?_
            refine o_s (.t (.d (.lit (.int .i64 z3)))) (g0 rfl) rfl rfl rfl ?_
            obtain ⟨x5, h6, h⟩ := bind_some h
            refine o_c (g0 rfl) rfl rfl rfl (idxE h6) (idxC h6) ?_
            refine o_s (.t (.d (.lit (.int .i64 x5)))) (g0 rfl) rfl rfl rfl ?_
            refine o_s (.t (.d (.lit (.int .i64 z3)))) (g0 rfl) rfl rfl rfl ?_
            refine o_s (.t (.d (.lit (.int .i64 x5)))) (g0 rfl) rfl rfl rfl ?_
            refine o_nil ?_
            repeat (first | refine then_normal ?_ | refine then_exit ?_ | refine then_ret ?_ | refine block_normal ?_ | refine block_ret ?_ | refine block_exit ?_ | refine block_pass rfl ?_)
            refine c_seq ?_
            refine c_region ?_
            refine o_s (.t (.d (.lit (.int .i64 x5)))) (g0 rfl) rfl rfl rfl ?_
            refine o_nil ?_
            repeat (first | refine then_normal ?_ | refine then_exit ?_ | refine then_ret ?_ | refine block_normal ?_ | refine block_ret ?_ | refine block_exit ?_ | refine block_pass rfl ?_)
            refine c_block ?_
            refine c_cut (fun (_ : Unit) => [(2, .box [.d (.lit (.int .i64 p0.k)), .d (.lit (.int .i64 p0.n)), .d (.seq 1 (bytesD p0.b)), .d (.seq 4 (List.map V.cells p0.l))]), (6, .t (.d (.lit (.int .i64 z3)))), (7, .t (.d (.lit (.int .i64 x5)))), (19, .t (.d (.seq 1 (List.map cI64 p1)))), (20, .t (.d (.lit (.int .i64 (p1.length : Int))))), (21, .t (.d (.lit (.int .i64 z3))))]) (fun (_ : Unit) => m_codec_Fields_j3 (m_codec_Fields_l2 p1 p0 nl2) p0 z3 x5 = some r) ?_ ?_
            · refine c_block ?_
              refine c_block ?_
              refine c_block ?_
              refine c_seq ?_
              refine c_seq ?_
              refine c_seq ?_
              refine c_region ?_
              refine o_s (.t (.d (.lit (.bool (x5 == 1))))) (g0 rfl) rfl rfl rfl ?_
              refine o_s (.t (.d (.lit (.bool (x5 == 1))))) (g0 rfl) rfl rfl rfl ?_
              refine o_nil ?_
              repeat (first | refine then_normal ?_ | refine then_exit ?_ | refine then_ret ?_ | refine block_normal ?_ | refine block_ret ?_ | refine block_exit ?_ | refine block_pass rfl ?_)
              rcases bif_some h with ⟨h10, h⟩ | ⟨h10, h⟩
              · refine c_t h10 rfl ?_
                refine c_exit ?_
                repeat (first | refine then_normal ?_ | refine then_exit ?_ | refine then_ret ?_ | refine block_normal ?_ | refine block_ret ?_ | refine block_exit ?_ | refine block_pass rfl ?_)
                exact ⟨(), h, ⟨(.refl _), ⟨(.refl _), ⟨(.refl _), ⟨(.refl _), ⟨(.refl _), ⟨(.refl _), trivial⟩⟩⟩⟩⟩⟩, rfl⟩
              · refine c_f h10 rfl ?_
                refine c_skip ?_
                repeat (first | refine then_normal ?_ | refine then_exit ?_ | refine then_ret ?_ | refine block_normal ?_ | refine block_ret ?_ | refine block_exit ?_ | refine block_pass rfl ?_)
                refine c_seq ?_
                refine c_region ?_
                refine o_s (.t (.d (.lit (.bool (x5 == 2))))) (g0 rfl) rfl rfl rfl ?_
                refine o_s (.t (.d (.lit (.bool (x5 == 2))))) (g0 rfl) rfl rfl rfl ?_
                refine o_nil ?_
                repeat (first | refine then_normal ?_ | refine then_exit ?_ | refine then_ret ?_ | refine block_normal ?_ | refine block_ret ?_ | refine block_exit ?_ | refine block_pass rfl ?_)
                rcases bif_some h with ⟨h11, h⟩ | ⟨h11, h⟩
                · refine c_t h11 rfl ?_
                  refine c_exit ?_
                  repeat (first | refine then_normal ?_ | refine then_exit ?_ | refine then_ret ?_ | refine block_normal ?_ | refine block_ret ?_ | refine block_exit ?_ | refine block_pass rfl ?_)
                  exact ⟨(), h, ⟨(.refl _), ⟨(.refl _), ⟨(.refl _), ⟨(.refl _), ⟨(.refl _), ⟨(.refl _), trivial⟩⟩⟩⟩⟩⟩, rfl⟩
                · refine c_f h11 rfl ?_
                  refine c_skip ?_
                  repeat (first | refine then_normal ?_ | refine then_exit ?_ | refine then_ret ?_ | refine block_normal ?_ | refine block_ret ?_ | refine block_exit ?_ | refine block_pass rfl ?_)
                  refine c_exit ?_
                  repeat (first | refine then_normal ?_ | refine then_exit ?_ | refine then_ret ?_ | refine block_normal ?_ | refine block_ret ?_ | refine block_exit ?_ | refine block_pass rfl ?_)
                  exact ⟨(), h, ⟨(.refl _), ⟨(.refl _), ⟨(.refl _), ⟨(.refl _), ⟨(.refl _), ⟨(.refl _), trivial⟩⟩⟩⟩⟩⟩, rfl⟩
            · rintro ⟨⟩ h
              refine c_seq ?_
              refine c_seq ?_
              refine c_region ?_
              refine o_s (.ref 2 3) (g0 rfl) rfl rfl rfl ?_
              refine o_s (.t (.d (.seq 4 (List.map V.cells p0.l)))) (g0 rfl) rfl rfl rfl ?_
              refine o_s (.t (.d (.lit (.int .i64 z3)))) (g0 rfl) rfl rfl rfl ?_
              obtain ⟨x7, h8, h⟩ := bind_some h
              refine o_c (g0 rfl) rfl rfl rfl (idxE' V.cells_eq h8) (idxC h8) ?_
              refine o_s (.imm [.lit (.int .i64 x7.k), .lit (.int .i64 x7.n), .seq 1 (bytesD x7.b), .seq 4 (List.map V.cells x7.l)]) (g0 rfl) rfl rfl rfl ?_
              refine o_s (.t (.d (.lit (.int .i64 x7.k)))) (g0 rfl) rfl rfl rfl ?_
              refine o_s (.t (.d (.lit (.int .i64 x5)))) (g0 rfl) rfl rfl rfl ?_
              refine o_s (.t (.d (.lit (.bool (x7.k != x5))))) (g0 rfl) rfl rfl rfl ?_
              refine o_nil ?_
              repeat (first | refine then_normal ?_ | refine then_exit ?_ | refine then_ret ?_ | refine block_normal ?_ | refine block_ret ?_ | refine block_exit ?_ | refine block_pass rfl ?_)
              rcases bif_some h with ⟨h9, h⟩ | ⟨h9, h⟩
              · refine c_t h9 rfl ?_
                refine c_seq ?_
                refine c_region ?_
                refine o_s (.t (.d (.lit (.slice none 0 0)))) (g0 rfl) rfl rfl rfl ?_
                refine o_s (.t (.d (.lit (.bool false)))) (g0 rfl) rfl rfl rfl ?_
                refine o_nil ?_
                repeat (first | refine then_normal ?_ | refine then_exit ?_ | refine then_ret ?_ | refine block_normal ?_ | refine block_ret ?_ | refine block_exit ?_ | refine block_pass rfl ?_)
                refine c_ret ?_
                repeat (first | refine then_normal ?_ | refine then_exit ?_ | refine then_ret ?_ | refine block_normal ?_ | refine block_ret ?_ | refine block_exit ?_ | refine block_pass rfl ?_)
                obtain rfl := Option.some.inj h
                exact end0 rfl (.tup (.cons (.d (.nil _)) (.cons (.refl _) .nil)))
              · refine c_f h9 rfl ?_
                refine c_skip ?_
                repeat (first | refine then_normal ?_ | refine then_exit ?_ | refine then_ret ?_ | refine block_normal ?_ | refine block_ret ?_ | refine block_exit ?_ | refine block_pass rfl ?_)
                refine c_exit ?_
                repeat (first | refine then_normal ?_ | refine then_exit ?_ | refine then_ret ?_ | refine block_normal ?_ | refine block_ret ?_ | refine block_exit ?_ | refine block_pass rfl ?_)
                refine c_region ?_
                refine o_s (.t (.d (.lit (.int .i64 (wi (z3 + 1)))))) (g0 rfl) rfl rfl rfl ?_
                refine o_s (.t (.d (.lit (.int .i64 (wi (z3 + 1)))))) (g0 rfl) rfl rfl rfl ?_
                refine o_nil ?_
                repeat (first | refine then_normal ?_ | refine then_exit ?_ | refine then_ret ?_ | refine block_normal ?_ | refine block_ret ?_ | refine block_exit ?_ | refine block_pass rfl ?_)
                exact ⟨nl2, (wi (z3 + 1)), Nat.lt_succ_self nl2, h, ⟨(.refl _), ⟨(.refl _), ⟨(.refl _), ⟨(.refl _), trivial⟩⟩⟩⟩, rfl⟩
          · refine c_f h4 rfl ?_
            refine c_exit ?_
            repeat (first | refine then_normal ?_ | refine then_exit ?_ | refine then_ret ?_ | refine block_normal ?_ | refine block_ret ?_ | refine block_exit ?_ | refine block_pass rfl ?_)
            exact ⟨(), h, ⟨(.refl _), trivial⟩, rfl⟩
      · rintro ⟨⟩ h
        refine c_seq ?_
        refine c_region ?_
        refine o_s (.ref 2 3) (g0 rfl) rfl rfl rfl ?_
        refine o_s (.t (.d (.seq 4 (List.map V.cells p0.l)))) (g0 rfl) rfl rfl rfl ?_
        refine o_s (.t (.d (.seq 4 (List.map V.cells p0.l)))) (g0 rfl) rfl rfl rfl ?_
        refine o_s (.t (.d (.lit (.bool true)))) (g0 rfl) rfl rfl rfl ?_
        refine o_nil ?_
        repeat (first | refine then_normal ?_ | refine then_exit ?_ | refine then_ret ?_ | refine block_normal ?_ | refine block_ret ?_ | refine block_exit ?_ | refine block_pass rfl ?_)
        refine c_ret ?_
        repeat (first | refine then_normal ?_ | refine then_exit ?_ | refine then_ret ?_ | refine block_normal ?_ | refine block_ret ?_ | refine block_exit ?_ | refine block_pass rfl ?_)
        obtain rfl := Option.some.inj h
        exact end0 rfl (.tup (.cons (.refl _) (.cons (.refl _) .nil)))

theorem fc_manifest_Read (p0 : (List UInt8)) (r : (S_api_Manifest × Int)) (h : m_manifest_Read p0 = some r) : FC Try.prog 11 [.t (.d (.seq 1 (bytesD p0)))] [] (.tup [.agg [.lit (.string ⟨⟨r.1.Folder⟩⟩), .lit (.int .i64 r.1.Seq), .seq 1 (bytesD r.1.Prev), .lit (.string ⟨⟨r.1.Parent⟩⟩), .seq 2 (List.map cS_api_Member r.1.Members), .lit (.int .i64 r.1.Cut), .lit (.bool r.1.Gone), .lit (.string ⟨⟨r.1.By⟩⟩)], .d (.lit (.int .i64 r.2))]) := by
  refine fc_mk (rs := [.cell 2 25, .tmp 3]) (n := 118) Try.func11 rfl rfl (Nat.le_of_ble_eq_true rfl) rfl (pins := []) rfl (L := [(0, .t (.d (.seq 1 (bytesD p0))))]) rfl ?_
  refine c_seq ?_
  refine c_region ?_
  refine o_s (.box [.d (.lit (.string ⟨⟨[]⟩⟩)), .d (.lit (.int .i64 0)), .d (.lit (.slice none 0 0)), .d (.lit (.string ⟨⟨[]⟩⟩)), .d (.lit (.slice none 0 0)), .d (.lit (.int .i64 0)), .d (.lit (.bool false)), .d (.lit (.string ⟨⟨[]⟩⟩))]) (g0 rfl) rfl rfl rfl ?_
  refine o_s (.t (.d (.lit (.int .i64 0)))) (g0 rfl) rfl rfl rfl ?_
  refine o_nil ?_
  repeat (first | refine then_normal ?_ | refine then_exit ?_ | refine then_ret ?_ | refine block_normal ?_ | refine block_ret ?_ | refine block_exit ?_ | refine block_pass rfl ?_)
  refine c_seq ?_
  refine c_region ?_
  refine o_s (.t (.d (.seq 1 (bytesD p0)))) (g0 rfl) rfl rfl rfl ?_
  obtain ⟨x1, h2, h⟩ := bind_some h
  refine o_ca (fc_codec_Decode _ _ h2) (g0 rfl) rfl rfl rfl rfl rfl rfl rfl (.cons (.refl _) .nil) rfl rfl ?_
  refine o_s (.tup [.agg [.lit (.int .i64 x1.1.k), .lit (.int .i64 x1.1.n), .seq 1 (bytesD x1.1.b), .seq 4 (List.map V.cells x1.1.l)], .d (.lit (.int .i64 x1.2))]) (g0 rfl) rfl rfl rfl ?_
  refine o_s (.t (.agg [.lit (.int .i64 x1.1.k), .lit (.int .i64 x1.1.n), .seq 1 (bytesD x1.1.b), .seq 4 (List.map V.cells x1.1.l)])) (g0 rfl) rfl rfl rfl ?_
  refine o_s (.t (.d (.lit (.int .i64 x1.2)))) (g0 rfl) rfl rfl rfl ?_
  refine o_s (.box [.d (.lit (.int .i64 0)), .d (.lit (.int .i64 0)), .d (.lit (.slice none 0 0)), .d (.lit (.slice none 0 0))]) (g0 rfl) rfl rfl rfl ?_
  refine o_st (.box [.d (.lit (.int .i64 x1.1.k)), .d (.lit (.int .i64 x1.1.n)), .d (.seq 1 (bytesD x1.1.b)), .d (.seq 4 (List.map V.cells x1.1.l))]) (g0 rfl) rfl rfl rfl ?_
  refine o_s (.t (.d (.lit (.int .i64 x1.2)))) (g0 rfl) rfl rfl rfl ?_
  refine o_nil ?_
  repeat (first | refine then_normal ?_ | refine then_exit ?_ | refine then_ret ?_ | refine block_normal ?_ | refine block_ret ?_ | refine block_exit ?_ | refine block_pass rfl ?_)
  refine c_seq ?_
  refine c_seq ?_
  refine c_region ?_
  refine o_s (.t (.d (.lit (.int .i64 x1.2)))) (g0 rfl) rfl rfl rfl ?_
  refine o_s (.t (.d (.lit (.bool (x1.2 != 0))))) (g0 rfl) rfl rfl rfl ?_
  refine o_nil ?_
  repeat (first | refine then_normal ?_ | refine then_exit ?_ | refine then_ret ?_ | refine block_normal ?_ | refine block_ret ?_ | refine block_exit ?_ | refine block_pass rfl ?_)
  rcases bif_some h with ⟨h3, h⟩ | ⟨h3, h⟩
  · refine c_t h3 rfl ?_
    refine c_seq ?_
    refine c_region ?_
    refine o_s (.t (.agg [.lit (.string ⟨⟨[]⟩⟩), .lit (.int .i64 0), .lit (.slice none 0 0), .lit (.string ⟨⟨[]⟩⟩), .lit (.slice none 0 0), .lit (.int .i64 0), .lit (.bool false), .lit (.string ⟨⟨[]⟩⟩)])) (g0 rfl) rfl rfl rfl ?_
    refine o_s (.t (.d (.lit (.int .i64 x1.2)))) (g0 rfl) rfl rfl rfl ?_
    refine o_st (.box [.d (.lit (.string ⟨⟨[]⟩⟩)), .d (.lit (.int .i64 0)), .d (.lit (.slice none 0 0)), .d (.lit (.string ⟨⟨[]⟩⟩)), .d (.lit (.slice none 0 0)), .d (.lit (.int .i64 0)), .d (.lit (.bool false)), .d (.lit (.string ⟨⟨[]⟩⟩))]) (g0 rfl) rfl rfl rfl ?_
    refine o_s (.t (.d (.lit (.int .i64 x1.2)))) (g0 rfl) rfl rfl rfl ?_
    refine o_nil ?_
    repeat (first | refine then_normal ?_ | refine then_exit ?_ | refine then_ret ?_ | refine block_normal ?_ | refine block_ret ?_ | refine block_exit ?_ | refine block_pass rfl ?_)
    refine c_ret ?_
    repeat (first | refine then_normal ?_ | refine then_exit ?_ | refine then_ret ?_ | refine block_normal ?_ | refine block_ret ?_ | refine block_exit ?_ | refine block_pass rfl ?_)
    obtain rfl := Option.some.inj h
    exact end0 rfl (.tup (.cons (.agg (.cons (.refl _) (.cons (.refl _) (.cons (.nil _) (.cons (.refl _) (.cons (.nil _) (.cons (.refl _) (.cons (.refl _) (.cons (.refl _) .nil))))))))) (.cons (.refl _) .nil)))
  · refine c_f h3 rfl ?_
    refine c_skip ?_
    repeat (first | refine then_normal ?_ | refine then_exit ?_ | refine then_ret ?_ | refine block_normal ?_ | refine block_ret ?_ | refine block_exit ?_ | refine block_pass rfl ?_)
    refine c_seq ?_
    refine c_region ?_
    refine o_s (.t (.agg [.lit (.int .i64 x1.1.k), .lit (.int .i64 x1.1.n), .seq 1 (bytesD x1.1.b), .seq 4 (List.map V.cells x1.1.l)])) (g0 rfl) rfl rfl rfl ?_
    refine o_s (.t (.own 3 1 (List.map cI64 [2, 2, 1, 2, 2, 3, 1, 1, 2]))) (g0 rfl) rfl rfl rfl ?_
    obtain ⟨x4, h5, h⟩ := bind_some h
    refine o_ca (fc_codec_Fields _ _ _ h5) (g0 rfl) rfl rfl rfl rfl rfl rfl rfl (.cons (.refl _) (.cons (.refl _) .nil)) rfl rfl ?_
    refine o_s (.tup [.d (.seq 4 (List.map V.cells x4.1)), .d (.lit (.bool x4.2))]) (g0 rfl) rfl rfl rfl ?_
    refine o_s (.t (.d (.seq 4 (List.map V.cells x4.1)))) (g0 rfl) rfl rfl rfl ?_
    refine o_s (.t (.d (.lit (.bool x4.2)))) (g0 rfl) rfl rfl rfl ?_
    refine o_s (.t (.d (.seq 4 (List.map V.cells x4.1)))) (g0 rfl) rfl rfl rfl ?_
    refine o_s (.t (.d (.lit (.bool x4.2)))) (g0 rfl) rfl rfl rfl ?_
    refine o_nil ?_
    repeat (first | refine then_normal ?_ | refine then_exit ?_ | refine then_ret ?_ | refine block_normal ?_ | refine block_ret ?_ | refine block_exit ?_ | refine block_pass rfl ?_)
    refine c_seq ?_
    refine c_seq ?_
    refine c_region ?_
    refine o_s (.t (.d (.lit (.bool x4.2)))) (g0 rfl) rfl rfl rfl ?_
    refine o_s (.t (.d (.lit (.bool (!x4.2))))) (g0 rfl) rfl rfl rfl ?_
    refine o_s (.t (.d (.lit (.bool (!x4.2))))) (g0 rfl) rfl rfl rfl ?_
    rcases bif_some h with ⟨h6, h⟩ | ⟨h6, h⟩
    · refine o_skip rfl rfl rfl h6 rfl rfl ?_
      refine o_skip rfl rfl rfl h6 rfl rfl ?_
      refine o_skip rfl rfl rfl h6 rfl rfl ?_
      refine o_skip rfl rfl rfl h6 rfl rfl ?_
      refine o_skip rfl rfl rfl h6 rfl rfl ?_
      refine o_skip rfl rfl rfl h6 rfl rfl ?_
      refine o_pk (.t (.d (.lit (.bool true)))) (b := true) h6 (g0 rfl) rfl rfl rfl rfl rfl ?_
      refine o_nil ?_
      repeat (first | refine then_normal ?_ | refine then_exit ?_ | refine then_ret ?_ | refine block_normal ?_ | refine block_ret ?_ | refine block_exit ?_ | refine block_pass rfl ?_)
      refine c_t rfl rfl ?_
      refine c_seq ?_
      refine c_region ?_
      refine o_s (.t (.agg [.lit (.string ⟨⟨[]⟩⟩), .lit (.int .i64 0), .lit (.slice none 0 0), .lit (.string ⟨⟨[]⟩⟩), .lit (.slice none 0 0), .lit (.int .i64 0), .lit (.bool false), .lit (.string ⟨⟨[]⟩⟩)])) (g0 rfl) rfl rfl rfl ?_
      refine o_st (.box [.d (.lit (.string ⟨⟨[]⟩⟩)), .d (.lit (.int .i64 0)), .d (.lit (.slice none 0 0)), .d (.lit (.string ⟨⟨[]⟩⟩)), .d (.lit (.slice none 0 0)), .d (.lit (.int .i64 0)), .d (.lit (.bool false)), .d (.lit (.string ⟨⟨[]⟩⟩))]) (g0 rfl) rfl rfl rfl ?_
      refine o_s (.t (.d (.lit (.int .i64 11)))) (g0 rfl) rfl rfl rfl ?_
      refine o_nil ?_
      repeat (first | refine then_normal ?_ | refine then_exit ?_ | refine then_ret ?_ | refine block_normal ?_ | refine block_ret ?_ | refine block_exit ?_ | refine block_pass rfl ?_)
      refine c_ret ?_
      repeat (first | refine then_normal ?_ | refine then_exit ?_ | refine then_ret ?_ | refine block_normal ?_ | refine block_ret ?_ | refine block_exit ?_ | refine block_pass rfl ?_)
      obtain rfl := Option.some.inj h
      exact end0 rfl (.tup (.cons (.agg (.cons (.refl _) (.cons (.refl _) (.cons (.nil _) (.cons (.refl _) (.cons (.nil _) (.cons (.refl _) (.cons (.refl _) (.cons (.refl _) .nil))))))))) (.cons (.refl _) .nil)))
    · refine o_s (.t (.d (.seq 4 (List.map V.cells x4.1)))) (gy rfl rfl rfl h6) rfl rfl rfl ?_
      obtain ⟨x7, h8, h⟩ := bind_some h
      refine o_c (gy rfl rfl rfl h6) rfl rfl rfl (idxE' V.cells_eq h8) (idxC h8) ?_
      refine o_s (.imm [.seq 1 (bytesD x7.b), .seq 4 (List.map V.cells x7.l)]) (gy rfl rfl rfl h6) rfl rfl rfl ?_
      refine o_s (.t (.d (.seq 1 (bytesD x7.b)))) (gy rfl rfl rfl h6) rfl rfl rfl ?_
      refine o_c (gy rfl rfl rfl h6) rfl rfl rfl (strE _) (isB_bytes _) ?_
      refine o_c (gy rfl rfl rfl h6) rfl rfl rfl (congrArg (fun z => A.t (.d (.lit (.bool (!z))))) (str_beqL _ _)) trivial ?_
      refine o_pk (.t (.d (.lit (.bool (!(x7.b == [109, 97, 110, 105, 102, 101, 115, 116])))))) (b := false) h6 (g0 rfl) rfl rfl rfl rfl rfl ?_
      refine o_nil ?_
      repeat (first | refine then_normal ?_ | refine then_exit ?_ | refine then_ret ?_ | refine block_normal ?_ | refine block_ret ?_ | refine block_exit ?_ | refine block_pass rfl ?_)
      rcases bif_some h with ⟨h9, h⟩ | ⟨h9, h⟩
      · refine c_t h9 rfl ?_
        refine c_seq ?_
        refine c_region ?_
        refine o_s (.t (.agg [.lit (.string ⟨⟨[]⟩⟩), .lit (.int .i64 0), .lit (.slice none 0 0), .lit (.string ⟨⟨[]⟩⟩), .lit (.slice none 0 0), .lit (.int .i64 0), .lit (.bool false), .lit (.string ⟨⟨[]⟩⟩)])) (g0 rfl) rfl rfl rfl ?_
        refine o_st (.box [.d (.lit (.string ⟨⟨[]⟩⟩)), .d (.lit (.int .i64 0)), .d (.lit (.slice none 0 0)), .d (.lit (.string ⟨⟨[]⟩⟩)), .d (.lit (.slice none 0 0)), .d (.lit (.int .i64 0)), .d (.lit (.bool false)), .d (.lit (.string ⟨⟨[]⟩⟩))]) (g0 rfl) rfl rfl rfl ?_
        refine o_s (.t (.d (.lit (.int .i64 11)))) (g0 rfl) rfl rfl rfl ?_
        refine o_nil ?_
        repeat (first | refine then_normal ?_ | refine then_exit ?_ | refine then_ret ?_ | refine block_normal ?_ | refine block_ret ?_ | refine block_exit ?_ | refine block_pass rfl ?_)
        refine c_ret ?_
        repeat (first | refine then_normal ?_ | refine then_exit ?_ | refine then_ret ?_ | refine block_normal ?_ | refine block_ret ?_ | refine block_exit ?_ | refine block_pass rfl ?_)
        obtain rfl := Option.some.inj h
        exact end0 rfl (.tup (.cons (.agg (.cons (.refl _) (.cons (.refl _) (.cons (.nil _) (.cons (.refl _) (.cons (.nil _) (.cons (.refl _) (.cons (.refl _) (.cons (.refl _) .nil))))))))) (.cons (.refl _) .nil)))
      · refine c_f h9 rfl ?_
        refine c_skip ?_
        repeat (first | refine then_normal ?_ | refine then_exit ?_ | refine then_ret ?_ | refine block_normal ?_ | refine block_ret ?_ | refine block_exit ?_ | refine block_pass rfl ?_)
        refine c_seq ?_
        refine c_draw mixed (by kernel_rfl) ?_
        refine d_s (.t (.d (.seq 4 (List.map V.cells x4.1)))) rfl (dg0 rfl) rfl rfl rfl rfl ?_
        obtain ⟨x10, h11, h⟩ := bind_some h
        refine d_c rfl (dg0 rfl) rfl rfl rfl rfl (idxE' V.cells_eq h11) (idxC h11) ?_
        refine d_s (.imm [.seq 1 (bytesD x10.b), .seq 4 (List.map V.cells x10.l)]) rfl (dg0 rfl) rfl rfl rfl rfl ?_
        refine d_s (.t (.d (.seq 1 (bytesD x10.b)))) rfl (dg0 rfl) rfl rfl rfl rfl ?_
        refine d_c rfl (dg0 rfl) rfl rfl rfl rfl (strE _) (isB_bytes _) ?_
        refine d_s (.t (.d (.seq 4 (List.map V.cells x4.1)))) rfl (dg0 rfl) rfl rfl rfl rfl ?_
        obtain ⟨x12, h13, h⟩ := bind_some h
        refine d_c rfl (dg0 rfl) rfl rfl rfl rfl (idxE' V.cells_eq h13) (idxC h13) ?_
        refine d_s (.imm [.lit (.int .i64 x12.n), .seq 1 (bytesD x12.b), .seq 4 (List.map V.cells x12.l)]) rfl (dg0 rfl) rfl rfl rfl rfl ?_
        refine d_s (.t (.d (.lit (.int .i64 x12.n)))) rfl (dg0 rfl) rfl rfl rfl rfl ?_
        refine d_s (.t (.d (.seq 4 (List.map V.cells x4.1)))) rfl (dg0 rfl) rfl rfl rfl rfl ?_
        obtain ⟨x14, h15, h⟩ := bind_some h
        refine d_c rfl (dg0 rfl) rfl rfl rfl rfl (idxE' V.cells_eq h15) (idxC h15) ?_
        refine d_s (.imm [.seq 1 (bytesD x14.b), .seq 4 (List.map V.cells x14.l)]) rfl (dg0 rfl) rfl rfl rfl rfl ?_
        refine d_s (.t (.d (.seq 1 (bytesD x14.b)))) rfl (dg0 rfl) rfl rfl rfl rfl ?_
        refine d_s (.t (.d (.seq 4 (List.map V.cells x4.1)))) rfl (dg0 rfl) rfl rfl rfl rfl ?_
        obtain ⟨x16, h17, h⟩ := bind_some h
        refine d_c rfl (dg0 rfl) rfl rfl rfl rfl (idxE' V.cells_eq h17) (idxC h17) ?_
        refine d_s (.imm [.seq 1 (bytesD x16.b), .seq 4 (List.map V.cells x16.l)]) rfl (dg0 rfl) rfl rfl rfl rfl ?_
        refine d_s (.t (.d (.seq 1 (bytesD x16.b)))) rfl (dg0 rfl) rfl rfl rfl rfl ?_
        refine d_c rfl (dg0 rfl) rfl rfl rfl rfl (strE _) (isB_bytes _) ?_
        refine d_s (.t (.d (.seq 4 (List.map V.cells x4.1)))) rfl (dg0 rfl) rfl rfl rfl rfl ?_
        obtain ⟨x18, h19, h⟩ := bind_some h
        refine d_c rfl (dg0 rfl) rfl rfl rfl rfl (idxE' V.cells_eq h19) (idxC h19) ?_
        refine d_s (.imm [.lit (.int .i64 x18.n), .seq 1 (bytesD x18.b), .seq 4 (List.map V.cells x18.l)]) rfl (dg0 rfl) rfl rfl rfl rfl ?_
        refine d_s (.t (.d (.lit (.int .i64 x18.n)))) rfl (dg0 rfl) rfl rfl rfl rfl ?_
        refine d_s (.t (.d (.seq 4 (List.map V.cells x4.1)))) rfl (dg0 rfl) rfl rfl rfl rfl ?_
        obtain ⟨x20, h21, h⟩ := bind_some h
        refine d_c rfl (dg0 rfl) rfl rfl rfl rfl (idxE' V.cells_eq h21) (idxC h21) ?_
        refine d_s (.imm [.lit (.int .i64 x20.n), .seq 1 (bytesD x20.b), .seq 4 (List.map V.cells x20.l)]) rfl (dg0 rfl) rfl rfl rfl rfl ?_
        refine d_s (.t (.d (.lit (.int .i64 x20.n)))) rfl (dg0 rfl) rfl rfl rfl rfl ?_
        refine d_s (.t (.d (.lit (.bool (x20.n == 1))))) rfl (dg0 rfl) rfl rfl rfl rfl ?_
        refine d_s (.t (.d (.seq 4 (List.map V.cells x4.1)))) rfl (dg0 rfl) rfl rfl rfl rfl ?_
        obtain ⟨x22, h23, h⟩ := bind_some h
        refine d_c rfl (dg0 rfl) rfl rfl rfl rfl (idxE' V.cells_eq h23) (idxC h23) ?_
        refine d_s (.imm [.seq 1 (bytesD x22.b), .seq 4 (List.map V.cells x22.l)]) rfl (dg0 rfl) rfl rfl rfl rfl ?_
        refine d_s (.t (.d (.seq 1 (bytesD x22.b)))) rfl (dg0 rfl) rfl rfl rfl rfl ?_
        refine d_c rfl (dg0 rfl) rfl rfl rfl rfl (strE _) (isB_bytes _) ?_
        refine d_s (.t (.agg [.lit (.string ⟨⟨x10.b⟩⟩), .lit (.int .i64 x12.n), .seq 1 (bytesD x14.b), .lit (.string ⟨⟨x16.b⟩⟩), .lit (.slice none 0 0), .lit (.int .i64 x18.n), .lit (.bool (x20.n == 1)), .lit (.string ⟨⟨x22.b⟩⟩)])) rfl (dg0 rfl) rfl rfl rfl rfl ?_
        refine d_s (.box [.d (.lit (.string ⟨⟨[]⟩⟩)), .d (.lit (.int .i64 0)), .d (.lit (.slice none 0 0)), .d (.lit (.string ⟨⟨[]⟩⟩)), .d (.lit (.slice none 0 0)), .d (.lit (.int .i64 0)), .d (.lit (.bool false)), .d (.lit (.string ⟨⟨[]⟩⟩))]) rfl (dg0 rfl) rfl rfl rfl rfl ?_
        refine d_st (.box [.d (.lit (.string ⟨⟨x10.b⟩⟩)), .d (.lit (.int .i64 x12.n)), .d (.seq 1 (bytesD x14.b)), .d (.lit (.string ⟨⟨x16.b⟩⟩)), .d (.lit (.slice none 0 0)), .d (.lit (.int .i64 x18.n)), .d (.lit (.bool (x20.n == 1))), .d (.lit (.string ⟨⟨x22.b⟩⟩))]) rfl (dg0 rfl) rfl rfl rfl rfl ?_
        refine d_nil (by kernel_rfl) ?_
        repeat (first | refine then_normal ?_ | refine then_exit ?_ | refine then_ret ?_ | refine block_normal ?_ | refine block_ret ?_ | refine block_exit ?_ | refine block_pass rfl ?_)
        refine c_cut (fun (y24 : (List S_api_Member)) => [(2, .box [.d (.lit (.string ⟨⟨[]⟩⟩)), .d (.lit (.int .i64 0)), .d (.lit (.slice none 0 0)), .d (.lit (.string ⟨⟨[]⟩⟩)), .d (.lit (.slice none 0 0)), .d (.lit (.int .i64 0)), .d (.lit (.bool false)), .d (.lit (.string ⟨⟨[]⟩⟩))]), (6, .t (.d (.seq 4 (List.map V.cells x4.1)))), (8, .box [.d (.lit (.string ⟨⟨x10.b⟩⟩)), .d (.lit (.int .i64 x12.n)), .d (.seq 1 (bytesD x14.b)), .d (.lit (.string ⟨⟨x16.b⟩⟩)), .own 55 2 (List.map cS_api_Member y24), .d (.lit (.int .i64 x18.n)), .d (.lit (.bool (x20.n == 1))), .d (.lit (.string ⟨⟨x22.b⟩⟩))])]) (fun (y24 : (List S_api_Member)) => m_manifest_Read_j1 x10 x12 x14 x16 x18 x20 x22 x4 y24 = some r) ?_ ?_
        · refine c_seq ?_
          refine c_region ?_
          refine o_s (.t (.d (.seq 4 (List.map V.cells x4.1)))) (g0 rfl) rfl rfl rfl ?_
          obtain ⟨x31, h32, h⟩ := bind_some h
          refine o_c (g0 rfl) rfl rfl rfl (idxE' V.cells_eq h32) (idxC h32) ?_
          refine o_s (.imm [.seq 4 (List.map V.cells x31.l)]) (g0 rfl) rfl rfl rfl ?_
          refine o_s (.t (.d (.seq 4 (List.map V.cells x31.l)))) (g0 rfl) rfl rfl rfl ?_
          refine o_c (g0 rfl) rfl rfl rfl (lenE _ _) trivial ?_
          refine o_s (.t (.d (.lit (.int .i64 0)))) (g0 rfl) rfl rfl rfl ?_
          refine o_nil ?_
          repeat (first | refine then_normal ?_ | refine then_exit ?_ | refine then_ret ?_ | refine block_normal ?_ | refine block_ret ?_ | refine block_exit ?_ | refine block_pass rfl ?_)
          refine c_block ?_
          refine c_fuel (fun (q : (List S_api_Member) × Int) => [(2, .box [.d (.lit (.string ⟨⟨[]⟩⟩)), .d (.lit (.int .i64 0)), .d (.lit (.slice none 0 0)), .d (.lit (.string ⟨⟨[]⟩⟩)), .d (.lit (.slice none 0 0)), .d (.lit (.int .i64 0)), .d (.lit (.bool false)), .d (.lit (.string ⟨⟨[]⟩⟩))]), (6, .t (.d (.seq 4 (List.map V.cells x4.1)))), (8, .box [.d (.lit (.string ⟨⟨x10.b⟩⟩)), .d (.lit (.int .i64 x12.n)), .d (.seq 1 (bytesD x14.b)), .d (.lit (.string ⟨⟨x16.b⟩⟩)), .own 55 2 (List.map cS_api_Member q.1), .d (.lit (.int .i64 x18.n)), .d (.lit (.bool (x20.n == 1))), .d (.lit (.string ⟨⟨x22.b⟩⟩))]), (75, .t (.d (.seq 4 (List.map V.cells x31.l)))), (76, .t (.d (.lit (.int .i64 (x31.l.length : Int))))), (77, .t (.d (.lit (.int .i64 q.2))))]) (fun nl2 => (fun (q : (List S_api_Member) × Int) => m_manifest_Read_l2 x31 x10 x12 x14 x16 x18 x20 x22 x4 nl2 q.1 q.2 = some r)) (x31.l.length + 1) ([], 0) h ⟨(.refl _), ⟨(.refl _), ⟨(.box (.cons (.refl _) (.cons (.refl _) (.cons (.refl _) (.cons (.refl _) (.cons (.nilOwn _ _) (.cons (.refl _) (.cons (.refl _) (.cons (.refl _) .nil)))))))) rfl), ⟨(.refl _), ⟨(.refl _), ⟨(.refl _), trivial⟩⟩⟩⟩⟩⟩ rfl ?_
          rintro nl2 ⟨z33, z34⟩ h
          cases nl2 with
          | zero => exact none_ne h
          | succ nl2 =>
            refine c_seq ?_
            refine c_region ?_
            refine o_s (.t (.d (.lit (.bool (decide (z34 < (x31.l.length : Int))))))) (g0 rfl) rfl rfl rfl ?_
            refine o_nil ?_
            repeat (first | refine then_normal ?_ | refine then_exit ?_ | refine then_ret ?_ | refine block_normal ?_ | refine block_ret ?_ | refine block_exit ?_ | refine block_pass rfl ?_)
            refine c_seq ?_
            rcases bif_some h with ⟨h35, h⟩ | ⟨h35, h⟩
            · refine c_t h35 rfl ?_
              refine c_skip ?_
              repeat (first | refine then_normal ?_ | refine then_exit ?_ | refine then_ret ?_ | refine block_normal ?_ | refine block_ret ?_ | refine block_exit ?_ | refine block_pass rfl ?_)
              refine c_seq ?_
              refine c_block ?_
              refine c_seq ?_
              refine c_region ?_
              obtain ⟨x36, h37, h⟩ := bind_some h
              refine o_c (g0 rfl) rfl rfl rfl (idxE' V.cells_eq h37) (idxC h37) ?_
              refine o_s (.t (.agg [.lit (.int .i64 x36.k), .lit (.int .i64 x36.n), .seq 1 (bytesD x36.b), .seq 4 (List.map V.cells x36.l)])) (g0 rfl) rfl rfl rfl ?_
              refine o_s (.box [.d (.lit (.int .i64 0)), .d (.lit (.int .i64 0)), .d (.lit (.slice none 0 0)), .d (.lit (.slice none 0 0))]) (g0 rfl) rfl rfl rfl ?_
              refine o_st (.box [.d (.lit (.int .i64 x36.k)), .d (.lit (.int .i64 x36.n)), .d (.seq 1 (bytesD x36.b)), .d (.seq 4 (List.map V.cells x36.l))]) (g0 rfl) rfl rfl rfl ?_
              refine o_nil ?_
              repeat (first | refine then_normal ?_ | refine then_exit ?_ | refine then_ret ?_ | refine block_normal ?_ | refine block_ret ?_ | refine block_exit ?_ | refine block_pass rfl ?_)
              refine c_seq ?_
              refine c_region ?_
              refine o_s (.t (.agg [.lit (.int .i64 x36.k), .lit (.int .i64 x36.n), .seq 1 (bytesD x36.b), .seq 4 (List.map V.cells x36.l)])) (g0 rfl) rfl rfl rfl ?_
              refine o_s (.t (.own 3 1 (List.map cI64 [2, 1]))) (g0 rfl) rfl rfl rfl ?_
              obtain ⟨x38, h39, h⟩ := bind_some h
              refine o_ca (fc_codec_Fields _ _ _ h39) (g0 rfl) rfl rfl rfl rfl rfl rfl rfl (.cons (.refl _) (.cons (.refl _) .nil)) rfl rfl ?_
              refine o_s (.tup [.d (.seq 4 (List.map V.cells x38.1)), .d (.lit (.bool x38.2))]) (g0 rfl) rfl rfl rfl ?_
              refine o_s (.t (.d (.seq 4 (List.map V.cells x38.1)))) (g0 rfl) rfl rfl rfl ?_
              refine o_s (.t (.d (.lit (.bool x38.2)))) (g0 rfl) rfl rfl rfl ?_
              refine o_s (.t (.d (.seq 4 (List.map V.cells x38.1)))) (g0 rfl) rfl rfl rfl ?_
              refine o_s (.t (.d (.lit (.bool x38.2)))) (g0 rfl) rfl rfl rfl ?_
              refine o_nil ?_
              repeat (first | refine then_normal ?_ | refine then_exit ?_ | refine then_ret ?_ | refine block_normal ?_ | refine block_ret ?_ | refine block_exit ?_ | refine block_pass rfl ?_)
              refine c_seq ?_
              refine c_seq ?_
              refine c_region ?_
              refine o_s (.t (.d (.lit (.bool x38.2)))) (g0 rfl) rfl rfl rfl ?_
              refine o_s (.t (.d (.lit (.bool (!x38.2))))) (g0 rfl) rfl rfl rfl ?_
              refine o_nil ?_
              repeat (first | refine then_normal ?_ | refine then_exit ?_ | refine then_ret ?_ | refine block_normal ?_ | refine block_ret ?_ | refine block_exit ?_ | refine block_pass rfl ?_)
              rcases bif_some h with ⟨h40, h⟩ | ⟨h40, h⟩
              · refine c_t h40 rfl ?_
                refine c_seq ?_
                refine c_region ?_
                refine o_s (.t (.agg [.lit (.string ⟨⟨[]⟩⟩), .lit (.int .i64 0), .lit (.slice none 0 0), .lit (.string ⟨⟨[]⟩⟩), .lit (.slice none 0 0), .lit (.int .i64 0), .lit (.bool false), .lit (.string ⟨⟨[]⟩⟩)])) (g0 rfl) rfl rfl rfl ?_
                refine o_st (.box [.d (.lit (.string ⟨⟨[]⟩⟩)), .d (.lit (.int .i64 0)), .d (.lit (.slice none 0 0)), .d (.lit (.string ⟨⟨[]⟩⟩)), .d (.lit (.slice none 0 0)), .d (.lit (.int .i64 0)), .d (.lit (.bool false)), .d (.lit (.string ⟨⟨[]⟩⟩))]) (g0 rfl) rfl rfl rfl ?_
                refine o_s (.t (.d (.lit (.int .i64 11)))) (g0 rfl) rfl rfl rfl ?_
                refine o_nil ?_
                repeat (first | refine then_normal ?_ | refine then_exit ?_ | refine then_ret ?_ | refine block_normal ?_ | refine block_ret ?_ | refine block_exit ?_ | refine block_pass rfl ?_)
                refine c_ret ?_
                repeat (first | refine then_normal ?_ | refine then_exit ?_ | refine then_ret ?_ | refine block_normal ?_ | refine block_ret ?_ | refine block_exit ?_ | refine block_pass rfl ?_)
                obtain rfl := Option.some.inj h
                exact end0 rfl (.tup (.cons (.agg (.cons (.refl _) (.cons (.refl _) (.cons (.nil _) (.cons (.refl _) (.cons (.nil _) (.cons (.refl _) (.cons (.refl _) (.cons (.refl _) .nil))))))))) (.cons (.refl _) .nil)))
              · refine c_f h40 rfl ?_
                refine c_skip ?_
                repeat (first | refine then_normal ?_ | refine then_exit ?_ | refine then_ret ?_ | refine block_normal ?_ | refine block_ret ?_ | refine block_exit ?_ | refine block_pass rfl ?_)
                refine c_draw mixed (by kernel_rfl) ?_
                refine d_s (.ref 8 4) rfl (dg0 rfl) rfl rfl rfl rfl ?_
                refine d_2 (.box [.d (.lit (.string ⟨⟨x10.b⟩⟩)), .d (.lit (.int .i64 x12.n)), .d (.seq 1 (bytesD x14.b)), .d (.lit (.string ⟨⟨x16.b⟩⟩)), .d (.seq 2 (List.map cS_api_Member z33)), .d (.lit (.int .i64 x18.n)), .d (.lit (.bool (x20.n == 1))), .d (.lit (.string ⟨⟨x22.b⟩⟩))]) (.t (.own 55 2 (List.map cS_api_Member z33))) rfl (dg0 rfl) rfl rfl rfl rfl rfl ?_
                refine d_s (.t (.d (.seq 4 (List.map V.cells x38.1)))) rfl (dg0 rfl) rfl rfl rfl rfl ?_
                obtain ⟨x41, h42, h⟩ := bind_some h
                refine d_c rfl (dg0 rfl) rfl rfl rfl rfl (idxE' V.cells_eq h42) (idxC h42) ?_
                refine d_s (.imm [.seq 1 (bytesD x41.b), .seq 4 (List.map V.cells x41.l)]) rfl (dg0 rfl) rfl rfl rfl rfl ?_
                refine d_s (.t (.d (.seq 1 (bytesD x41.b)))) rfl (dg0 rfl) rfl rfl rfl rfl ?_
                refine d_c rfl (dg0 rfl) rfl rfl rfl rfl (strE _) (isB_bytes _) ?_
                refine d_s (.t (.d (.seq 4 (List.map V.cells x38.1)))) rfl (dg0 rfl) rfl rfl rfl rfl ?_
                obtain ⟨x43, h44, h⟩ := bind_some h
                refine d_c rfl (dg0 rfl) rfl rfl rfl rfl (idxE' V.cells_eq h44) (idxC h44) ?_
                refine d_s (.imm [.lit (.int .i64 x43.n), .seq 1 (bytesD x43.b), .seq 4 (List.map V.cells x43.l)]) rfl (dg0 rfl) rfl rfl rfl rfl ?_
                refine d_s (.t (.d (.lit (.int .i64 x43.n)))) rfl (dg0 rfl) rfl rfl rfl rfl ?_
                refine d_s (.t (.agg [.lit (.string ⟨⟨x41.b⟩⟩), .lit (.int .i64 x43.n)])) rfl (dg0 rfl) rfl rfl rfl rfl ?_
                refine d_s (.t (.own 55 2 (List.map cS_api_Member [(S_api_Member.mk x41.b x43.n)]))) rfl (dg0 rfl) rfl rfl rfl rfl ?_
                obtain ⟨x45, h46, h⟩ := bind_some h
                refine d_2c rfl (dg0 rfl) rfl rfl rfl rfl rfl (appE (c := cS_api_Member) h46) (appC (c := cS_api_Member) h46) ?_
                refine d_s (.ref 8 4) rfl (dg0 rfl) rfl rfl rfl rfl ?_
                refine d_st2 (.t (.d (.seq 2 (List.map cS_api_Member x45)))) (.box [.d (.lit (.string ⟨⟨x10.b⟩⟩)), .d (.lit (.int .i64 x12.n)), .d (.seq 1 (bytesD x14.b)), .d (.lit (.string ⟨⟨x16.b⟩⟩)), .own 55 2 (List.map cS_api_Member x45), .d (.lit (.int .i64 x18.n)), .d (.lit (.bool (x20.n == 1))), .d (.lit (.string ⟨⟨x22.b⟩⟩))]) rfl (dg0 rfl) rfl rfl rfl rfl rfl ?_
                refine d_nil (by kernel_rfl) ?_
                repeat (first | refine then_normal ?_ | refine then_exit ?_ | refine then_ret ?_ | refine block_normal ?_ | refine block_ret ?_ | refine block_exit ?_ | refine block_pass rfl ?_)
                refine c_region ?_
                refine o_s (.t (.d (.lit (.int .i64 (wi (z34 + 1)))))) (g0 rfl) rfl rfl rfl ?_
                refine o_s (.t (.d (.lit (.int .i64 (wi (z34 + 1)))))) (g0 rfl) rfl rfl rfl ?_
                refine o_nil ?_
                repeat (first | refine then_normal ?_ | refine then_exit ?_ | refine then_ret ?_ | refine block_normal ?_ | refine block_ret ?_ | refine block_exit ?_ | refine block_pass rfl ?_)
                exact ⟨nl2, (x45, (wi (z34 + 1))), Nat.lt_succ_self nl2, h, ⟨(.refl _), ⟨(.refl _), ⟨(.refl _), ⟨(.refl _), ⟨(.refl _), ⟨(.refl _), trivial⟩⟩⟩⟩⟩⟩, rfl⟩
            · refine c_f h35 rfl ?_
              refine c_exit ?_
              repeat (first | refine then_normal ?_ | refine then_exit ?_ | refine then_ret ?_ | refine block_normal ?_ | refine block_ret ?_ | refine block_exit ?_ | refine block_pass rfl ?_)
              exact ⟨z33, h, ⟨(.refl _), ⟨(.refl _), ⟨(.refl _), trivial⟩⟩⟩, rfl⟩
        · rintro y24 h
          refine c_seq ?_
          refine c_seq ?_
          refine c_region ?_
          refine o_s (.t (.agg [.lit (.string ⟨⟨x10.b⟩⟩), .lit (.int .i64 x12.n), .seq 1 (bytesD x14.b), .lit (.string ⟨⟨x16.b⟩⟩), .seq 2 (List.map cS_api_Member y24), .lit (.int .i64 x18.n), .lit (.bool (x20.n == 1)), .lit (.string ⟨⟨x22.b⟩⟩)])) (g0 rfl) rfl rfl rfl ?_
          obtain ⟨x25, h26, h⟩ := bind_some h
          refine o_ca (fc_manifest_may _ _ h26) (g0 rfl) rfl rfl rfl rfl rfl rfl rfl (.cons (.refl _) .nil) rfl rfl ?_
          refine o_s (.t (.d (.lit (.bool (!x25))))) (g0 rfl) rfl rfl rfl ?_
          refine o_s (.t (.d (.lit (.bool (!x25))))) (g0 rfl) rfl rfl rfl ?_
          rcases bif_some h with ⟨h27, h⟩ | ⟨h27, h⟩
          · refine o_skip rfl rfl rfl h27 rfl rfl ?_
            refine o_skip rfl rfl rfl h27 rfl rfl ?_
            refine o_skip rfl rfl rfl h27 rfl rfl ?_
            refine o_skip rfl rfl rfl h27 rfl rfl ?_
            refine o_skip rfl rfl rfl h27 rfl rfl ?_
            refine o_pk (.t (.d (.lit (.bool true)))) (b := true) h27 (g0 rfl) rfl rfl rfl rfl rfl ?_
            refine o_nil ?_
            repeat (first | refine then_normal ?_ | refine then_exit ?_ | refine then_ret ?_ | refine block_normal ?_ | refine block_ret ?_ | refine block_exit ?_ | refine block_pass rfl ?_)
            refine c_t rfl rfl ?_
            refine c_seq ?_
            refine c_region ?_
            refine o_s (.t (.agg [.lit (.string ⟨⟨[]⟩⟩), .lit (.int .i64 0), .lit (.slice none 0 0), .lit (.string ⟨⟨[]⟩⟩), .lit (.slice none 0 0), .lit (.int .i64 0), .lit (.bool false), .lit (.string ⟨⟨[]⟩⟩)])) (g0 rfl) rfl rfl rfl ?_
            refine o_st (.box [.d (.lit (.string ⟨⟨[]⟩⟩)), .d (.lit (.int .i64 0)), .d (.lit (.slice none 0 0)), .d (.lit (.string ⟨⟨[]⟩⟩)), .d (.lit (.slice none 0 0)), .d (.lit (.int .i64 0)), .d (.lit (.bool false)), .d (.lit (.string ⟨⟨[]⟩⟩))]) (g0 rfl) rfl rfl rfl ?_
            refine o_s (.t (.d (.lit (.int .i64 11)))) (g0 rfl) rfl rfl rfl ?_
            refine o_nil ?_
            repeat (first | refine then_normal ?_ | refine then_exit ?_ | refine then_ret ?_ | refine block_normal ?_ | refine block_ret ?_ | refine block_exit ?_ | refine block_pass rfl ?_)
            refine c_ret ?_
            repeat (first | refine then_normal ?_ | refine then_exit ?_ | refine then_ret ?_ | refine block_normal ?_ | refine block_ret ?_ | refine block_exit ?_ | refine block_pass rfl ?_)
            obtain rfl := Option.some.inj h
            exact end0 rfl (.tup (.cons (.agg (.cons (.refl _) (.cons (.refl _) (.cons (.nil _) (.cons (.refl _) (.cons (.nil _) (.cons (.refl _) (.cons (.refl _) (.cons (.refl _) .nil))))))))) (.cons (.refl _) .nil)))
          · refine o_s (.t (.d (.seq 4 (List.map V.cells x4.1)))) (gy rfl rfl rfl h27) rfl rfl rfl ?_
            obtain ⟨x28, h29, h⟩ := bind_some h
            refine o_c (gy rfl rfl rfl h27) rfl rfl rfl (idxE' V.cells_eq h29) (idxC h29) ?_
            refine o_s (.imm [.lit (.int .i64 x28.n), .seq 1 (bytesD x28.b), .seq 4 (List.map V.cells x28.l)]) (gy rfl rfl rfl h27) rfl rfl rfl ?_
            refine o_s (.t (.d (.lit (.int .i64 x28.n)))) (gy rfl rfl rfl h27) rfl rfl rfl ?_
            refine o_s (.t (.d (.lit (.bool (decide (x28.n > 1)))))) (gy rfl rfl rfl h27) rfl rfl rfl ?_
            refine o_pk (.t (.d (.lit (.bool (decide (x28.n > 1)))))) (b := false) h27 (g0 rfl) rfl rfl rfl rfl rfl ?_
            refine o_nil ?_
            repeat (first | refine then_normal ?_ | refine then_exit ?_ | refine then_ret ?_ | refine block_normal ?_ | refine block_ret ?_ | refine block_exit ?_ | refine block_pass rfl ?_)
            rcases bif_some h with ⟨h30, h⟩ | ⟨h30, h⟩
            · refine c_t h30 rfl ?_
              refine c_seq ?_
              refine c_region ?_
              refine o_s (.t (.agg [.lit (.string ⟨⟨[]⟩⟩), .lit (.int .i64 0), .lit (.slice none 0 0), .lit (.string ⟨⟨[]⟩⟩), .lit (.slice none 0 0), .lit (.int .i64 0), .lit (.bool false), .lit (.string ⟨⟨[]⟩⟩)])) (g0 rfl) rfl rfl rfl ?_
              refine o_st (.box [.d (.lit (.string ⟨⟨[]⟩⟩)), .d (.lit (.int .i64 0)), .d (.lit (.slice none 0 0)), .d (.lit (.string ⟨⟨[]⟩⟩)), .d (.lit (.slice none 0 0)), .d (.lit (.int .i64 0)), .d (.lit (.bool false)), .d (.lit (.string ⟨⟨[]⟩⟩))]) (g0 rfl) rfl rfl rfl ?_
              refine o_s (.t (.d (.lit (.int .i64 11)))) (g0 rfl) rfl rfl rfl ?_
              refine o_nil ?_
              repeat (first | refine then_normal ?_ | refine then_exit ?_ | refine then_ret ?_ | refine block_normal ?_ | refine block_ret ?_ | refine block_exit ?_ | refine block_pass rfl ?_)
              refine c_ret ?_
              repeat (first | refine then_normal ?_ | refine then_exit ?_ | refine then_ret ?_ | refine block_normal ?_ | refine block_ret ?_ | refine block_exit ?_ | refine block_pass rfl ?_)
              obtain rfl := Option.some.inj h
              exact end0 rfl (.tup (.cons (.agg (.cons (.refl _) (.cons (.refl _) (.cons (.nil _) (.cons (.refl _) (.cons (.nil _) (.cons (.refl _) (.cons (.refl _) (.cons (.refl _) .nil))))))))) (.cons (.refl _) .nil)))
            · refine c_f h30 rfl ?_
              refine c_skip ?_
              repeat (first | refine then_normal ?_ | refine then_exit ?_ | refine then_ret ?_ | refine block_normal ?_ | refine block_ret ?_ | refine block_exit ?_ | refine block_pass rfl ?_)
              refine c_seq ?_
              refine c_region ?_
              refine o_s (.t (.agg [.lit (.string ⟨⟨x10.b⟩⟩), .lit (.int .i64 x12.n), .seq 1 (bytesD x14.b), .lit (.string ⟨⟨x16.b⟩⟩), .seq 2 (List.map cS_api_Member y24), .lit (.int .i64 x18.n), .lit (.bool (x20.n == 1)), .lit (.string ⟨⟨x22.b⟩⟩)])) (g0 rfl) rfl rfl rfl ?_
              refine o_st (.box [.d (.lit (.string ⟨⟨x10.b⟩⟩)), .d (.lit (.int .i64 x12.n)), .d (.seq 1 (bytesD x14.b)), .d (.lit (.string ⟨⟨x16.b⟩⟩)), .d (.seq 2 (List.map cS_api_Member y24)), .d (.lit (.int .i64 x18.n)), .d (.lit (.bool (x20.n == 1))), .d (.lit (.string ⟨⟨x22.b⟩⟩))]) (g0 rfl) rfl rfl rfl ?_
              refine o_s (.t (.d (.lit (.int .i64 0)))) (g0 rfl) rfl rfl rfl ?_
              refine o_nil ?_
              repeat (first | refine then_normal ?_ | refine then_exit ?_ | refine then_ret ?_ | refine block_normal ?_ | refine block_ret ?_ | refine block_exit ?_ | refine block_pass rfl ?_)
              refine c_ret ?_
              repeat (first | refine then_normal ?_ | refine then_exit ?_ | refine then_ret ?_ | refine block_normal ?_ | refine block_ret ?_ | refine block_exit ?_ | refine block_pass rfl ?_)
              obtain rfl := Option.some.inj h
              exact end0 rfl (.tup (.cons (.refl _) (.cons (.refl _) .nil)))

theorem fc_R27_Same (p0 : (List S_api_Member)) (p1 : (List S_api_Member)) (r : Bool) (h : m_R27_Same p0 p1 = some r) : FC Try.prog 41 [.t (.d (.seq 2 (List.map cS_api_Member p0))), .t (.d (.seq 2 (List.map cS_api_Member p1)))] [] (.t (.d (.lit (.bool r)))) := by
  refine fc_mk (rs := [.tmp 4]) (n := 26) Try.func41 rfl rfl (Nat.le_of_ble_eq_true rfl) rfl (pins := []) rfl (L := [(0, .t (.d (.seq 2 (List.map cS_api_Member p0)))), (1, .t (.d (.seq 2 (List.map cS_api_Member p1))))]) rfl ?_
  refine c_seq ?_
  refine c_region ?_
  refine o_s (.t (.d (.lit (.bool false)))) (g0 rfl) rfl rfl rfl ?_
  refine o_nil ?_
  repeat (first | refine then_normal ?_ | refine then_exit ?_ | refine then_ret ?_ | refine block_normal ?_ | refine block_ret ?_ | refine block_exit ?_ | refine block_pass rfl ?_)
  refine c_seq ?_
  refine c_seq ?_
  refine c_region ?_
  refine o_s (.t (.d (.seq 2 (List.map cS_api_Member p0)))) (g0 rfl) rfl rfl rfl ?_
  refine o_c (g0 rfl) rfl rfl rfl (lenE _ _) trivial ?_
  refine o_s (.t (.d (.seq 2 (List.map cS_api_Member p1)))) (g0 rfl) rfl rfl rfl ?_
  refine o_c (g0 rfl) rfl rfl rfl (lenE _ _) trivial ?_
  refine o_s (.t (.d (.lit (.bool ((p0.length : Int) != (p1.length : Int)))))) (g0 rfl) rfl rfl rfl ?_
  refine o_nil ?_
  repeat (first | refine then_normal ?_ | refine then_exit ?_ | refine then_ret ?_ | refine block_normal ?_ | refine block_ret ?_ | refine block_exit ?_ | refine block_pass rfl ?_)
  rcases bif_some h with ⟨h1, h⟩ | ⟨h1, h⟩
  · refine c_t h1 rfl ?_
    refine c_seq ?_
    refine c_region ?_
    refine o_s (.t (.d (.lit (.bool false)))) (g0 rfl) rfl rfl rfl ?_
    refine o_nil ?_
    repeat (first | refine then_normal ?_ | refine then_exit ?_ | refine then_ret ?_ | refine block_normal ?_ | refine block_ret ?_ | refine block_exit ?_ | refine block_pass rfl ?_)
    refine c_ret ?_
    repeat (first | refine then_normal ?_ | refine then_exit ?_ | refine then_ret ?_ | refine block_normal ?_ | refine block_ret ?_ | refine block_exit ?_ | refine block_pass rfl ?_)
    obtain rfl := Option.some.inj h
    exact end0 rfl (.refl _)
  · refine c_f h1 rfl ?_
    refine c_skip ?_
    repeat (first | refine then_normal ?_ | refine then_exit ?_ | refine then_ret ?_ | refine block_normal ?_ | refine block_ret ?_ | refine block_exit ?_ | refine block_pass rfl ?_)
    refine c_seq ?_
    refine c_seq ?_
    refine c_region ?_
    refine o_s (.t (.d (.lit (.int .i64 0)))) (g0 rfl) rfl rfl rfl ?_
    refine o_nil ?_
    repeat (first | refine then_normal ?_ | refine then_exit ?_ | refine then_ret ?_ | refine block_normal ?_ | refine block_ret ?_ | refine block_exit ?_ | refine block_pass rfl ?_)
    refine c_block ?_
    refine c_fuel (fun (z2 : Int) => [(0, .t (.d (.seq 2 (List.map cS_api_Member p0)))), (1, .t (.d (.seq 2 (List.map cS_api_Member p1)))), (5, .t (.d (.lit (.int .i64 z2))))]) (fun nl1 => (fun (z2 : Int) => m_R27_Same_l1 p0 p1 nl1 z2 = some r)) (p0.length + 1) 0 h ⟨(.refl _), ⟨(.refl _), ⟨(.refl _), trivial⟩⟩⟩ rfl ?_
    rintro nl1 z2 h
    cases nl1 with
    | zero => exact none_ne h
    | succ nl1 =>
      refine c_seq ?_
      refine c_seq ?_
      refine c_region ?_
      refine o_s (.t (.d (.lit (.int .i64 z2)))) (g0 rfl) rfl rfl rfl ?_
      refine o_s (.t (.d (.seq 2 (List.map cS_api_Member p0)))) (g0 rfl) rfl rfl rfl ?_
      refine o_c (g0 rfl) rfl rfl rfl (lenE _ _) trivial ?_
      refine o_s (.t (.d (.lit (.bool (decide (z2 < (p0.length : Int))))))) (g0 rfl) rfl rfl rfl ?_
      refine o_nil ?_
      repeat (first | refine then_normal ?_ | refine then_exit ?_ | refine then_ret ?_ | refine block_normal ?_ | refine block_ret ?_ | refine block_exit ?_ | refine block_pass rfl ?_)
      rcases bif_some h with ⟨h3, h⟩ | ⟨h3, h⟩
      · refine c_t h3 rfl ?_
        refine c_skip ?_
        repeat (first | refine then_normal ?_ | refine then_exit ?_ | refine then_ret ?_ | refine block_normal ?_ | refine block_ret ?_ | refine block_exit ?_ | refine block_pass rfl ?_)
        refine c_seq ?_
        refine c_block ?_
        refine c_seq ?_
        refine c_draw mixed (by kernel_rfl) ?_
        refine d_s (.t (.d (.seq 2 (List.map cS_api_Member p0)))) rfl (dg0 rfl) rfl rfl rfl rfl ?_
        refine d_s (.t (.d (.lit (.int .i64 z2)))) rfl (dg0 rfl) rfl rfl rfl rfl ?_
        obtain ⟨x4, h5, h⟩ := bind_some h
        refine d_c rfl (dg0 rfl) rfl rfl rfl rfl (idxE h5) (idxC h5) ?_
        refine d_s (.t (.agg [.lit (.string ⟨⟨x4.Name⟩⟩), .lit (.int .i64 x4.Role)])) rfl (dg0 rfl) rfl rfl rfl rfl ?_
        refine d_s (.t (.d (.seq 2 (List.map cS_api_Member p1)))) rfl (dg0 rfl) rfl rfl rfl rfl ?_
        refine d_s (.t (.d (.lit (.int .i64 z2)))) rfl (dg0 rfl) rfl rfl rfl rfl ?_
        obtain ⟨x6, h7, h⟩ := bind_some h
        refine d_c rfl (dg0 rfl) rfl rfl rfl rfl (idxE h7) (idxC h7) ?_
        refine d_s (.t (.agg [.lit (.string ⟨⟨x6.Name⟩⟩), .lit (.int .i64 x6.Role)])) rfl (dg0 rfl) rfl rfl rfl rfl ?_
        refine d_eqs true (b' := ((x4.Name == x6.Name) && ((x4.Role == x6.Role) && true))) (andE (str_beqL _ _) (andE rfl rfl)) rfl (dg0 rfl) rfl rfl rfl rfl rfl (by kernel_rfl) ((!((x4.Name == x6.Name) && ((x4.Role == x6.Role) && true)))) (by cases ((x4.Name == x6.Name) && ((x4.Role == x6.Role) && true)) <;> rfl) ?_
        refine d_nil (by kernel_rfl) ?_
        repeat (first | refine then_normal ?_ | refine then_exit ?_ | refine then_ret ?_ | refine block_normal ?_ | refine block_ret ?_ | refine block_exit ?_ | refine block_pass rfl ?_)
        rcases bif_some h with ⟨h8, h⟩ | ⟨h8, h⟩
        · refine c_t h8 rfl ?_
          refine c_seq ?_
          refine c_region ?_
          refine o_s (.t (.d (.lit (.bool false)))) (g0 rfl) rfl rfl rfl ?_
          refine o_nil ?_
          repeat (first | refine then_normal ?_ | refine then_exit ?_ | refine then_ret ?_ | refine block_normal ?_ | refine block_ret ?_ | refine block_exit ?_ | refine block_pass rfl ?_)
          refine c_ret ?_
          repeat (first | refine then_normal ?_ | refine then_exit ?_ | refine then_ret ?_ | refine block_normal ?_ | refine block_ret ?_ | refine block_exit ?_ | refine block_pass rfl ?_)
          obtain rfl := Option.some.inj h
          exact end0 rfl (.refl _)
        · refine c_f h8 rfl ?_
          refine c_skip ?_
          repeat (first | refine then_normal ?_ | refine then_exit ?_ | refine then_ret ?_ | refine block_normal ?_ | refine block_ret ?_ | refine block_exit ?_ | refine block_pass rfl ?_)
          refine c_region ?_
          refine o_s (.t (.d (.lit (.int .i64 z2)))) (g0 rfl) rfl rfl rfl ?_
          refine o_s (.t (.d (.lit (.int .i64 (wi (z2 + 1)))))) (g0 rfl) rfl rfl rfl ?_
          refine o_s (.t (.d (.lit (.int .i64 (wi (z2 + 1)))))) (g0 rfl) rfl rfl rfl ?_
          refine o_nil ?_
          repeat (first | refine then_normal ?_ | refine then_exit ?_ | refine then_ret ?_ | refine block_normal ?_ | refine block_ret ?_ | refine block_exit ?_ | refine block_pass rfl ?_)
          exact ⟨nl1, (wi (z2 + 1)), Nat.lt_succ_self nl1, h, ⟨(.refl _), ⟨(.refl _), ⟨(.refl _), trivial⟩⟩⟩, rfl⟩
      · refine c_f h3 rfl ?_
        refine c_exit ?_
        repeat (first | refine then_normal ?_ | refine then_exit ?_ | refine then_ret ?_ | refine block_normal ?_ | refine block_ret ?_ | refine block_exit ?_ | refine block_pass rfl ?_)
        refine c_seq ?_
        refine c_region ?_
        refine o_s (.t (.d (.lit (.bool true)))) (g0 rfl) rfl rfl rfl ?_
        refine o_nil ?_
        repeat (first | refine then_normal ?_ | refine then_exit ?_ | refine then_ret ?_ | refine block_normal ?_ | refine block_ret ?_ | refine block_exit ?_ | refine block_pass rfl ?_)
        refine c_ret ?_
        repeat (first | refine then_normal ?_ | refine then_exit ?_ | refine then_ret ?_ | refine block_normal ?_ | refine block_ret ?_ | refine block_exit ?_ | refine block_pass rfl ?_)
        obtain rfl := Option.some.inj h
        exact end0 rfl (.refl _)

theorem fc_R28_Same (p0 : S_api_Manifest) (p1 : S_api_Manifest) (r : Bool) (h : m_R28_Same p0 p1 = some r) : FC Try.prog 14 [.t (.agg [.lit (.string ⟨⟨p0.Folder⟩⟩), .lit (.int .i64 p0.Seq), .seq 1 (bytesD p0.Prev), .lit (.string ⟨⟨p0.Parent⟩⟩), .seq 2 (List.map cS_api_Member p0.Members), .lit (.int .i64 p0.Cut), .lit (.bool p0.Gone), .lit (.string ⟨⟨p0.By⟩⟩)]), .t (.agg [.lit (.string ⟨⟨p1.Folder⟩⟩), .lit (.int .i64 p1.Seq), .seq 1 (bytesD p1.Prev), .lit (.string ⟨⟨p1.Parent⟩⟩), .seq 2 (List.map cS_api_Member p1.Members), .lit (.int .i64 p1.Cut), .lit (.bool p1.Gone), .lit (.string ⟨⟨p1.By⟩⟩)])] [] (.t (.d (.lit (.bool r)))) := by
  refine fc_mk (rs := [.tmp 4]) (n := 59) Try.func14 rfl rfl (Nat.le_of_ble_eq_true rfl) rfl (pins := []) rfl (L := [(0, .t (.agg [.lit (.string ⟨⟨p0.Folder⟩⟩), .lit (.int .i64 p0.Seq), .seq 1 (bytesD p0.Prev), .lit (.string ⟨⟨p0.Parent⟩⟩), .seq 2 (List.map cS_api_Member p0.Members), .lit (.int .i64 p0.Cut), .lit (.bool p0.Gone), .lit (.string ⟨⟨p0.By⟩⟩)])), (1, .t (.agg [.lit (.string ⟨⟨p1.Folder⟩⟩), .lit (.int .i64 p1.Seq), .seq 1 (bytesD p1.Prev), .lit (.string ⟨⟨p1.Parent⟩⟩), .seq 2 (List.map cS_api_Member p1.Members), .lit (.int .i64 p1.Cut), .lit (.bool p1.Gone), .lit (.string ⟨⟨p1.By⟩⟩)]))]) rfl ?_
  refine c_seq ?_
  refine c_region ?_
  refine o_s (.box [.d (.lit (.string ⟨⟨p0.Folder⟩⟩)), .d (.lit (.int .i64 p0.Seq)), .d (.seq 1 (bytesD p0.Prev)), .d (.lit (.string ⟨⟨p0.Parent⟩⟩)), .d (.seq 2 (List.map cS_api_Member p0.Members)), .d (.lit (.int .i64 p0.Cut)), .d (.lit (.bool p0.Gone)), .d (.lit (.string ⟨⟨p0.By⟩⟩))]) (g0 rfl) rfl rfl rfl ?_
  refine o_s (.box [.d (.lit (.string ⟨⟨p1.Folder⟩⟩)), .d (.lit (.int .i64 p1.Seq)), .d (.seq 1 (bytesD p1.Prev)), .d (.lit (.string ⟨⟨p1.Parent⟩⟩)), .d (.seq 2 (List.map cS_api_Member p1.Members)), .d (.lit (.int .i64 p1.Cut)), .d (.lit (.bool p1.Gone)), .d (.lit (.string ⟨⟨p1.By⟩⟩))]) (g0 rfl) rfl rfl rfl ?_
  refine o_s (.t (.d (.lit (.bool false)))) (g0 rfl) rfl rfl rfl ?_
  refine o_nil ?_
  repeat (first | refine then_normal ?_ | refine then_exit ?_ | refine then_ret ?_ | refine block_normal ?_ | refine block_ret ?_ | refine block_exit ?_ | refine block_pass rfl ?_)
  refine c_seq ?_
  refine c_region ?_
  refine o_s (.ref 2 0) (g0 rfl) rfl rfl rfl ?_
  refine o_s (.t (.d (.lit (.string ⟨⟨p0.Folder⟩⟩)))) (g0 rfl) rfl rfl rfl ?_
  refine o_s (.ref 3 0) (g0 rfl) rfl rfl rfl ?_
  refine o_s (.t (.d (.lit (.string ⟨⟨p1.Folder⟩⟩)))) (g0 rfl) rfl rfl rfl ?_
  refine o_c (g0 rfl) rfl rfl rfl (congrArg (fun z => A.t (.d (.lit (.bool z)))) (str_beqL _ _)) trivial ?_
  refine o_s (.t (.d (.lit (.bool (p0.Folder == p1.Folder))))) (g0 rfl) rfl rfl rfl ?_
  rcases bif_some h with ⟨h1, h⟩ | ⟨h1, h⟩
  · refine o_s (.ref 2 1) (gy rfl rfl rfl h1) rfl rfl rfl ?_
    refine o_s (.t (.d (.lit (.int .i64 p0.Seq)))) (gy rfl rfl rfl h1) rfl rfl rfl ?_
    refine o_s (.ref 3 1) (gy rfl rfl rfl h1) rfl rfl rfl ?_
    refine o_s (.t (.d (.lit (.int .i64 p1.Seq)))) (gy rfl rfl rfl h1) rfl rfl rfl ?_
    refine o_s (.t (.d (.lit (.bool (p0.Seq == p1.Seq))))) (gy rfl rfl rfl h1) rfl rfl rfl ?_
    refine o_pk (.t (.d (.lit (.bool (p0.Seq == p1.Seq))))) (b := true) h1 (g0 rfl) rfl rfl rfl rfl rfl ?_
    refine o_s (.t (.d (.lit (.bool (p0.Seq == p1.Seq))))) (g0 rfl) rfl rfl rfl ?_
    rcases bif_some h with ⟨h2, h⟩ | ⟨h2, h⟩
    · refine o_s (.ref 2 2) (gy rfl rfl rfl h2) rfl rfl rfl ?_
      refine o_s (.t (.d (.seq 1 (bytesD p0.Prev)))) (gy rfl rfl rfl h2) rfl rfl rfl ?_
      refine o_s (.ref 3 2) (gy rfl rfl rfl h2) rfl rfl rfl ?_
      refine o_s (.t (.d (.seq 1 (bytesD p1.Prev)))) (gy rfl rfl rfl h2) rfl rfl rfl ?_
      obtain ⟨x3, h4, h⟩ := bind_some h
      refine o_ca (fc_R01_Same _ _ _ h4) (gy rfl rfl rfl h2) rfl rfl rfl rfl rfl rfl rfl (.cons (.refl _) (.cons (.refl _) .nil)) rfl rfl ?_
      refine o_pk (.t (.d (.lit (.bool x3)))) (b := true) h2 (g0 rfl) rfl rfl rfl rfl rfl ?_
      refine o_s (.t (.d (.lit (.bool x3)))) (g0 rfl) rfl rfl rfl ?_
      rcases bif_some h with ⟨h5, h⟩ | ⟨h5, h⟩
      · refine o_s (.ref 2 3) (gy rfl rfl rfl h5) rfl rfl rfl ?_
        refine o_s (.t (.d (.lit (.string ⟨⟨p0.Parent⟩⟩)))) (gy rfl rfl rfl h5) rfl rfl rfl ?_
        refine o_s (.ref 3 3) (gy rfl rfl rfl h5) rfl rfl rfl ?_
        refine o_s (.t (.d (.lit (.string ⟨⟨p1.Parent⟩⟩)))) (gy rfl rfl rfl h5) rfl rfl rfl ?_
        refine o_c (gy rfl rfl rfl h5) rfl rfl rfl (congrArg (fun z => A.t (.d (.lit (.bool z)))) (str_beqL _ _)) trivial ?_
        refine o_pk (.t (.d (.lit (.bool (p0.Parent == p1.Parent))))) (b := true) h5 (g0 rfl) rfl rfl rfl rfl rfl ?_
        refine o_s (.t (.d (.lit (.bool (p0.Parent == p1.Parent))))) (g0 rfl) rfl rfl rfl ?_
        rcases bif_some h with ⟨h6, h⟩ | ⟨h6, h⟩
        · refine o_s (.ref 2 4) (gy rfl rfl rfl h6) rfl rfl rfl ?_
          refine o_s (.t (.d (.seq 2 (List.map cS_api_Member p0.Members)))) (gy rfl rfl rfl h6) rfl rfl rfl ?_
          refine o_s (.ref 3 4) (gy rfl rfl rfl h6) rfl rfl rfl ?_
          refine o_s (.t (.d (.seq 2 (List.map cS_api_Member p1.Members)))) (gy rfl rfl rfl h6) rfl rfl rfl ?_
          obtain ⟨x7, h8, h⟩ := bind_some h
          refine o_ca (fc_R27_Same _ _ _ h8) (gy rfl rfl rfl h6) rfl rfl rfl rfl rfl rfl rfl (.cons (.refl _) (.cons (.refl _) .nil)) rfl rfl ?_
          refine o_pk (.t (.d (.lit (.bool x7)))) (b := true) h6 (g0 rfl) rfl rfl rfl rfl rfl ?_
          refine o_s (.t (.d (.lit (.bool x7)))) (g0 rfl) rfl rfl rfl ?_
          rcases bif_some h with ⟨h9, h⟩ | ⟨h9, h⟩
          · refine o_s (.ref 2 5) (gy rfl rfl rfl h9) rfl rfl rfl ?_
            refine o_s (.t (.d (.lit (.int .i64 p0.Cut)))) (gy rfl rfl rfl h9) rfl rfl rfl ?_
            refine o_s (.ref 3 5) (gy rfl rfl rfl h9) rfl rfl rfl ?_
            refine o_s (.t (.d (.lit (.int .i64 p1.Cut)))) (gy rfl rfl rfl h9) rfl rfl rfl ?_
            refine o_s (.t (.d (.lit (.bool (p0.Cut == p1.Cut))))) (gy rfl rfl rfl h9) rfl rfl rfl ?_
            refine o_pk (.t (.d (.lit (.bool (p0.Cut == p1.Cut))))) (b := true) h9 (g0 rfl) rfl rfl rfl rfl rfl ?_
            refine o_s (.t (.d (.lit (.bool (p0.Cut == p1.Cut))))) (g0 rfl) rfl rfl rfl ?_
            rcases bif_some h with ⟨h10, h⟩ | ⟨h10, h⟩
            · refine o_s (.ref 2 6) (gy rfl rfl rfl h10) rfl rfl rfl ?_
              refine o_s (.t (.d (.lit (.bool p0.Gone)))) (gy rfl rfl rfl h10) rfl rfl rfl ?_
              refine o_s (.ref 3 6) (gy rfl rfl rfl h10) rfl rfl rfl ?_
              refine o_s (.t (.d (.lit (.bool p1.Gone)))) (gy rfl rfl rfl h10) rfl rfl rfl ?_
              refine o_s (.t (.d (.lit (.bool (p0.Gone == p1.Gone))))) (gy rfl rfl rfl h10) rfl rfl rfl ?_
              refine o_pk (.t (.d (.lit (.bool (p0.Gone == p1.Gone))))) (b := true) h10 (g0 rfl) rfl rfl rfl rfl rfl ?_
              refine o_s (.t (.d (.lit (.bool (p0.Gone == p1.Gone))))) (g0 rfl) rfl rfl rfl ?_
              rcases bif_some h with ⟨h11, h⟩ | ⟨h11, h⟩
              · refine o_s (.ref 2 7) (gy rfl rfl rfl h11) rfl rfl rfl ?_
                refine o_s (.t (.d (.lit (.string ⟨⟨p0.By⟩⟩)))) (gy rfl rfl rfl h11) rfl rfl rfl ?_
                refine o_s (.ref 3 7) (gy rfl rfl rfl h11) rfl rfl rfl ?_
                refine o_s (.t (.d (.lit (.string ⟨⟨p1.By⟩⟩)))) (gy rfl rfl rfl h11) rfl rfl rfl ?_
                refine o_c (gy rfl rfl rfl h11) rfl rfl rfl (congrArg (fun z => A.t (.d (.lit (.bool z)))) (str_beqL _ _)) trivial ?_
                refine o_pk (.t (.d (.lit (.bool (p0.By == p1.By))))) (b := true) h11 (g0 rfl) rfl rfl rfl rfl rfl ?_
                refine o_s (.t (.d (.lit (.bool (p0.By == p1.By))))) (g0 rfl) rfl rfl rfl ?_
                refine o_nil ?_
                repeat (first | refine then_normal ?_ | refine then_exit ?_ | refine then_ret ?_ | refine block_normal ?_ | refine block_ret ?_ | refine block_exit ?_ | refine block_pass rfl ?_)
                refine c_ret ?_
                repeat (first | refine then_normal ?_ | refine then_exit ?_ | refine then_ret ?_ | refine block_normal ?_ | refine block_ret ?_ | refine block_exit ?_ | refine block_pass rfl ?_)
                obtain rfl := Option.some.inj h
                exact end0 rfl (.refl _)
              · refine o_skip rfl rfl rfl h11 rfl rfl ?_
                refine o_skip rfl rfl rfl h11 rfl rfl ?_
                refine o_skip rfl rfl rfl h11 rfl rfl ?_
                refine o_skip rfl rfl rfl h11 rfl rfl ?_
                refine o_skip rfl rfl rfl h11 rfl rfl ?_
                refine o_pk (.t (.d (.lit (.bool false)))) (b := false) h11 (g0 rfl) rfl rfl rfl rfl rfl ?_
                refine o_s (.t (.d (.lit (.bool false)))) (g0 rfl) rfl rfl rfl ?_
                refine o_nil ?_
                repeat (first | refine then_normal ?_ | refine then_exit ?_ | refine then_ret ?_ | refine block_normal ?_ | refine block_ret ?_ | refine block_exit ?_ | refine block_pass rfl ?_)
                refine c_ret ?_
                repeat (first | refine then_normal ?_ | refine then_exit ?_ | refine then_ret ?_ | refine block_normal ?_ | refine block_ret ?_ | refine block_exit ?_ | refine block_pass rfl ?_)
                obtain rfl := Option.some.inj h
                exact end0 rfl (.refl _)
            · refine o_skip rfl rfl rfl h10 rfl rfl ?_
              refine o_skip rfl rfl rfl h10 rfl rfl ?_
              refine o_skip rfl rfl rfl h10 rfl rfl ?_
              refine o_skip rfl rfl rfl h10 rfl rfl ?_
              refine o_skip rfl rfl rfl h10 rfl rfl ?_
              refine o_pk (.t (.d (.lit (.bool false)))) (b := false) h10 (g0 rfl) rfl rfl rfl rfl rfl ?_
              refine o_s (.t (.d (.lit (.bool false)))) (g0 rfl) rfl rfl rfl ?_
              refine o_skip rfl rfl rfl rfl rfl rfl ?_
              refine o_skip rfl rfl rfl rfl rfl rfl ?_
              refine o_skip rfl rfl rfl rfl rfl rfl ?_
              refine o_skip rfl rfl rfl rfl rfl rfl ?_
              refine o_skip rfl rfl rfl rfl rfl rfl ?_
              refine o_pk (.t (.d (.lit (.bool false)))) (b := false) rfl (g0 rfl) rfl rfl rfl rfl rfl ?_
              refine o_s (.t (.d (.lit (.bool false)))) (g0 rfl) rfl rfl rfl ?_
              refine o_nil ?_
              repeat (first | refine then_normal ?_ | refine then_exit ?_ | refine then_ret ?_ | refine block_normal ?_ | refine block_ret ?_ | refine block_exit ?_ | refine block_pass rfl ?_)
              refine c_ret ?_
              repeat (first | refine then_normal ?_ | refine then_exit ?_ | refine then_ret ?_ | refine block_normal ?_ | refine block_ret ?_ | refine block_exit ?_ | refine block_pass rfl ?_)
              obtain rfl := Option.some.inj h
              exact end0 rfl (.refl _)
          · refine o_skip rfl rfl rfl h9 rfl rfl ?_
            refine o_skip rfl rfl rfl h9 rfl rfl ?_
            refine o_skip rfl rfl rfl h9 rfl rfl ?_
            refine o_skip rfl rfl rfl h9 rfl rfl ?_
            refine o_skip rfl rfl rfl h9 rfl rfl ?_
            refine o_pk (.t (.d (.lit (.bool false)))) (b := false) h9 (g0 rfl) rfl rfl rfl rfl rfl ?_
            refine o_s (.t (.d (.lit (.bool false)))) (g0 rfl) rfl rfl rfl ?_
            refine o_skip rfl rfl rfl rfl rfl rfl ?_
            refine o_skip rfl rfl rfl rfl rfl rfl ?_
            refine o_skip rfl rfl rfl rfl rfl rfl ?_
            refine o_skip rfl rfl rfl rfl rfl rfl ?_
            refine o_skip rfl rfl rfl rfl rfl rfl ?_
            refine o_pk (.t (.d (.lit (.bool false)))) (b := false) rfl (g0 rfl) rfl rfl rfl rfl rfl ?_
            refine o_s (.t (.d (.lit (.bool false)))) (g0 rfl) rfl rfl rfl ?_
            refine o_skip rfl rfl rfl rfl rfl rfl ?_
            refine o_skip rfl rfl rfl rfl rfl rfl ?_
            refine o_skip rfl rfl rfl rfl rfl rfl ?_
            refine o_skip rfl rfl rfl rfl rfl rfl ?_
            refine o_skip rfl rfl rfl rfl rfl rfl ?_
            refine o_pk (.t (.d (.lit (.bool false)))) (b := false) rfl (g0 rfl) rfl rfl rfl rfl rfl ?_
            refine o_s (.t (.d (.lit (.bool false)))) (g0 rfl) rfl rfl rfl ?_
            refine o_nil ?_
            repeat (first | refine then_normal ?_ | refine then_exit ?_ | refine then_ret ?_ | refine block_normal ?_ | refine block_ret ?_ | refine block_exit ?_ | refine block_pass rfl ?_)
            refine c_ret ?_
            repeat (first | refine then_normal ?_ | refine then_exit ?_ | refine then_ret ?_ | refine block_normal ?_ | refine block_ret ?_ | refine block_exit ?_ | refine block_pass rfl ?_)
            obtain rfl := Option.some.inj h
            exact end0 rfl (.refl _)
        · refine o_skip rfl rfl rfl h6 rfl rfl ?_
          refine o_skip rfl rfl rfl h6 rfl rfl ?_
          refine o_skip rfl rfl rfl h6 rfl rfl ?_
          refine o_skip rfl rfl rfl h6 rfl rfl ?_
          refine o_skip rfl rfl rfl h6 rfl rfl ?_
          refine o_pk (.t (.d (.lit (.bool false)))) (b := false) h6 (g0 rfl) rfl rfl rfl rfl rfl ?_
          refine o_s (.t (.d (.lit (.bool false)))) (g0 rfl) rfl rfl rfl ?_
          refine o_skip rfl rfl rfl rfl rfl rfl ?_
          refine o_skip rfl rfl rfl rfl rfl rfl ?_
          refine o_skip rfl rfl rfl rfl rfl rfl ?_
          refine o_skip rfl rfl rfl rfl rfl rfl ?_
          refine o_skip rfl rfl rfl rfl rfl rfl ?_
          refine o_pk (.t (.d (.lit (.bool false)))) (b := false) rfl (g0 rfl) rfl rfl rfl rfl rfl ?_
          refine o_s (.t (.d (.lit (.bool false)))) (g0 rfl) rfl rfl rfl ?_
          refine o_skip rfl rfl rfl rfl rfl rfl ?_
          refine o_skip rfl rfl rfl rfl rfl rfl ?_
          refine o_skip rfl rfl rfl rfl rfl rfl ?_
          refine o_skip rfl rfl rfl rfl rfl rfl ?_
          refine o_skip rfl rfl rfl rfl rfl rfl ?_
          refine o_pk (.t (.d (.lit (.bool false)))) (b := false) rfl (g0 rfl) rfl rfl rfl rfl rfl ?_
          refine o_s (.t (.d (.lit (.bool false)))) (g0 rfl) rfl rfl rfl ?_
          refine o_skip rfl rfl rfl rfl rfl rfl ?_
          refine o_skip rfl rfl rfl rfl rfl rfl ?_
          refine o_skip rfl rfl rfl rfl rfl rfl ?_
          refine o_skip rfl rfl rfl rfl rfl rfl ?_
          refine o_skip rfl rfl rfl rfl rfl rfl ?_
          refine o_pk (.t (.d (.lit (.bool false)))) (b := false) rfl (g0 rfl) rfl rfl rfl rfl rfl ?_
          refine o_s (.t (.d (.lit (.bool false)))) (g0 rfl) rfl rfl rfl ?_
          refine o_nil ?_
          repeat (first | refine then_normal ?_ | refine then_exit ?_ | refine then_ret ?_ | refine block_normal ?_ | refine block_ret ?_ | refine block_exit ?_ | refine block_pass rfl ?_)
          refine c_ret ?_
          repeat (first | refine then_normal ?_ | refine then_exit ?_ | refine then_ret ?_ | refine block_normal ?_ | refine block_ret ?_ | refine block_exit ?_ | refine block_pass rfl ?_)
          obtain rfl := Option.some.inj h
          exact end0 rfl (.refl _)
      · refine o_skip rfl rfl rfl h5 rfl rfl ?_
        refine o_skip rfl rfl rfl h5 rfl rfl ?_
        refine o_skip rfl rfl rfl h5 rfl rfl ?_
        refine o_skip rfl rfl rfl h5 rfl rfl ?_
        refine o_skip rfl rfl rfl h5 rfl rfl ?_
        refine o_pk (.t (.d (.lit (.bool false)))) (b := false) h5 (g0 rfl) rfl rfl rfl rfl rfl ?_
        refine o_s (.t (.d (.lit (.bool false)))) (g0 rfl) rfl rfl rfl ?_
        refine o_skip rfl rfl rfl rfl rfl rfl ?_
        refine o_skip rfl rfl rfl rfl rfl rfl ?_
        refine o_skip rfl rfl rfl rfl rfl rfl ?_
        refine o_skip rfl rfl rfl rfl rfl rfl ?_
        refine o_skip rfl rfl rfl rfl rfl rfl ?_
        refine o_pk (.t (.d (.lit (.bool false)))) (b := false) rfl (g0 rfl) rfl rfl rfl rfl rfl ?_
        refine o_s (.t (.d (.lit (.bool false)))) (g0 rfl) rfl rfl rfl ?_
        refine o_skip rfl rfl rfl rfl rfl rfl ?_
        refine o_skip rfl rfl rfl rfl rfl rfl ?_
        refine o_skip rfl rfl rfl rfl rfl rfl ?_
        refine o_skip rfl rfl rfl rfl rfl rfl ?_
        refine o_skip rfl rfl rfl rfl rfl rfl ?_
        refine o_pk (.t (.d (.lit (.bool false)))) (b := false) rfl (g0 rfl) rfl rfl rfl rfl rfl ?_
        refine o_s (.t (.d (.lit (.bool false)))) (g0 rfl) rfl rfl rfl ?_
        refine o_skip rfl rfl rfl rfl rfl rfl ?_
        refine o_skip rfl rfl rfl rfl rfl rfl ?_
        refine o_skip rfl rfl rfl rfl rfl rfl ?_
        refine o_skip rfl rfl rfl rfl rfl rfl ?_
        refine o_skip rfl rfl rfl rfl rfl rfl ?_
        refine o_pk (.t (.d (.lit (.bool false)))) (b := false) rfl (g0 rfl) rfl rfl rfl rfl rfl ?_
        refine o_s (.t (.d (.lit (.bool false)))) (g0 rfl) rfl rfl rfl ?_
        refine o_skip rfl rfl rfl rfl rfl rfl ?_
        refine o_skip rfl rfl rfl rfl rfl rfl ?_
        refine o_skip rfl rfl rfl rfl rfl rfl ?_
        refine o_skip rfl rfl rfl rfl rfl rfl ?_
        refine o_skip rfl rfl rfl rfl rfl rfl ?_
        refine o_pk (.t (.d (.lit (.bool false)))) (b := false) rfl (g0 rfl) rfl rfl rfl rfl rfl ?_
        refine o_s (.t (.d (.lit (.bool false)))) (g0 rfl) rfl rfl rfl ?_
        refine o_nil ?_
        repeat (first | refine then_normal ?_ | refine then_exit ?_ | refine then_ret ?_ | refine block_normal ?_ | refine block_ret ?_ | refine block_exit ?_ | refine block_pass rfl ?_)
        refine c_ret ?_
        repeat (first | refine then_normal ?_ | refine then_exit ?_ | refine then_ret ?_ | refine block_normal ?_ | refine block_ret ?_ | refine block_exit ?_ | refine block_pass rfl ?_)
        obtain rfl := Option.some.inj h
        exact end0 rfl (.refl _)
    · refine o_skip rfl rfl rfl h2 rfl rfl ?_
      refine o_skip rfl rfl rfl h2 rfl rfl ?_
      refine o_skip rfl rfl rfl h2 rfl rfl ?_
      refine o_skip rfl rfl rfl h2 rfl rfl ?_
      refine o_skip rfl rfl rfl h2 rfl rfl ?_
      refine o_pk (.t (.d (.lit (.bool false)))) (b := false) h2 (g0 rfl) rfl rfl rfl rfl rfl ?_
      refine o_s (.t (.d (.lit (.bool false)))) (g0 rfl) rfl rfl rfl ?_
      refine o_skip rfl rfl rfl rfl rfl rfl ?_
      refine o_skip rfl rfl rfl rfl rfl rfl ?_
      refine o_skip rfl rfl rfl rfl rfl rfl ?_
      refine o_skip rfl rfl rfl rfl rfl rfl ?_
      refine o_skip rfl rfl rfl rfl rfl rfl ?_
      refine o_pk (.t (.d (.lit (.bool false)))) (b := false) rfl (g0 rfl) rfl rfl rfl rfl rfl ?_
      refine o_s (.t (.d (.lit (.bool false)))) (g0 rfl) rfl rfl rfl ?_
      refine o_skip rfl rfl rfl rfl rfl rfl ?_
      refine o_skip rfl rfl rfl rfl rfl rfl ?_
      refine o_skip rfl rfl rfl rfl rfl rfl ?_
      refine o_skip rfl rfl rfl rfl rfl rfl ?_
      refine o_skip rfl rfl rfl rfl rfl rfl ?_
      refine o_pk (.t (.d (.lit (.bool false)))) (b := false) rfl (g0 rfl) rfl rfl rfl rfl rfl ?_
      refine o_s (.t (.d (.lit (.bool false)))) (g0 rfl) rfl rfl rfl ?_
      refine o_skip rfl rfl rfl rfl rfl rfl ?_
      refine o_skip rfl rfl rfl rfl rfl rfl ?_
      refine o_skip rfl rfl rfl rfl rfl rfl ?_
      refine o_skip rfl rfl rfl rfl rfl rfl ?_
      refine o_skip rfl rfl rfl rfl rfl rfl ?_
      refine o_pk (.t (.d (.lit (.bool false)))) (b := false) rfl (g0 rfl) rfl rfl rfl rfl rfl ?_
      refine o_s (.t (.d (.lit (.bool false)))) (g0 rfl) rfl rfl rfl ?_
      refine o_skip rfl rfl rfl rfl rfl rfl ?_
      refine o_skip rfl rfl rfl rfl rfl rfl ?_
      refine o_skip rfl rfl rfl rfl rfl rfl ?_
      refine o_skip rfl rfl rfl rfl rfl rfl ?_
      refine o_skip rfl rfl rfl rfl rfl rfl ?_
      refine o_pk (.t (.d (.lit (.bool false)))) (b := false) rfl (g0 rfl) rfl rfl rfl rfl rfl ?_
      refine o_s (.t (.d (.lit (.bool false)))) (g0 rfl) rfl rfl rfl ?_
      refine o_skip rfl rfl rfl rfl rfl rfl ?_
      refine o_skip rfl rfl rfl rfl rfl rfl ?_
      refine o_skip rfl rfl rfl rfl rfl rfl ?_
      refine o_skip rfl rfl rfl rfl rfl rfl ?_
      refine o_skip rfl rfl rfl rfl rfl rfl ?_
      refine o_pk (.t (.d (.lit (.bool false)))) (b := false) rfl (g0 rfl) rfl rfl rfl rfl rfl ?_
      refine o_s (.t (.d (.lit (.bool false)))) (g0 rfl) rfl rfl rfl ?_
      refine o_nil ?_
      repeat (first | refine then_normal ?_ | refine then_exit ?_ | refine then_ret ?_ | refine block_normal ?_ | refine block_ret ?_ | refine block_exit ?_ | refine block_pass rfl ?_)
      refine c_ret ?_
      repeat (first | refine then_normal ?_ | refine then_exit ?_ | refine then_ret ?_ | refine block_normal ?_ | refine block_ret ?_ | refine block_exit ?_ | refine block_pass rfl ?_)
      obtain rfl := Option.some.inj h
      exact end0 rfl (.refl _)
  · refine o_skip rfl rfl rfl h1 rfl rfl ?_
    refine o_skip rfl rfl rfl h1 rfl rfl ?_
    refine o_skip rfl rfl rfl h1 rfl rfl ?_
    refine o_skip rfl rfl rfl h1 rfl rfl ?_
    refine o_skip rfl rfl rfl h1 rfl rfl ?_
    refine o_pk (.t (.d (.lit (.bool false)))) (b := false) h1 (g0 rfl) rfl rfl rfl rfl rfl ?_
    refine o_s (.t (.d (.lit (.bool false)))) (g0 rfl) rfl rfl rfl ?_
    refine o_skip rfl rfl rfl rfl rfl rfl ?_
    refine o_skip rfl rfl rfl rfl rfl rfl ?_
    refine o_skip rfl rfl rfl rfl rfl rfl ?_
    refine o_skip rfl rfl rfl rfl rfl rfl ?_
    refine o_skip rfl rfl rfl rfl rfl rfl ?_
    refine o_pk (.t (.d (.lit (.bool false)))) (b := false) rfl (g0 rfl) rfl rfl rfl rfl rfl ?_
    refine o_s (.t (.d (.lit (.bool false)))) (g0 rfl) rfl rfl rfl ?_
    refine o_skip rfl rfl rfl rfl rfl rfl ?_
    refine o_skip rfl rfl rfl rfl rfl rfl ?_
    refine o_skip rfl rfl rfl rfl rfl rfl ?_
    refine o_skip rfl rfl rfl rfl rfl rfl ?_
    refine o_skip rfl rfl rfl rfl rfl rfl ?_
    refine o_pk (.t (.d (.lit (.bool false)))) (b := false) rfl (g0 rfl) rfl rfl rfl rfl rfl ?_
    refine o_s (.t (.d (.lit (.bool false)))) (g0 rfl) rfl rfl rfl ?_
    refine o_skip rfl rfl rfl rfl rfl rfl ?_
    refine o_skip rfl rfl rfl rfl rfl rfl ?_
    refine o_skip rfl rfl rfl rfl rfl rfl ?_
    refine o_skip rfl rfl rfl rfl rfl rfl ?_
    refine o_skip rfl rfl rfl rfl rfl rfl ?_
    refine o_pk (.t (.d (.lit (.bool false)))) (b := false) rfl (g0 rfl) rfl rfl rfl rfl rfl ?_
    refine o_s (.t (.d (.lit (.bool false)))) (g0 rfl) rfl rfl rfl ?_
    refine o_skip rfl rfl rfl rfl rfl rfl ?_
    refine o_skip rfl rfl rfl rfl rfl rfl ?_
    refine o_skip rfl rfl rfl rfl rfl rfl ?_
    refine o_skip rfl rfl rfl rfl rfl rfl ?_
    refine o_skip rfl rfl rfl rfl rfl rfl ?_
    refine o_pk (.t (.d (.lit (.bool false)))) (b := false) rfl (g0 rfl) rfl rfl rfl rfl rfl ?_
    refine o_s (.t (.d (.lit (.bool false)))) (g0 rfl) rfl rfl rfl ?_
    refine o_skip rfl rfl rfl rfl rfl rfl ?_
    refine o_skip rfl rfl rfl rfl rfl rfl ?_
    refine o_skip rfl rfl rfl rfl rfl rfl ?_
    refine o_skip rfl rfl rfl rfl rfl rfl ?_
    refine o_skip rfl rfl rfl rfl rfl rfl ?_
    refine o_pk (.t (.d (.lit (.bool false)))) (b := false) rfl (g0 rfl) rfl rfl rfl rfl rfl ?_
    refine o_s (.t (.d (.lit (.bool false)))) (g0 rfl) rfl rfl rfl ?_
    refine o_skip rfl rfl rfl rfl rfl rfl ?_
    refine o_skip rfl rfl rfl rfl rfl rfl ?_
    refine o_skip rfl rfl rfl rfl rfl rfl ?_
    refine o_skip rfl rfl rfl rfl rfl rfl ?_
    refine o_skip rfl rfl rfl rfl rfl rfl ?_
    refine o_pk (.t (.d (.lit (.bool false)))) (b := false) rfl (g0 rfl) rfl rfl rfl rfl rfl ?_
    refine o_s (.t (.d (.lit (.bool false)))) (g0 rfl) rfl rfl rfl ?_
    refine o_nil ?_
    repeat (first | refine then_normal ?_ | refine then_exit ?_ | refine then_ret ?_ | refine block_normal ?_ | refine block_ret ?_ | refine block_exit ?_ | refine block_pass rfl ?_)
    refine c_ret ?_
    repeat (first | refine then_normal ?_ | refine then_exit ?_ | refine then_ret ?_ | refine block_normal ?_ | refine block_ret ?_ | refine block_exit ?_ | refine block_pass rfl ?_)
    obtain rfl := Option.some.inj h
    exact end0 rfl (.refl _)

theorem fc_L28_ManifestText (p0 : S_api_Manifest) (r : Bool) (h : m_L28_ManifestText p0 = some r) : FC Try.prog 3 [.t (.agg [.lit (.string ⟨⟨p0.Folder⟩⟩), .lit (.int .i64 p0.Seq), .seq 1 (bytesD p0.Prev), .lit (.string ⟨⟨p0.Parent⟩⟩), .seq 2 (List.map cS_api_Member p0.Members), .lit (.int .i64 p0.Cut), .lit (.bool p0.Gone), .lit (.string ⟨⟨p0.By⟩⟩)])] [] (.t (.d (.lit (.bool r)))) := by
  refine fc_mk (rs := [.tmp 2]) (n := 54) Try.func3 rfl rfl (Nat.le_of_ble_eq_true rfl) rfl (pins := []) rfl (L := [(0, .t (.agg [.lit (.string ⟨⟨p0.Folder⟩⟩), .lit (.int .i64 p0.Seq), .seq 1 (bytesD p0.Prev), .lit (.string ⟨⟨p0.Parent⟩⟩), .seq 2 (List.map cS_api_Member p0.Members), .lit (.int .i64 p0.Cut), .lit (.bool p0.Gone), .lit (.string ⟨⟨p0.By⟩⟩)]))]) rfl ?_
  refine c_seq ?_
  refine c_region ?_
  refine o_s (.box [.d (.lit (.string ⟨⟨p0.Folder⟩⟩)), .d (.lit (.int .i64 p0.Seq)), .d (.seq 1 (bytesD p0.Prev)), .d (.lit (.string ⟨⟨p0.Parent⟩⟩)), .d (.seq 2 (List.map cS_api_Member p0.Members)), .d (.lit (.int .i64 p0.Cut)), .d (.lit (.bool p0.Gone)), .d (.lit (.string ⟨⟨p0.By⟩⟩))]) (g0 rfl) rfl rfl rfl ?_
  refine o_s (.t (.d (.lit (.bool false)))) (g0 rfl) rfl rfl rfl ?_
  refine o_nil ?_
  repeat (first | refine then_normal ?_ | refine then_exit ?_ | refine then_ret ?_ | refine block_normal ?_ | refine block_ret ?_ | refine block_exit ?_ | refine block_pass rfl ?_)
  refine c_seq ?_
  refine c_seq ?_
  refine c_region ?_
  obtain ⟨x1, h2, h⟩ := bind_some h
  refine o_ca (fc_L28_awake _ h2) (g0 rfl) rfl rfl rfl rfl rfl rfl rfl .nil rfl rfl ?_
  refine o_s (.t (.d (.lit (.bool (!x1))))) (g0 rfl) rfl rfl rfl ?_
  refine o_nil ?_
  repeat (first | refine then_normal ?_ | refine then_exit ?_ | refine then_ret ?_ | refine block_normal ?_ | refine block_ret ?_ | refine block_exit ?_ | refine block_pass rfl ?_)
  rcases bif_some h with ⟨h3, h⟩ | ⟨h3, h⟩
  · refine c_t h3 rfl ?_
    refine c_seq ?_
    refine c_region ?_
    refine o_s (.t (.d (.lit (.bool false)))) (g0 rfl) rfl rfl rfl ?_
    refine o_nil ?_
    repeat (first | refine then_normal ?_ | refine then_exit ?_ | refine then_ret ?_ | refine block_normal ?_ | refine block_ret ?_ | refine block_exit ?_ | refine block_pass rfl ?_)
    refine c_ret ?_
    repeat (first | refine then_normal ?_ | refine then_exit ?_ | refine then_ret ?_ | refine block_normal ?_ | refine block_ret ?_ | refine block_exit ?_ | refine block_pass rfl ?_)
    obtain rfl := Option.some.inj h
    exact end0 rfl (.refl _)
  · refine c_f h3 rfl ?_
    refine c_skip ?_
    repeat (first | refine then_normal ?_ | refine then_exit ?_ | refine then_ret ?_ | refine block_normal ?_ | refine block_ret ?_ | refine block_exit ?_ | refine block_pass rfl ?_)
    refine c_seq ?_
    refine c_seq ?_
    refine c_region ?_
    refine o_s (.t (.agg [.lit (.string ⟨⟨p0.Folder⟩⟩), .lit (.int .i64 p0.Seq), .seq 1 (bytesD p0.Prev), .lit (.string ⟨⟨p0.Parent⟩⟩), .seq 2 (List.map cS_api_Member p0.Members), .lit (.int .i64 p0.Cut), .lit (.bool p0.Gone), .lit (.string ⟨⟨p0.By⟩⟩)])) (g0 rfl) rfl rfl rfl ?_
    obtain ⟨x4, h5, h⟩ := bind_some h
    refine o_ca (fc_L28_Few _ _ h5) (g0 rfl) rfl rfl rfl rfl rfl rfl rfl (.cons (.refl _) .nil) rfl rfl ?_
    refine o_s (.t (.d (.lit (.bool (!x4))))) (g0 rfl) rfl rfl rfl ?_
    refine o_nil ?_
    repeat (first | refine then_normal ?_ | refine then_exit ?_ | refine then_ret ?_ | refine block_normal ?_ | refine block_ret ?_ | refine block_exit ?_ | refine block_pass rfl ?_)
    rcases bif_some h with ⟨h6, h⟩ | ⟨h6, h⟩
    · refine c_t h6 rfl ?_
      refine c_seq ?_
      refine c_region ?_
      refine o_s (.t (.d (.lit (.bool true)))) (g0 rfl) rfl rfl rfl ?_
      refine o_nil ?_
      repeat (first | refine then_normal ?_ | refine then_exit ?_ | refine then_ret ?_ | refine block_normal ?_ | refine block_ret ?_ | refine block_exit ?_ | refine block_pass rfl ?_)
      refine c_ret ?_
      repeat (first | refine then_normal ?_ | refine then_exit ?_ | refine then_ret ?_ | refine block_normal ?_ | refine block_ret ?_ | refine block_exit ?_ | refine block_pass rfl ?_)
      obtain rfl := Option.some.inj h
      exact end0 rfl (.refl _)
    · refine c_f h6 rfl ?_
      refine c_skip ?_
      repeat (first | refine then_normal ?_ | refine then_exit ?_ | refine then_ret ?_ | refine block_normal ?_ | refine block_ret ?_ | refine block_exit ?_ | refine block_pass rfl ?_)
      refine c_seq ?_
      refine c_region ?_
      refine o_s (.t (.agg [.lit (.string ⟨⟨p0.Folder⟩⟩), .lit (.int .i64 p0.Seq), .seq 1 (bytesD p0.Prev), .lit (.string ⟨⟨p0.Parent⟩⟩), .seq 2 (List.map cS_api_Member p0.Members), .lit (.int .i64 p0.Cut), .lit (.bool p0.Gone), .lit (.string ⟨⟨p0.By⟩⟩)])) (g0 rfl) rfl rfl rfl ?_
      obtain ⟨x7, h8, h⟩ := bind_some h
      refine o_ca (fc_manifest_Text _ _ h8) (g0 rfl) rfl rfl rfl rfl rfl rfl rfl (.cons (.refl _) .nil) rfl rfl ?_
      refine o_s (.tup [.d (.seq 1 (bytesD x7.1)), .d (.lit (.int .i64 x7.2))]) (g0 rfl) rfl rfl rfl ?_
      refine o_s (.t (.d (.seq 1 (bytesD x7.1)))) (g0 rfl) rfl rfl rfl ?_
      refine o_s (.t (.d (.lit (.int .i64 x7.2)))) (g0 rfl) rfl rfl rfl ?_
      refine o_s (.t (.d (.seq 1 (bytesD x7.1)))) (g0 rfl) rfl rfl rfl ?_
      refine o_s (.t (.d (.lit (.int .i64 x7.2)))) (g0 rfl) rfl rfl rfl ?_
      refine o_nil ?_
      repeat (first | refine then_normal ?_ | refine then_exit ?_ | refine then_ret ?_ | refine block_normal ?_ | refine block_ret ?_ | refine block_exit ?_ | refine block_pass rfl ?_)
      refine c_seq ?_
      refine c_seq ?_
      refine c_region ?_
      refine o_s (.t (.agg [.lit (.string ⟨⟨p0.Folder⟩⟩), .lit (.int .i64 p0.Seq), .seq 1 (bytesD p0.Prev), .lit (.string ⟨⟨p0.Parent⟩⟩), .seq 2 (List.map cS_api_Member p0.Members), .lit (.int .i64 p0.Cut), .lit (.bool p0.Gone), .lit (.string ⟨⟨p0.By⟩⟩)])) (g0 rfl) rfl rfl rfl ?_
      obtain ⟨x9, h10, h⟩ := bind_some h
      refine o_ca (fc_R28_May _ _ h10) (g0 rfl) rfl rfl rfl rfl rfl rfl rfl (.cons (.refl _) .nil) rfl rfl ?_
      refine o_s (.t (.d (.lit (.bool (!x9))))) (g0 rfl) rfl rfl rfl ?_
      refine o_nil ?_
      repeat (first | refine then_normal ?_ | refine then_exit ?_ | refine then_ret ?_ | refine block_normal ?_ | refine block_ret ?_ | refine block_exit ?_ | refine block_pass rfl ?_)
      rcases bif_some h with ⟨h11, h⟩ | ⟨h11, h⟩
      · refine c_t h11 rfl ?_
        refine c_seq ?_
        refine c_region ?_
        refine o_s (.t (.d (.lit (.int .i64 x7.2)))) (g0 rfl) rfl rfl rfl ?_
        refine o_s (.t (.d (.lit (.bool (x7.2 == 2))))) (g0 rfl) rfl rfl rfl ?_
        refine o_s (.t (.d (.lit (.bool (x7.2 == 2))))) (g0 rfl) rfl rfl rfl ?_
        rcases bif_some h with ⟨h12, h⟩ | ⟨h12, h⟩
        · refine o_s (.t (.d (.seq 1 (bytesD x7.1)))) (gy rfl rfl rfl h12) rfl rfl rfl ?_
          refine o_c (gy rfl rfl rfl h12) rfl rfl rfl (lenE _ _) trivial ?_
          refine o_s (.t (.d (.lit (.bool ((x7.1.length : Int) == 0))))) (gy rfl rfl rfl h12) rfl rfl rfl ?_
          refine o_pk (.t (.d (.lit (.bool ((x7.1.length : Int) == 0))))) (b := true) h12 (g0 rfl) rfl rfl rfl rfl rfl ?_
          refine o_s (.t (.d (.lit (.bool ((x7.1.length : Int) == 0))))) (g0 rfl) rfl rfl rfl ?_
          rcases bif_some h with ⟨h13, h⟩ | ⟨h13, h⟩
          · refine o_s (.t (.agg [.lit (.string ⟨⟨p0.Folder⟩⟩), .lit (.int .i64 p0.Seq), .seq 1 (bytesD p0.Prev), .lit (.string ⟨⟨p0.Parent⟩⟩), .seq 2 (List.map cS_api_Member p0.Members), .lit (.int .i64 p0.Cut), .lit (.bool p0.Gone), .lit (.string ⟨⟨p0.By⟩⟩)])) (gy rfl rfl rfl h13) rfl rfl rfl ?_
            obtain ⟨x14, h15, h⟩ := bind_some h
            refine o_ca (fc_manifest_Begins _ _ h15) (gy rfl rfl rfl h13) rfl rfl rfl rfl rfl rfl rfl (.cons (.refl _) .nil) rfl rfl ?_
            refine o_s (.t (.d (.lit (.bool (x14 == 2))))) (gy rfl rfl rfl h13) rfl rfl rfl ?_
            refine o_pk (.t (.d (.lit (.bool (x14 == 2))))) (b := true) h13 (g0 rfl) rfl rfl rfl rfl rfl ?_
            refine o_s (.t (.d (.lit (.bool (x14 == 2))))) (g0 rfl) rfl rfl rfl ?_
            refine o_nil ?_
            repeat (first | refine then_normal ?_ | refine then_exit ?_ | refine then_ret ?_ | refine block_normal ?_ | refine block_ret ?_ | refine block_exit ?_ | refine block_pass rfl ?_)
            refine c_ret ?_
            repeat (first | refine then_normal ?_ | refine then_exit ?_ | refine then_ret ?_ | refine block_normal ?_ | refine block_ret ?_ | refine block_exit ?_ | refine block_pass rfl ?_)
            obtain rfl := Option.some.inj h
            exact end0 rfl (.refl _)
          · refine o_skip rfl rfl rfl h13 rfl rfl ?_
            refine o_skip rfl rfl rfl h13 rfl rfl ?_
            refine o_skip rfl rfl rfl h13 rfl rfl ?_
            refine o_pk (.t (.d (.lit (.bool false)))) (b := false) h13 (g0 rfl) rfl rfl rfl rfl rfl ?_
            refine o_s (.t (.d (.lit (.bool false)))) (g0 rfl) rfl rfl rfl ?_
            refine o_nil ?_
            repeat (first | refine then_normal ?_ | refine then_exit ?_ | refine then_ret ?_ | refine block_normal ?_ | refine block_ret ?_ | refine block_exit ?_ | refine block_pass rfl ?_)
            refine c_ret ?_
            repeat (first | refine then_normal ?_ | refine then_exit ?_ | refine then_ret ?_ | refine block_normal ?_ | refine block_ret ?_ | refine block_exit ?_ | refine block_pass rfl ?_)
            obtain rfl := Option.some.inj h
            exact end0 rfl (.refl _)
        · refine o_skip rfl rfl rfl h12 rfl rfl ?_
          refine o_skip rfl rfl rfl h12 rfl rfl ?_
          refine o_skip rfl rfl rfl h12 rfl rfl ?_
          refine o_pk (.t (.d (.lit (.bool false)))) (b := false) h12 (g0 rfl) rfl rfl rfl rfl rfl ?_
          refine o_s (.t (.d (.lit (.bool false)))) (g0 rfl) rfl rfl rfl ?_
          refine o_skip rfl rfl rfl rfl rfl rfl ?_
          refine o_skip rfl rfl rfl rfl rfl rfl ?_
          refine o_skip rfl rfl rfl rfl rfl rfl ?_
          refine o_pk (.t (.d (.lit (.bool false)))) (b := false) rfl (g0 rfl) rfl rfl rfl rfl rfl ?_
          refine o_s (.t (.d (.lit (.bool false)))) (g0 rfl) rfl rfl rfl ?_
          refine o_nil ?_
          repeat (first | refine then_normal ?_ | refine then_exit ?_ | refine then_ret ?_ | refine block_normal ?_ | refine block_ret ?_ | refine block_exit ?_ | refine block_pass rfl ?_)
          refine c_ret ?_
          repeat (first | refine then_normal ?_ | refine then_exit ?_ | refine then_ret ?_ | refine block_normal ?_ | refine block_ret ?_ | refine block_exit ?_ | refine block_pass rfl ?_)
          obtain rfl := Option.some.inj h
          exact end0 rfl (.refl _)
      · refine c_f h11 rfl ?_
        refine c_skip ?_
        repeat (first | refine then_normal ?_ | refine then_exit ?_ | refine then_ret ?_ | refine block_normal ?_ | refine block_ret ?_ | refine block_exit ?_ | refine block_pass rfl ?_)
        refine c_seq ?_
        refine c_region ?_
        refine o_s (.t (.d (.seq 1 (bytesD x7.1)))) (g0 rfl) rfl rfl rfl ?_
        obtain ⟨x16, h17, h⟩ := bind_some h
        refine o_ca (fc_manifest_Read _ _ h17) (g0 rfl) rfl rfl rfl rfl rfl rfl rfl (.cons (.refl _) .nil) rfl rfl ?_
        refine o_s (.tup [.agg [.lit (.string ⟨⟨x16.1.Folder⟩⟩), .lit (.int .i64 x16.1.Seq), .seq 1 (bytesD x16.1.Prev), .lit (.string ⟨⟨x16.1.Parent⟩⟩), .seq 2 (List.map cS_api_Member x16.1.Members), .lit (.int .i64 x16.1.Cut), .lit (.bool x16.1.Gone), .lit (.string ⟨⟨x16.1.By⟩⟩)], .d (.lit (.int .i64 x16.2))]) (g0 rfl) rfl rfl rfl ?_
        refine o_s (.t (.agg [.lit (.string ⟨⟨x16.1.Folder⟩⟩), .lit (.int .i64 x16.1.Seq), .seq 1 (bytesD x16.1.Prev), .lit (.string ⟨⟨x16.1.Parent⟩⟩), .seq 2 (List.map cS_api_Member x16.1.Members), .lit (.int .i64 x16.1.Cut), .lit (.bool x16.1.Gone), .lit (.string ⟨⟨x16.1.By⟩⟩)])) (g0 rfl) rfl rfl rfl ?_
        refine o_s (.t (.d (.lit (.int .i64 x16.2)))) (g0 rfl) rfl rfl rfl ?_
        refine o_s (.box [.d (.lit (.string ⟨⟨[]⟩⟩)), .d (.lit (.int .i64 0)), .d (.lit (.slice none 0 0)), .d (.lit (.string ⟨⟨[]⟩⟩)), .d (.lit (.slice none 0 0)), .d (.lit (.int .i64 0)), .d (.lit (.bool false)), .d (.lit (.string ⟨⟨[]⟩⟩))]) (g0 rfl) rfl rfl rfl ?_
        refine o_st (.box [.d (.lit (.string ⟨⟨x16.1.Folder⟩⟩)), .d (.lit (.int .i64 x16.1.Seq)), .d (.seq 1 (bytesD x16.1.Prev)), .d (.lit (.string ⟨⟨x16.1.Parent⟩⟩)), .d (.seq 2 (List.map cS_api_Member x16.1.Members)), .d (.lit (.int .i64 x16.1.Cut)), .d (.lit (.bool x16.1.Gone)), .d (.lit (.string ⟨⟨x16.1.By⟩⟩))]) (g0 rfl) rfl rfl rfl ?_
        refine o_s (.t (.d (.lit (.int .i64 x16.2)))) (g0 rfl) rfl rfl rfl ?_
        refine o_nil ?_
        repeat (first | refine then_normal ?_ | refine then_exit ?_ | refine then_ret ?_ | refine block_normal ?_ | refine block_ret ?_ | refine block_exit ?_ | refine block_pass rfl ?_)
        refine c_seq ?_
        refine c_region ?_
        refine o_s (.t (.d (.lit (.int .i64 x7.2)))) (g0 rfl) rfl rfl rfl ?_
        refine o_s (.t (.d (.lit (.bool (x7.2 == 0))))) (g0 rfl) rfl rfl rfl ?_
        refine o_s (.t (.d (.lit (.bool (x7.2 == 0))))) (g0 rfl) rfl rfl rfl ?_
        rcases bif_some h with ⟨h18, h⟩ | ⟨h18, h⟩
        · refine o_s (.t (.d (.seq 1 (bytesD x7.1)))) (gy rfl rfl rfl h18) rfl rfl rfl ?_
          refine o_s (.t (.agg [.lit (.string ⟨⟨p0.Folder⟩⟩), .lit (.int .i64 p0.Seq), .seq 1 (bytesD p0.Prev), .lit (.string ⟨⟨p0.Parent⟩⟩), .seq 2 (List.map cS_api_Member p0.Members), .lit (.int .i64 p0.Cut), .lit (.bool p0.Gone), .lit (.string ⟨⟨p0.By⟩⟩)])) (gy rfl rfl rfl h18) rfl rfl rfl ?_
          obtain ⟨x19, h20, h⟩ := bind_some h
          refine o_ca (fc_R28_Text _ _ h20) (gy rfl rfl rfl h18) rfl rfl rfl rfl rfl rfl rfl (.cons (.refl _) .nil) rfl rfl ?_
          obtain ⟨x21, h22, h⟩ := bind_some h
          refine o_ca (fc_R01_Same _ _ _ h22) (gy rfl rfl rfl h18) rfl rfl rfl rfl rfl rfl rfl (.cons (.refl _) (.cons (.refl _) .nil)) rfl rfl ?_
          refine o_pk (.t (.d (.lit (.bool x21)))) (b := true) h18 (g0 rfl) rfl rfl rfl rfl rfl ?_
          refine o_s (.t (.d (.lit (.bool x21)))) (g0 rfl) rfl rfl rfl ?_
          rcases bif_some h with ⟨h23, h⟩ | ⟨h23, h⟩
          · refine o_s (.t (.d (.lit (.int .i64 x16.2)))) (gy rfl rfl rfl h23) rfl rfl rfl ?_
            refine o_s (.t (.d (.lit (.bool (x16.2 == 0))))) (gy rfl rfl rfl h23) rfl rfl rfl ?_
            refine o_pk (.t (.d (.lit (.bool (x16.2 == 0))))) (b := true) h23 (g0 rfl) rfl rfl rfl rfl rfl ?_
            refine o_s (.t (.d (.lit (.bool (x16.2 == 0))))) (g0 rfl) rfl rfl rfl ?_
            rcases bif_some h with ⟨h24, h⟩ | ⟨h24, h⟩
            · refine o_s (.t (.agg [.lit (.string ⟨⟨x16.1.Folder⟩⟩), .lit (.int .i64 x16.1.Seq), .seq 1 (bytesD x16.1.Prev), .lit (.string ⟨⟨x16.1.Parent⟩⟩), .seq 2 (List.map cS_api_Member x16.1.Members), .lit (.int .i64 x16.1.Cut), .lit (.bool x16.1.Gone), .lit (.string ⟨⟨x16.1.By⟩⟩)])) (gy rfl rfl rfl h24) rfl rfl rfl ?_
              refine o_s (.t (.agg [.lit (.string ⟨⟨p0.Folder⟩⟩), .lit (.int .i64 p0.Seq), .seq 1 (bytesD p0.Prev), .lit (.string ⟨⟨p0.Parent⟩⟩), .seq 2 (List.map cS_api_Member p0.Members), .lit (.int .i64 p0.Cut), .lit (.bool p0.Gone), .lit (.string ⟨⟨p0.By⟩⟩)])) (gy rfl rfl rfl h24) rfl rfl rfl ?_
              obtain ⟨x25, h26, h⟩ := bind_some h
              refine o_ca (fc_R28_Same _ _ _ h26) (gy rfl rfl rfl h24) rfl rfl rfl rfl rfl rfl rfl (.cons (.refl _) (.cons (.refl _) .nil)) rfl rfl ?_
              refine o_pk (.t (.d (.lit (.bool x25)))) (b := true) h24 (g0 rfl) rfl rfl rfl rfl rfl ?_
              refine o_s (.t (.d (.lit (.bool x25)))) (g0 rfl) rfl rfl rfl ?_
              refine o_nil ?_
              repeat (first | refine then_normal ?_ | refine then_exit ?_ | refine then_ret ?_ | refine block_normal ?_ | refine block_ret ?_ | refine block_exit ?_ | refine block_pass rfl ?_)
              refine c_ret ?_
              repeat (first | refine then_normal ?_ | refine then_exit ?_ | refine then_ret ?_ | refine block_normal ?_ | refine block_ret ?_ | refine block_exit ?_ | refine block_pass rfl ?_)
              obtain rfl := Option.some.inj h
              exact end0 rfl (.refl _)
            · refine o_skip rfl rfl rfl h24 rfl rfl ?_
              refine o_skip rfl rfl rfl h24 rfl rfl ?_
              refine o_skip rfl rfl rfl h24 rfl rfl ?_
              refine o_pk (.t (.d (.lit (.bool false)))) (b := false) h24 (g0 rfl) rfl rfl rfl rfl rfl ?_
              refine o_s (.t (.d (.lit (.bool false)))) (g0 rfl) rfl rfl rfl ?_
              refine o_nil ?_
              repeat (first | refine then_normal ?_ | refine then_exit ?_ | refine then_ret ?_ | refine block_normal ?_ | refine block_ret ?_ | refine block_exit ?_ | refine block_pass rfl ?_)
              refine c_ret ?_
              repeat (first | refine then_normal ?_ | refine then_exit ?_ | refine then_ret ?_ | refine block_normal ?_ | refine block_ret ?_ | refine block_exit ?_ | refine block_pass rfl ?_)
              obtain rfl := Option.some.inj h
              exact end0 rfl (.refl _)
          · refine o_skip rfl rfl rfl h23 rfl rfl ?_
            refine o_skip rfl rfl rfl h23 rfl rfl ?_
            refine o_pk (.t (.d (.lit (.bool false)))) (b := false) h23 (g0 rfl) rfl rfl rfl rfl rfl ?_
            refine o_s (.t (.d (.lit (.bool false)))) (g0 rfl) rfl rfl rfl ?_
            refine o_skip rfl rfl rfl rfl rfl rfl ?_
            refine o_skip rfl rfl rfl rfl rfl rfl ?_
            refine o_skip rfl rfl rfl rfl rfl rfl ?_
            refine o_pk (.t (.d (.lit (.bool false)))) (b := false) rfl (g0 rfl) rfl rfl rfl rfl rfl ?_
            refine o_s (.t (.d (.lit (.bool false)))) (g0 rfl) rfl rfl rfl ?_
            refine o_nil ?_
            repeat (first | refine then_normal ?_ | refine then_exit ?_ | refine then_ret ?_ | refine block_normal ?_ | refine block_ret ?_ | refine block_exit ?_ | refine block_pass rfl ?_)
            refine c_ret ?_
            repeat (first | refine then_normal ?_ | refine then_exit ?_ | refine then_ret ?_ | refine block_normal ?_ | refine block_ret ?_ | refine block_exit ?_ | refine block_pass rfl ?_)
            obtain rfl := Option.some.inj h
            exact end0 rfl (.refl _)
        · refine o_skip rfl rfl rfl h18 rfl rfl ?_
          refine o_skip rfl rfl rfl h18 rfl rfl ?_
          refine o_skip rfl rfl rfl h18 rfl rfl ?_
          refine o_skip rfl rfl rfl h18 rfl rfl ?_
          refine o_pk (.t (.d (.lit (.bool false)))) (b := false) h18 (g0 rfl) rfl rfl rfl rfl rfl ?_
          refine o_s (.t (.d (.lit (.bool false)))) (g0 rfl) rfl rfl rfl ?_
          refine o_skip rfl rfl rfl rfl rfl rfl ?_
          refine o_skip rfl rfl rfl rfl rfl rfl ?_
          refine o_pk (.t (.d (.lit (.bool false)))) (b := false) rfl (g0 rfl) rfl rfl rfl rfl rfl ?_
          refine o_s (.t (.d (.lit (.bool false)))) (g0 rfl) rfl rfl rfl ?_
          refine o_skip rfl rfl rfl rfl rfl rfl ?_
          refine o_skip rfl rfl rfl rfl rfl rfl ?_
          refine o_skip rfl rfl rfl rfl rfl rfl ?_
          refine o_pk (.t (.d (.lit (.bool false)))) (b := false) rfl (g0 rfl) rfl rfl rfl rfl rfl ?_
          refine o_s (.t (.d (.lit (.bool false)))) (g0 rfl) rfl rfl rfl ?_
          refine o_nil ?_
          repeat (first | refine then_normal ?_ | refine then_exit ?_ | refine then_ret ?_ | refine block_normal ?_ | refine block_ret ?_ | refine block_exit ?_ | refine block_pass rfl ?_)
          refine c_ret ?_
          repeat (first | refine then_normal ?_ | refine then_exit ?_ | refine then_ret ?_ | refine block_normal ?_ | refine block_ret ?_ | refine block_exit ?_ | refine block_pass rfl ?_)
          obtain rfl := Option.some.inj h
          exact end0 rfl (.refl _)

theorem fc_R28_Kinds (p0 : V) (p1 : (List Int)) (r : Bool) (h : m_R28_Kinds p0 p1 = some r) : FC Try.prog 43 [.t (.agg [.lit (.int .i64 p0.k), .lit (.int .i64 p0.n), .seq 1 (bytesD p0.b), .seq 4 (List.map V.cells p0.l)]), .t (.d (.seq 1 (List.map cI64 p1)))] [] (.t (.d (.lit (.bool r)))) := by
  refine fc_mk (rs := [.tmp 4]) (n := 34) Try.func43 rfl rfl (Nat.le_of_ble_eq_true rfl) rfl (pins := []) rfl (L := [(0, .t (.agg [.lit (.int .i64 p0.k), .lit (.int .i64 p0.n), .seq 1 (bytesD p0.b), .seq 4 (List.map V.cells p0.l)])), (1, .t (.d (.seq 1 (List.map cI64 p1))))]) rfl ?_
  refine c_seq ?_
  refine c_region ?_
  refine o_s (.box [.d (.lit (.int .i64 p0.k)), .d (.lit (.int .i64 p0.n)), .d (.seq 1 (bytesD p0.b)), .d (.seq 4 (List.map V.cells p0.l))]) (g0 rfl) rfl rfl rfl ?_
  refine o_s (.t (.d (.lit (.bool false)))) (g0 rfl) rfl rfl rfl ?_
  refine o_nil ?_
  repeat (first | refine then_normal ?_ | refine then_exit ?_ | refine then_ret ?_ | refine block_normal ?_ | refine block_ret ?_ | refine block_exit ?_ | refine block_pass rfl ?_)
  refine c_seq ?_
  refine c_seq ?_
  refine c_region ?_
  refine o_s (.ref 2 0) (g0 rfl) rfl rfl rfl ?_
  refine o_s (.t (.d (.lit (.int .i64 p0.k)))) (g0 rfl) rfl rfl rfl ?_
  refine o_s (.t (.d (.lit (.bool (p0.k != 3))))) (g0 rfl) rfl rfl rfl ?_
  refine o_s (.t (.d (.lit (.bool (p0.k != 3))))) (g0 rfl) rfl rfl rfl ?_
  rcases bif_some h with ⟨h1, h⟩ | ⟨h1, h⟩
  · refine o_skip rfl rfl rfl h1 rfl rfl ?_
    refine o_skip rfl rfl rfl h1 rfl rfl ?_
    refine o_skip rfl rfl rfl h1 rfl rfl ?_
    refine o_skip rfl rfl rfl h1 rfl rfl ?_
    refine o_skip rfl rfl rfl h1 rfl rfl ?_
    refine o_skip rfl rfl rfl h1 rfl rfl ?_
    refine o_pk (.t (.d (.lit (.bool true)))) (b := true) h1 (g0 rfl) rfl rfl rfl rfl rfl ?_
    refine o_nil ?_
    repeat (first | refine then_normal ?_ | refine then_exit ?_ | refine then_ret ?_ | refine block_normal ?_ | refine block_ret ?_ | refine block_exit ?_ | refine block_pass rfl ?_)
    refine c_t rfl rfl ?_
    refine c_seq ?_
    refine c_region ?_
    refine o_s (.t (.d (.lit (.bool false)))) (g0 rfl) rfl rfl rfl ?_
    refine o_nil ?_
    repeat (first | refine then_normal ?_ | refine then_exit ?_ | refine then_ret ?_ | refine block_normal ?_ | refine block_ret ?_ | refine block_exit ?_ | refine block_pass rfl ?_)
    refine c_ret ?_
    repeat (first | refine then_normal ?_ | refine then_exit ?_ | refine then_ret ?_ | refine block_normal ?_ | refine block_ret ?_ | refine block_exit ?_ | refine block_pass rfl ?_)
    obtain rfl := Option.some.inj h
    exact end0 rfl (.refl _)
  · refine o_s (.ref 2 3) (gy rfl rfl rfl h1) rfl rfl rfl ?_
    refine o_s (.t (.d (.seq 4 (List.map V.cells p0.l)))) (gy rfl rfl rfl h1) rfl rfl rfl ?_
    refine o_c (gy rfl rfl rfl h1) rfl rfl rfl (lenE _ _) trivial ?_
    refine o_s (.t (.d (.seq 1 (List.map cI64 p1)))) (gy rfl rfl rfl h1) rfl rfl rfl ?_
    refine o_c (gy rfl rfl rfl h1) rfl rfl rfl (lenE _ _) trivial ?_
    refine o_s (.t (.d (.lit (.bool ((p0.l.length : Int) != (p1.length : Int)))))) (gy rfl rfl rfl h1) rfl rfl rfl ?_
    refine o_pk (.t (.d (.lit (.bool ((p0.l.length : Int) != (p1.length : Int)))))) (b := false) h1 (g0 rfl) rfl rfl rfl rfl rfl ?_
    refine o_nil ?_
    repeat (first | refine then_normal ?_ | refine then_exit ?_ | refine then_ret ?_ | refine block_normal ?_ | refine block_ret ?_ | refine block_exit ?_ | refine block_pass rfl ?_)
    rcases bif_some h with ⟨h2, h⟩ | ⟨h2, h⟩
    · refine c_t h2 rfl ?_
      refine c_seq ?_
      refine c_region ?_
      refine o_s (.t (.d (.lit (.bool false)))) (g0 rfl) rfl rfl rfl ?_
      refine o_nil ?_
      repeat (first | refine then_normal ?_ | refine then_exit ?_ | refine then_ret ?_ | refine block_normal ?_ | refine block_ret ?_ | refine block_exit ?_ | refine block_pass rfl ?_)
      refine c_ret ?_
      repeat (first | refine then_normal ?_ | refine then_exit ?_ | refine then_ret ?_ | refine block_normal ?_ | refine block_ret ?_ | refine block_exit ?_ | refine block_pass rfl ?_)
      obtain rfl := Option.some.inj h
      exact end0 rfl (.refl _)
    · refine c_f h2 rfl ?_
      refine c_skip ?_
      repeat (first | refine then_normal ?_ | refine then_exit ?_ | refine then_ret ?_ | refine block_normal ?_ | refine block_ret ?_ | refine block_exit ?_ | refine block_pass rfl ?_)
      refine c_seq ?_
      refine c_seq ?_
      refine c_region ?_
      refine o_s (.t (.d (.lit (.int .i64 0)))) (g0 rfl) rfl rfl rfl ?_
      refine o_nil ?_
      repeat (first | refine then_normal ?_ | refine then_exit ?_ | refine then_ret ?_ | refine block_normal ?_ | refine block_ret ?_ | refine block_exit ?_ | refine block_pass rfl ?_)
      refine c_block ?_
      refine c_fuel (fun (z3 : Int) => [(1, .t (.d (.seq 1 (List.map cI64 p1)))), (2, .box [.d (.lit (.int .i64 p0.k)), .d (.lit (.int .i64 p0.n)), .d (.seq 1 (bytesD p0.b)), .d (.seq 4 (List.map V.cells p0.l))]), (5, .t (.d (.lit (.int .i64 z3))))]) (fun nl1 => (fun (z3 : Int) => m_R28_Kinds_l1 p1 p0 nl1 z3 = some r)) (p1.length + 1) 0 h ⟨(.refl _), ⟨(.refl _), ⟨(.refl _), trivial⟩⟩⟩ rfl ?_
      rintro nl1 z3 h
      cases nl1 with
      | zero => exact none_ne h
      | succ nl1 =>
        refine c_seq ?_
        refine c_seq ?_
        refine c_region ?_
        refine o_s (.t (.d (.lit (.int .i64 z3)))) (g0 rfl) rfl rfl rfl ?_
        refine o_s (.t (.d (.seq 1 (List.map cI64 p1)))) (g0 rfl) rfl rfl rfl ?_
        refine o_c (g0 rfl) rfl rfl rfl (lenE _ _) trivial ?_
        refine o_s (.t (.d (.lit (.bool (decide (z3 < (p1.length : Int))))))) (g0 rfl) rfl rfl rfl ?_
        refine o_nil ?_
        repeat (first | refine then_normal ?_ | refine then_exit ?_ | refine then_ret ?_ | refine block_normal ?_ | refine block_ret ?_ | refine block_exit ?_ | refine block_pass rfl ?_)
        rcases bif_some h with ⟨h4, h⟩ | ⟨h4, h⟩
        · refine c_t h4 rfl ?_
          refine c_skip ?_
          repeat (first | refine then_normal ?_ | refine then_exit ?_ | refine then_ret ?_ | refine block_normal ?_ | refine block_ret ?_ | refine block_exit ?_ | refine block_pass rfl ?_)
          refine c_seq ?_
          refine c_block ?_
          refine c_seq ?_
          refine c_draw mixed (by kernel_rfl) ?_
          refine d_s (.ref 2 3) rfl (dg0 rfl) rfl rfl rfl rfl ?_
          refine d_s (.t (.d (.seq 4 (List.map V.cells p0.l)))) rfl (dg0 rfl) rfl rfl rfl rfl ?_
          refine d_s (.t (.d (.lit (.int .i64 z3)))) rfl (dg0 rfl) rfl rfl rfl rfl ?_
          obtain ⟨x5, h6, h⟩ := bind_some h
          refine d_c rfl (dg0 rfl) rfl rfl rfl rfl (idxE' V.cells_eq h6) (idxC h6) ?_
          refine d_s (.imm [.lit (.int .i64 x5.k), .lit (.int .i64 x5.n), .seq 1 (bytesD x5.b), .seq 4 (List.map V.cells x5.l)]) rfl (dg0 rfl) rfl rfl rfl rfl ?_
          refine d_s (.t (.d (.lit (.int .i64 x5.k)))) rfl (dg0 rfl) rfl rfl rfl rfl ?_
          refine d_s (.t (.d (.seq 1 (List.map cI64 p1)))) rfl (dg0 rfl) rfl rfl rfl rfl ?_
          refine d_s (.t (.d (.lit (.int .i64 z3)))) rfl (dg0 rfl) rfl rfl rfl rfl ?_
          obtain ⟨x7, h8, h⟩ := bind_some h
          refine d_c rfl (dg0 rfl) rfl rfl rfl rfl (idxE h8) (idxC h8) ?_
          refine d_s (.t (.d (.lit (.int .i64 x7)))) rfl (dg0 rfl) rfl rfl rfl rfl ?_
          refine d_s (.t (.d (.lit (.bool (x5.k != x7))))) rfl (dg0 rfl) rfl rfl rfl rfl ?_
          refine d_nil (by kernel_rfl) ?_
          repeat (first | refine then_normal ?_ | refine then_exit ?_ | refine then_ret ?_ | refine block_normal ?_ | refine block_ret ?_ | refine block_exit ?_ | refine block_pass rfl ?_)
          rcases bif_some h with ⟨h9, h⟩ | ⟨h9, h⟩
          · refine c_t h9 rfl ?_
            refine c_seq ?_
            refine c_region ?_
            refine o_s (.t (.d (.lit (.bool false)))) (g0 rfl) rfl rfl rfl ?_
            refine o_nil ?_
            repeat (first | refine then_normal ?_ | refine then_exit ?_ | refine then_ret ?_ | refine block_normal ?_ | refine block_ret ?_ | refine block_exit ?_ | refine block_pass rfl ?_)
            refine c_ret ?_
            repeat (first | refine then_normal ?_ | refine then_exit ?_ | refine then_ret ?_ | refine block_normal ?_ | refine block_ret ?_ | refine block_exit ?_ | refine block_pass rfl ?_)
            obtain rfl := Option.some.inj h
            exact end0 rfl (.refl _)
          · refine c_f h9 rfl ?_
            refine c_skip ?_
            repeat (first | refine then_normal ?_ | refine then_exit ?_ | refine then_ret ?_ | refine block_normal ?_ | refine block_ret ?_ | refine block_exit ?_ | refine block_pass rfl ?_)
            refine c_region ?_
            refine o_s (.t (.d (.lit (.int .i64 z3)))) (g0 rfl) rfl rfl rfl ?_
            refine o_s (.t (.d (.lit (.int .i64 (wi (z3 + 1)))))) (g0 rfl) rfl rfl rfl ?_
            refine o_s (.t (.d (.lit (.int .i64 (wi (z3 + 1)))))) (g0 rfl) rfl rfl rfl ?_
            refine o_nil ?_
            repeat (first | refine then_normal ?_ | refine then_exit ?_ | refine then_ret ?_ | refine block_normal ?_ | refine block_ret ?_ | refine block_exit ?_ | refine block_pass rfl ?_)
            exact ⟨nl1, (wi (z3 + 1)), Nat.lt_succ_self nl1, h, ⟨(.refl _), ⟨(.refl _), ⟨(.refl _), trivial⟩⟩⟩, rfl⟩
        · refine c_f h4 rfl ?_
          refine c_exit ?_
          repeat (first | refine then_normal ?_ | refine then_exit ?_ | refine then_ret ?_ | refine block_normal ?_ | refine block_ret ?_ | refine block_exit ?_ | refine block_pass rfl ?_)
          refine c_seq ?_
          refine c_region ?_
          refine o_s (.t (.d (.lit (.bool true)))) (g0 rfl) rfl rfl rfl ?_
          refine o_nil ?_
          repeat (first | refine then_normal ?_ | refine then_exit ?_ | refine then_ret ?_ | refine block_normal ?_ | refine block_ret ?_ | refine block_exit ?_ | refine block_pass rfl ?_)
          refine c_ret ?_
          repeat (first | refine then_normal ?_ | refine then_exit ?_ | refine then_ret ?_ | refine block_normal ?_ | refine block_ret ?_ | refine block_exit ?_ | refine block_pass rfl ?_)
          obtain rfl := Option.some.inj h
          exact end0 rfl (.refl _)

theorem fc_R28_Read (p0 : (List UInt8)) (r : (S_api_Manifest × Int)) (h : m_R28_Read p0 = some r) : FC Try.prog 15 [.t (.d (.seq 1 (bytesD p0)))] [] (.tup [.agg [.lit (.string ⟨⟨r.1.Folder⟩⟩), .lit (.int .i64 r.1.Seq), .seq 1 (bytesD r.1.Prev), .lit (.string ⟨⟨r.1.Parent⟩⟩), .seq 2 (List.map cS_api_Member r.1.Members), .lit (.int .i64 r.1.Cut), .lit (.bool r.1.Gone), .lit (.string ⟨⟨r.1.By⟩⟩)], .d (.lit (.int .i64 r.2))]) := by
  refine fc_mk (rs := [.cell 2 25, .tmp 3]) (n := 115) Try.func15 rfl rfl (Nat.le_of_ble_eq_true rfl) rfl (pins := []) rfl (L := [(0, .t (.d (.seq 1 (bytesD p0))))]) rfl ?_
  refine c_seq ?_
  refine c_region ?_
  refine o_s (.box [.d (.lit (.string ⟨⟨[]⟩⟩)), .d (.lit (.int .i64 0)), .d (.lit (.slice none 0 0)), .d (.lit (.string ⟨⟨[]⟩⟩)), .d (.lit (.slice none 0 0)), .d (.lit (.int .i64 0)), .d (.lit (.bool false)), .d (.lit (.string ⟨⟨[]⟩⟩))]) (g0 rfl) rfl rfl rfl ?_
  refine o_s (.t (.d (.lit (.int .i64 0)))) (g0 rfl) rfl rfl rfl ?_
  refine o_nil ?_
  repeat (first | refine then_normal ?_ | refine then_exit ?_ | refine then_ret ?_ | refine block_normal ?_ | refine block_ret ?_ | refine block_exit ?_ | refine block_pass rfl ?_)
  refine c_seq ?_
  refine c_region ?_
  refine o_s (.t (.d (.seq 1 (bytesD p0)))) (g0 rfl) rfl rfl rfl ?_
  obtain ⟨x1, h2, h⟩ := bind_some h
  refine o_ca (fc_R02_Decode _ _ h2) (g0 rfl) rfl rfl rfl rfl rfl rfl rfl (.cons (.refl _) .nil) rfl rfl ?_
  refine o_s (.tup [.agg [.lit (.int .i64 x1.1.k), .lit (.int .i64 x1.1.n), .seq 1 (bytesD x1.1.b), .seq 4 (List.map V.cells x1.1.l)], .d (.lit (.int .i64 x1.2))]) (g0 rfl) rfl rfl rfl ?_
  refine o_s (.t (.agg [.lit (.int .i64 x1.1.k), .lit (.int .i64 x1.1.n), .seq 1 (bytesD x1.1.b), .seq 4 (List.map V.cells x1.1.l)])) (g0 rfl) rfl rfl rfl ?_
  refine o_s (.t (.d (.lit (.int .i64 x1.2)))) (g0 rfl) rfl rfl rfl ?_
  refine o_s (.box [.d (.lit (.int .i64 0)), .d (.lit (.int .i64 0)), .d (.lit (.slice none 0 0)), .d (.lit (.slice none 0 0))]) (g0 rfl) rfl rfl rfl ?_
  refine o_st (.box [.d (.lit (.int .i64 x1.1.k)), .d (.lit (.int .i64 x1.1.n)), .d (.seq 1 (bytesD x1.1.b)), .d (.seq 4 (List.map V.cells x1.1.l))]) (g0 rfl) rfl rfl rfl ?_
  refine o_s (.t (.d (.lit (.int .i64 x1.2)))) (g0 rfl) rfl rfl rfl ?_
  refine o_nil ?_
  repeat (first | refine then_normal ?_ | refine then_exit ?_ | refine then_ret ?_ | refine block_normal ?_ | refine block_ret ?_ | refine block_exit ?_ | refine block_pass rfl ?_)
  refine c_seq ?_
  refine c_seq ?_
  refine c_region ?_
  refine o_s (.t (.d (.lit (.int .i64 x1.2)))) (g0 rfl) rfl rfl rfl ?_
  refine o_s (.t (.d (.lit (.bool (x1.2 != 0))))) (g0 rfl) rfl rfl rfl ?_
  refine o_nil ?_
  repeat (first | refine then_normal ?_ | refine then_exit ?_ | refine then_ret ?_ | refine block_normal ?_ | refine block_ret ?_ | refine block_exit ?_ | refine block_pass rfl ?_)
  rcases bif_some h with ⟨h3, h⟩ | ⟨h3, h⟩
  · refine c_t h3 rfl ?_
    refine c_seq ?_
    refine c_region ?_
    refine o_s (.t (.agg [.lit (.string ⟨⟨[]⟩⟩), .lit (.int .i64 0), .lit (.slice none 0 0), .lit (.string ⟨⟨[]⟩⟩), .lit (.slice none 0 0), .lit (.int .i64 0), .lit (.bool false), .lit (.string ⟨⟨[]⟩⟩)])) (g0 rfl) rfl rfl rfl ?_
    refine o_s (.t (.d (.lit (.int .i64 x1.2)))) (g0 rfl) rfl rfl rfl ?_
    refine o_st (.box [.d (.lit (.string ⟨⟨[]⟩⟩)), .d (.lit (.int .i64 0)), .d (.lit (.slice none 0 0)), .d (.lit (.string ⟨⟨[]⟩⟩)), .d (.lit (.slice none 0 0)), .d (.lit (.int .i64 0)), .d (.lit (.bool false)), .d (.lit (.string ⟨⟨[]⟩⟩))]) (g0 rfl) rfl rfl rfl ?_
    refine o_s (.t (.d (.lit (.int .i64 x1.2)))) (g0 rfl) rfl rfl rfl ?_
    refine o_nil ?_
    repeat (first | refine then_normal ?_ | refine then_exit ?_ | refine then_ret ?_ | refine block_normal ?_ | refine block_ret ?_ | refine block_exit ?_ | refine block_pass rfl ?_)
    refine c_ret ?_
    repeat (first | refine then_normal ?_ | refine then_exit ?_ | refine then_ret ?_ | refine block_normal ?_ | refine block_ret ?_ | refine block_exit ?_ | refine block_pass rfl ?_)
    obtain rfl := Option.some.inj h
    exact end0 rfl (.tup (.cons (.agg (.cons (.refl _) (.cons (.refl _) (.cons (.nil _) (.cons (.refl _) (.cons (.nil _) (.cons (.refl _) (.cons (.refl _) (.cons (.refl _) .nil))))))))) (.cons (.refl _) .nil)))
  · refine c_f h3 rfl ?_
    refine c_skip ?_
    repeat (first | refine then_normal ?_ | refine then_exit ?_ | refine then_ret ?_ | refine block_normal ?_ | refine block_ret ?_ | refine block_exit ?_ | refine block_pass rfl ?_)
    refine c_seq ?_
    refine c_seq ?_
    refine c_region ?_
    refine o_s (.t (.agg [.lit (.int .i64 x1.1.k), .lit (.int .i64 x1.1.n), .seq 1 (bytesD x1.1.b), .seq 4 (List.map V.cells x1.1.l)])) (g0 rfl) rfl rfl rfl ?_
    refine o_s (.t (.own 3 1 (List.map cI64 [2, 2, 1, 2, 2, 3, 1, 1, 2]))) (g0 rfl) rfl rfl rfl ?_
    obtain ⟨x4, h5, h⟩ := bind_some h
    refine o_ca (fc_R28_Kinds _ _ _ h5) (g0 rfl) rfl rfl rfl rfl rfl rfl rfl (.cons (.refl _) (.cons (.refl _) .nil)) rfl rfl ?_
    refine o_s (.t (.d (.lit (.bool (!x4))))) (g0 rfl) rfl rfl rfl ?_
    refine o_nil ?_
    repeat (first | refine then_normal ?_ | refine then_exit ?_ | refine then_ret ?_ | refine block_normal ?_ | refine block_ret ?_ | refine block_exit ?_ | refine block_pass rfl ?_)
    rcases bif_some h with ⟨h6, h⟩ | ⟨h6, h⟩
    · refine c_t h6 rfl ?_
      refine c_seq ?_
      refine c_region ?_
      refine o_s (.t (.agg [.lit (.string ⟨⟨[]⟩⟩), .lit (.int .i64 0), .lit (.slice none 0 0), .lit (.string ⟨⟨[]⟩⟩), .lit (.slice none 0 0), .lit (.int .i64 0), .lit (.bool false), .lit (.string ⟨⟨[]⟩⟩)])) (g0 rfl) rfl rfl rfl ?_
      refine o_st (.box [.d (.lit (.string ⟨⟨[]⟩⟩)), .d (.lit (.int .i64 0)), .d (.lit (.slice none 0 0)), .d (.lit (.string ⟨⟨[]⟩⟩)), .d (.lit (.slice none 0 0)), .d (.lit (.int .i64 0)), .d (.lit (.bool false)), .d (.lit (.string ⟨⟨[]⟩⟩))]) (g0 rfl) rfl rfl rfl ?_
      refine o_s (.t (.d (.lit (.int .i64 11)))) (g0 rfl) rfl rfl rfl ?_
      refine o_nil ?_
      repeat (first | refine then_normal ?_ | refine then_exit ?_ | refine then_ret ?_ | refine block_normal ?_ | refine block_ret ?_ | refine block_exit ?_ | refine block_pass rfl ?_)
      refine c_ret ?_
      repeat (first | refine then_normal ?_ | refine then_exit ?_ | refine then_ret ?_ | refine block_normal ?_ | refine block_ret ?_ | refine block_exit ?_ | refine block_pass rfl ?_)
      obtain rfl := Option.some.inj h
      exact end0 rfl (.tup (.cons (.agg (.cons (.refl _) (.cons (.refl _) (.cons (.nil _) (.cons (.refl _) (.cons (.nil _) (.cons (.refl _) (.cons (.refl _) (.cons (.refl _) .nil))))))))) (.cons (.refl _) .nil)))
    · refine c_f h6 rfl ?_
      refine c_skip ?_
      repeat (first | refine then_normal ?_ | refine then_exit ?_ | refine then_ret ?_ | refine block_normal ?_ | refine block_ret ?_ | refine block_exit ?_ | refine block_pass rfl ?_)
      refine c_seq ?_
      refine c_draw mixed (by kernel_rfl) ?_
      refine d_s (.ref 4 3) rfl (dg0 rfl) rfl rfl rfl rfl ?_
      refine d_s (.t (.d (.seq 4 (List.map V.cells x1.1.l)))) rfl (dg0 rfl) rfl rfl rfl rfl ?_
      obtain ⟨x7, h8, h⟩ := bind_some h
      refine d_c rfl (dg0 rfl) rfl rfl rfl rfl (idxE' V.cells_eq h8) (idxC h8) ?_
      refine d_s (.imm [.seq 1 (bytesD x7.b), .seq 4 (List.map V.cells x7.l)]) rfl (dg0 rfl) rfl rfl rfl rfl ?_
      refine d_s (.t (.d (.seq 1 (bytesD x7.b)))) rfl (dg0 rfl) rfl rfl rfl rfl ?_
      refine d_c rfl (dg0 rfl) rfl rfl rfl rfl (strE _) (isB_bytes _) ?_
      refine d_s (.ref 4 3) rfl (dg0 rfl) rfl rfl rfl rfl ?_
      refine d_s (.t (.d (.seq 4 (List.map V.cells x1.1.l)))) rfl (dg0 rfl) rfl rfl rfl rfl ?_
      obtain ⟨x9, h10, h⟩ := bind_some h
      refine d_c rfl (dg0 rfl) rfl rfl rfl rfl (idxE' V.cells_eq h10) (idxC h10) ?_
      refine d_s (.imm [.lit (.int .i64 x9.n), .seq 1 (bytesD x9.b), .seq 4 (List.map V.cells x9.l)]) rfl (dg0 rfl) rfl rfl rfl rfl ?_
      refine d_s (.t (.d (.lit (.int .i64 x9.n)))) rfl (dg0 rfl) rfl rfl rfl rfl ?_
      refine d_s (.ref 4 3) rfl (dg0 rfl) rfl rfl rfl rfl ?_
      refine d_s (.t (.d (.seq 4 (List.map V.cells x1.1.l)))) rfl (dg0 rfl) rfl rfl rfl rfl ?_
      obtain ⟨x11, h12, h⟩ := bind_some h
      refine d_c rfl (dg0 rfl) rfl rfl rfl rfl (idxE' V.cells_eq h12) (idxC h12) ?_
      refine d_s (.imm [.seq 1 (bytesD x11.b), .seq 4 (List.map V.cells x11.l)]) rfl (dg0 rfl) rfl rfl rfl rfl ?_
      refine d_s (.t (.d (.seq 1 (bytesD x11.b)))) rfl (dg0 rfl) rfl rfl rfl rfl ?_
      refine d_s (.ref 4 3) rfl (dg0 rfl) rfl rfl rfl rfl ?_
      refine d_s (.t (.d (.seq 4 (List.map V.cells x1.1.l)))) rfl (dg0 rfl) rfl rfl rfl rfl ?_
      obtain ⟨x13, h14, h⟩ := bind_some h
      refine d_c rfl (dg0 rfl) rfl rfl rfl rfl (idxE' V.cells_eq h14) (idxC h14) ?_
      refine d_s (.imm [.seq 1 (bytesD x13.b), .seq 4 (List.map V.cells x13.l)]) rfl (dg0 rfl) rfl rfl rfl rfl ?_
      refine d_s (.t (.d (.seq 1 (bytesD x13.b)))) rfl (dg0 rfl) rfl rfl rfl rfl ?_
      refine d_c rfl (dg0 rfl) rfl rfl rfl rfl (strE _) (isB_bytes _) ?_
      refine d_s (.ref 4 3) rfl (dg0 rfl) rfl rfl rfl rfl ?_
      refine d_s (.t (.d (.seq 4 (List.map V.cells x1.1.l)))) rfl (dg0 rfl) rfl rfl rfl rfl ?_
      obtain ⟨x15, h16, h⟩ := bind_some h
      refine d_c rfl (dg0 rfl) rfl rfl rfl rfl (idxE' V.cells_eq h16) (idxC h16) ?_
      refine d_s (.imm [.lit (.int .i64 x15.n), .seq 1 (bytesD x15.b), .seq 4 (List.map V.cells x15.l)]) rfl (dg0 rfl) rfl rfl rfl rfl ?_
      refine d_s (.t (.d (.lit (.int .i64 x15.n)))) rfl (dg0 rfl) rfl rfl rfl rfl ?_
      refine d_s (.ref 4 3) rfl (dg0 rfl) rfl rfl rfl rfl ?_
      refine d_s (.t (.d (.seq 4 (List.map V.cells x1.1.l)))) rfl (dg0 rfl) rfl rfl rfl rfl ?_
      obtain ⟨x17, h18, h⟩ := bind_some h
      refine d_c rfl (dg0 rfl) rfl rfl rfl rfl (idxE' V.cells_eq h18) (idxC h18) ?_
      refine d_s (.imm [.lit (.int .i64 x17.n), .seq 1 (bytesD x17.b), .seq 4 (List.map V.cells x17.l)]) rfl (dg0 rfl) rfl rfl rfl rfl ?_
      refine d_s (.t (.d (.lit (.int .i64 x17.n)))) rfl (dg0 rfl) rfl rfl rfl rfl ?_
      refine d_s (.t (.d (.lit (.bool (x17.n == 1))))) rfl (dg0 rfl) rfl rfl rfl rfl ?_
      refine d_s (.ref 4 3) rfl (dg0 rfl) rfl rfl rfl rfl ?_
      refine d_s (.t (.d (.seq 4 (List.map V.cells x1.1.l)))) rfl (dg0 rfl) rfl rfl rfl rfl ?_
      obtain ⟨x19, h20, h⟩ := bind_some h
      refine d_c rfl (dg0 rfl) rfl rfl rfl rfl (idxE' V.cells_eq h20) (idxC h20) ?_
      refine d_s (.imm [.seq 1 (bytesD x19.b), .seq 4 (List.map V.cells x19.l)]) rfl (dg0 rfl) rfl rfl rfl rfl ?_
      refine d_s (.t (.d (.seq 1 (bytesD x19.b)))) rfl (dg0 rfl) rfl rfl rfl rfl ?_
      refine d_c rfl (dg0 rfl) rfl rfl rfl rfl (strE _) (isB_bytes _) ?_
      refine d_s (.t (.agg [.lit (.string ⟨⟨x7.b⟩⟩), .lit (.int .i64 x9.n), .seq 1 (bytesD x11.b), .lit (.string ⟨⟨x13.b⟩⟩), .lit (.slice none 0 0), .lit (.int .i64 x15.n), .lit (.bool (x17.n == 1)), .lit (.string ⟨⟨x19.b⟩⟩)])) rfl (dg0 rfl) rfl rfl rfl rfl ?_
      refine d_s (.box [.d (.lit (.string ⟨⟨[]⟩⟩)), .d (.lit (.int .i64 0)), .d (.lit (.slice none 0 0)), .d (.lit (.string ⟨⟨[]⟩⟩)), .d (.lit (.slice none 0 0)), .d (.lit (.int .i64 0)), .d (.lit (.bool false)), .d (.lit (.string ⟨⟨[]⟩⟩))]) rfl (dg0 rfl) rfl rfl rfl rfl ?_
      refine d_st (.box [.d (.lit (.string ⟨⟨x7.b⟩⟩)), .d (.lit (.int .i64 x9.n)), .d (.seq 1 (bytesD x11.b)), .d (.lit (.string ⟨⟨x13.b⟩⟩)), .d (.lit (.slice none 0 0)), .d (.lit (.int .i64 x15.n)), .d (.lit (.bool (x17.n == 1))), .d (.lit (.string ⟨⟨x19.b⟩⟩))]) rfl (dg0 rfl) rfl rfl rfl rfl ?_
      refine d_nil (by kernel_rfl) ?_
      repeat (first | refine then_normal ?_ | refine then_exit ?_ | refine then_ret ?_ | refine block_normal ?_ | refine block_ret ?_ | refine block_exit ?_ | refine block_pass rfl ?_)
      refine c_cut (fun (y21 : (List S_api_Member)) => [(0, .t (.d (.seq 1 (bytesD p0)))), (2, .box [.d (.lit (.string ⟨⟨[]⟩⟩)), .d (.lit (.int .i64 0)), .d (.lit (.slice none 0 0)), .d (.lit (.string ⟨⟨[]⟩⟩)), .d (.lit (.slice none 0 0)), .d (.lit (.int .i64 0)), .d (.lit (.bool false)), .d (.lit (.string ⟨⟨[]⟩⟩))]), (6, .box [.d (.lit (.string ⟨⟨x7.b⟩⟩)), .d (.lit (.int .i64 x9.n)), .d (.seq 1 (bytesD x11.b)), .d (.lit (.string ⟨⟨x13.b⟩⟩)), .own 55 2 (List.map cS_api_Member y21), .d (.lit (.int .i64 x15.n)), .d (.lit (.bool (x17.n == 1))), .d (.lit (.string ⟨⟨x19.b⟩⟩))])]) (fun (y21 : (List S_api_Member)) => m_R28_Read_j1 x7 x9 x11 x13 x15 x17 x19 p0 y21 = some r) ?_ ?_
      · refine c_seq ?_
        refine c_region ?_
        refine o_s (.t (.d (.lit (.int .i64 0)))) (g0 rfl) rfl rfl rfl ?_
        refine o_nil ?_
        repeat (first | refine then_normal ?_ | refine then_exit ?_ | refine then_ret ?_ | refine block_normal ?_ | refine block_ret ?_ | refine block_exit ?_ | refine block_pass rfl ?_)
        refine c_block ?_
        refine c_fuel (fun (q : (List S_api_Member) × Int) => [(0, .t (.d (.seq 1 (bytesD p0)))), (2, .box [.d (.lit (.string ⟨⟨[]⟩⟩)), .d (.lit (.int .i64 0)), .d (.lit (.slice none 0 0)), .d (.lit (.string ⟨⟨[]⟩⟩)), .d (.lit (.slice none 0 0)), .d (.lit (.int .i64 0)), .d (.lit (.bool false)), .d (.lit (.string ⟨⟨[]⟩⟩))]), (4, .box [.d (.lit (.int .i64 x1.1.k)), .d (.lit (.int .i64 x1.1.n)), .d (.seq 1 (bytesD x1.1.b)), .d (.seq 4 (List.map V.cells x1.1.l))]), (6, .box [.d (.lit (.string ⟨⟨x7.b⟩⟩)), .d (.lit (.int .i64 x9.n)), .d (.seq 1 (bytesD x11.b)), .d (.lit (.string ⟨⟨x13.b⟩⟩)), .own 55 2 (List.map cS_api_Member q.1), .d (.lit (.int .i64 x15.n)), .d (.lit (.bool (x17.n == 1))), .d (.lit (.string ⟨⟨x19.b⟩⟩))]), (7, .t (.d (.lit (.int .i64 q.2))))]) (fun nl2 => (fun (q : (List S_api_Member) × Int) => m_R28_Read_l2 x1 x7 x9 x11 x13 x15 x17 x19 p0 nl2 q.1 q.2 = some r)) (4098) ([], 0) h ⟨(.refl _), ⟨(.refl _), ⟨(.refl _), ⟨(.box (.cons (.refl _) (.cons (.refl _) (.cons (.refl _) (.cons (.refl _) (.cons (.nilOwn _ _) (.cons (.refl _) (.cons (.refl _) (.cons (.refl _) .nil)))))))) rfl), ⟨(.refl _), trivial⟩⟩⟩⟩⟩ rfl ?_
        rintro nl2 ⟨z30, z31⟩ h
        cases nl2 with
        | zero => exact none_ne h
        | succ nl2 =>
          refine c_seq ?_
          refine c_seq ?_
          refine c_region ?_
          refine o_s (.t (.d (.lit (.int .i64 z31)))) (g0 rfl) rfl rfl rfl ?_
          refine o_s (.ref 4 3) (g0 rfl) rfl rfl rfl ?_
          refine o_s (.t (.d (.seq 4 (List.map V.cells x1.1.l)))) (g0 rfl) rfl rfl rfl ?_
          obtain ⟨x32, h33, h⟩ := bind_some h
          refine o_c (g0 rfl) rfl rfl rfl (idxE' V.cells_eq h33) (idxC h33) ?_
          refine o_s (.imm [.seq 4 (List.map V.cells x32.l)]) (g0 rfl) rfl rfl rfl ?_
          refine o_s (.t (.d (.seq 4 (List.map V.cells x32.l)))) (g0 rfl) rfl rfl rfl ?_
          refine o_c (g0 rfl) rfl rfl rfl (lenE _ _) trivial ?_
          refine o_s (.t (.d (.lit (.bool (decide (z31 < (x32.l.length : Int))))))) (g0 rfl) rfl rfl rfl ?_
          refine o_nil ?_
          repeat (first | refine then_normal ?_ | refine then_exit ?_ | refine then_ret ?_ | refine block_normal ?_ | refine block_ret ?_ | refine block_exit ?_ | refine block_pass rfl ?_)
          rcases bif_some h with ⟨h34, h⟩ | ⟨h34, h⟩
          · refine c_t h34 rfl ?_
            refine c_skip ?_
            repeat (first | refine then_normal ?_ | refine then_exit ?_ | refine then_ret ?_ | refine block_normal ?_ | refine block_ret ?_ | refine block_exit ?_ | refine block_pass rfl ?_)
            refine c_seq ?_
            refine c_block ?_
            refine c_seq ?_
            refine c_region ?_
            refine o_s (.ref 4 3) (g0 rfl) rfl rfl rfl ?_
            refine o_s (.t (.d (.seq 4 (List.map V.cells x1.1.l)))) (g0 rfl) rfl rfl rfl ?_
            obtain ⟨x35, h36, h⟩ := bind_some h
            refine o_c (g0 rfl) rfl rfl rfl (idxE' V.cells_eq h36) (idxC h36) ?_
            refine o_s (.imm [.seq 4 (List.map V.cells x35.l)]) (g0 rfl) rfl rfl rfl ?_
            refine o_s (.t (.d (.seq 4 (List.map V.cells x35.l)))) (g0 rfl) rfl rfl rfl ?_
            refine o_s (.t (.d (.lit (.int .i64 z31)))) (g0 rfl) rfl rfl rfl ?_
            obtain ⟨x37, h38, h⟩ := bind_some h
            refine o_c (g0 rfl) rfl rfl rfl (idxE' V.cells_eq h38) (idxC h38) ?_
            refine o_s (.t (.agg [.lit (.int .i64 x37.k), .lit (.int .i64 x37.n), .seq 1 (bytesD x37.b), .seq 4 (List.map V.cells x37.l)])) (g0 rfl) rfl rfl rfl ?_
            refine o_s (.box [.d (.lit (.int .i64 0)), .d (.lit (.int .i64 0)), .d (.lit (.slice none 0 0)), .d (.lit (.slice none 0 0))]) (g0 rfl) rfl rfl rfl ?_
            refine o_st (.box [.d (.lit (.int .i64 x37.k)), .d (.lit (.int .i64 x37.n)), .d (.seq 1 (bytesD x37.b)), .d (.seq 4 (List.map V.cells x37.l))]) (g0 rfl) rfl rfl rfl ?_
            refine o_nil ?_
            repeat (first | refine then_normal ?_ | refine then_exit ?_ | refine then_ret ?_ | refine block_normal ?_ | refine block_ret ?_ | refine block_exit ?_ | refine block_pass rfl ?_)
            refine c_seq ?_
            refine c_seq ?_
            refine c_region ?_
            refine o_s (.t (.agg [.lit (.int .i64 x37.k), .lit (.int .i64 x37.n), .seq 1 (bytesD x37.b), .seq 4 (List.map V.cells x37.l)])) (g0 rfl) rfl rfl rfl ?_
            refine o_s (.t (.own 3 1 (List.map cI64 [2, 1]))) (g0 rfl) rfl rfl rfl ?_
            obtain ⟨x39, h40, h⟩ := bind_some h
            refine o_ca (fc_R28_Kinds _ _ _ h40) (g0 rfl) rfl rfl rfl rfl rfl rfl rfl (.cons (.refl _) (.cons (.refl _) .nil)) rfl rfl ?_
            refine o_s (.t (.d (.lit (.bool (!x39))))) (g0 rfl) rfl rfl rfl ?_
            refine o_nil ?_
            repeat (first | refine then_normal ?_ | refine then_exit ?_ | refine then_ret ?_ | refine block_normal ?_ | refine block_ret ?_ | refine block_exit ?_ | refine block_pass rfl ?_)
            rcases bif_some h with ⟨h41, h⟩ | ⟨h41, h⟩
            · refine c_t h41 rfl ?_
              refine c_seq ?_
              refine c_region ?_
              refine o_s (.t (.agg [.lit (.string ⟨⟨[]⟩⟩), .lit (.int .i64 0), .lit (.slice none 0 0), .lit (.string ⟨⟨[]⟩⟩), .lit (.slice none 0 0), .lit (.int .i64 0), .lit (.bool false), .lit (.string ⟨⟨[]⟩⟩)])) (g0 rfl) rfl rfl rfl ?_
              refine o_st (.box [.d (.lit (.string ⟨⟨[]⟩⟩)), .d (.lit (.int .i64 0)), .d (.lit (.slice none 0 0)), .d (.lit (.string ⟨⟨[]⟩⟩)), .d (.lit (.slice none 0 0)), .d (.lit (.int .i64 0)), .d (.lit (.bool false)), .d (.lit (.string ⟨⟨[]⟩⟩))]) (g0 rfl) rfl rfl rfl ?_
              refine o_s (.t (.d (.lit (.int .i64 11)))) (g0 rfl) rfl rfl rfl ?_
              refine o_nil ?_
              repeat (first | refine then_normal ?_ | refine then_exit ?_ | refine then_ret ?_ | refine block_normal ?_ | refine block_ret ?_ | refine block_exit ?_ | refine block_pass rfl ?_)
              refine c_ret ?_
              repeat (first | refine then_normal ?_ | refine then_exit ?_ | refine then_ret ?_ | refine block_normal ?_ | refine block_ret ?_ | refine block_exit ?_ | refine block_pass rfl ?_)
              obtain rfl := Option.some.inj h
              exact end0 rfl (.tup (.cons (.agg (.cons (.refl _) (.cons (.refl _) (.cons (.nil _) (.cons (.refl _) (.cons (.nil _) (.cons (.refl _) (.cons (.refl _) (.cons (.refl _) .nil))))))))) (.cons (.refl _) .nil)))
            · refine c_f h41 rfl ?_
              refine c_skip ?_
              repeat (first | refine then_normal ?_ | refine then_exit ?_ | refine then_ret ?_ | refine block_normal ?_ | refine block_ret ?_ | refine block_exit ?_ | refine block_pass rfl ?_)
              refine c_draw mixed (by kernel_rfl) ?_
              refine d_s (.ref 6 4) rfl (dg0 rfl) rfl rfl rfl rfl ?_
              refine d_2 (.box [.d (.lit (.string ⟨⟨x7.b⟩⟩)), .d (.lit (.int .i64 x9.n)), .d (.seq 1 (bytesD x11.b)), .d (.lit (.string ⟨⟨x13.b⟩⟩)), .d (.seq 2 (List.map cS_api_Member z30)), .d (.lit (.int .i64 x15.n)), .d (.lit (.bool (x17.n == 1))), .d (.lit (.string ⟨⟨x19.b⟩⟩))]) (.t (.own 55 2 (List.map cS_api_Member z30))) rfl (dg0 rfl) rfl rfl rfl rfl rfl ?_
              refine d_s (.ref 8 3) rfl (dg0 rfl) rfl rfl rfl rfl ?_
              refine d_s (.t (.d (.seq 4 (List.map V.cells x37.l)))) rfl (dg0 rfl) rfl rfl rfl rfl ?_
              obtain ⟨x42, h43, h⟩ := bind_some h
              refine d_c rfl (dg0 rfl) rfl rfl rfl rfl (idxE' V.cells_eq h43) (idxC h43) ?_
              refine d_s (.imm [.seq 1 (bytesD x42.b), .seq 4 (List.map V.cells x42.l)]) rfl (dg0 rfl) rfl rfl rfl rfl ?_
              refine d_s (.t (.d (.seq 1 (bytesD x42.b)))) rfl (dg0 rfl) rfl rfl rfl rfl ?_
              refine d_c rfl (dg0 rfl) rfl rfl rfl rfl (strE _) (isB_bytes _) ?_
              refine d_s (.ref 8 3) rfl (dg0 rfl) rfl rfl rfl rfl ?_
              refine d_s (.t (.d (.seq 4 (List.map V.cells x37.l)))) rfl (dg0 rfl) rfl rfl rfl rfl ?_
              obtain ⟨x44, h45, h⟩ := bind_some h
              refine d_c rfl (dg0 rfl) rfl rfl rfl rfl (idxE' V.cells_eq h45) (idxC h45) ?_
              refine d_s (.imm [.lit (.int .i64 x44.n), .seq 1 (bytesD x44.b), .seq 4 (List.map V.cells x44.l)]) rfl (dg0 rfl) rfl rfl rfl rfl ?_
              refine d_s (.t (.d (.lit (.int .i64 x44.n)))) rfl (dg0 rfl) rfl rfl rfl rfl ?_
              refine d_s (.t (.agg [.lit (.string ⟨⟨x42.b⟩⟩), .lit (.int .i64 x44.n)])) rfl (dg0 rfl) rfl rfl rfl rfl ?_
              refine d_s (.t (.own 55 2 (List.map cS_api_Member [(S_api_Member.mk x42.b x44.n)]))) rfl (dg0 rfl) rfl rfl rfl rfl ?_
              obtain ⟨x46, h47, h⟩ := bind_some h
              refine d_2c rfl (dg0 rfl) rfl rfl rfl rfl rfl (appE (c := cS_api_Member) h47) (appC (c := cS_api_Member) h47) ?_
              refine d_s (.ref 6 4) rfl (dg0 rfl) rfl rfl rfl rfl ?_
              refine d_st2 (.t (.d (.seq 2 (List.map cS_api_Member x46)))) (.box [.d (.lit (.string ⟨⟨x7.b⟩⟩)), .d (.lit (.int .i64 x9.n)), .d (.seq 1 (bytesD x11.b)), .d (.lit (.string ⟨⟨x13.b⟩⟩)), .own 55 2 (List.map cS_api_Member x46), .d (.lit (.int .i64 x15.n)), .d (.lit (.bool (x17.n == 1))), .d (.lit (.string ⟨⟨x19.b⟩⟩))]) rfl (dg0 rfl) rfl rfl rfl rfl rfl ?_
              refine d_nil (by kernel_rfl) ?_
              repeat (first | refine then_normal ?_ | refine then_exit ?_ | refine then_ret ?_ | refine block_normal ?_ | refine block_ret ?_ | refine block_exit ?_ | refine block_pass rfl ?_)
              refine c_region ?_
              refine o_s (.t (.d (.lit (.int .i64 z31)))) (g0 rfl) rfl rfl rfl ?_
              refine o_s (.t (.d (.lit (.int .i64 (wi (z31 + 1)))))) (g0 rfl) rfl rfl rfl ?_
              refine o_s (.t (.d (.lit (.int .i64 (wi (z31 + 1)))))) (g0 rfl) rfl rfl rfl ?_
              refine o_nil ?_
              repeat (first | refine then_normal ?_ | refine then_exit ?_ | refine then_ret ?_ | refine block_normal ?_ | refine block_ret ?_ | refine block_exit ?_ | refine block_pass rfl ?_)
              exact ⟨nl2, (x46, (wi (z31 + 1))), Nat.lt_succ_self nl2, h, ⟨(.refl _), ⟨(.refl _), ⟨(.refl _), ⟨(.refl _), ⟨(.refl _), trivial⟩⟩⟩⟩⟩, rfl⟩
          · refine c_f h34 rfl ?_
            refine c_exit ?_
            repeat (first | refine then_normal ?_ | refine then_exit ?_ | refine then_ret ?_ | refine block_normal ?_ | refine block_ret ?_ | refine block_exit ?_ | refine block_pass rfl ?_)
            exact ⟨z30, h, ⟨(.refl _), ⟨(.refl _), ⟨(.refl _), trivial⟩⟩⟩, rfl⟩
      · rintro y21 h
        refine c_seq ?_
        refine c_seq ?_
        refine c_region ?_
        refine o_s (.t (.agg [.lit (.string ⟨⟨x7.b⟩⟩), .lit (.int .i64 x9.n), .seq 1 (bytesD x11.b), .lit (.string ⟨⟨x13.b⟩⟩), .seq 2 (List.map cS_api_Member y21), .lit (.int .i64 x15.n), .lit (.bool (x17.n == 1)), .lit (.string ⟨⟨x19.b⟩⟩)])) (g0 rfl) rfl rfl rfl ?_
        obtain ⟨x22, h23, h⟩ := bind_some h
        refine o_ca (fc_R28_May _ _ h23) (g0 rfl) rfl rfl rfl rfl rfl rfl rfl (.cons (.refl _) .nil) rfl rfl ?_
        refine o_s (.t (.d (.lit (.bool (!x22))))) (g0 rfl) rfl rfl rfl ?_
        refine o_s (.t (.d (.lit (.bool (!x22))))) (g0 rfl) rfl rfl rfl ?_
        rcases bif_some h with ⟨h24, h⟩ | ⟨h24, h⟩
        · refine o_skip rfl rfl rfl h24 rfl rfl ?_
          refine o_skip rfl rfl rfl h24 rfl rfl ?_
          refine o_skip rfl rfl rfl h24 rfl rfl ?_
          refine o_skip rfl rfl rfl h24 rfl rfl ?_
          refine o_skip rfl rfl rfl h24 rfl rfl ?_
          refine o_pk (.t (.d (.lit (.bool true)))) (b := true) h24 (g0 rfl) rfl rfl rfl rfl rfl ?_
          refine o_nil ?_
          repeat (first | refine then_normal ?_ | refine then_exit ?_ | refine then_ret ?_ | refine block_normal ?_ | refine block_ret ?_ | refine block_exit ?_ | refine block_pass rfl ?_)
          refine c_t rfl rfl ?_
          refine c_seq ?_
          refine c_region ?_
          refine o_s (.t (.agg [.lit (.string ⟨⟨[]⟩⟩), .lit (.int .i64 0), .lit (.slice none 0 0), .lit (.string ⟨⟨[]⟩⟩), .lit (.slice none 0 0), .lit (.int .i64 0), .lit (.bool false), .lit (.string ⟨⟨[]⟩⟩)])) (g0 rfl) rfl rfl rfl ?_
          refine o_st (.box [.d (.lit (.string ⟨⟨[]⟩⟩)), .d (.lit (.int .i64 0)), .d (.lit (.slice none 0 0)), .d (.lit (.string ⟨⟨[]⟩⟩)), .d (.lit (.slice none 0 0)), .d (.lit (.int .i64 0)), .d (.lit (.bool false)), .d (.lit (.string ⟨⟨[]⟩⟩))]) (g0 rfl) rfl rfl rfl ?_
          refine o_s (.t (.d (.lit (.int .i64 11)))) (g0 rfl) rfl rfl rfl ?_
          refine o_nil ?_
          repeat (first | refine then_normal ?_ | refine then_exit ?_ | refine then_ret ?_ | refine block_normal ?_ | refine block_ret ?_ | refine block_exit ?_ | refine block_pass rfl ?_)
          refine c_ret ?_
          repeat (first | refine then_normal ?_ | refine then_exit ?_ | refine then_ret ?_ | refine block_normal ?_ | refine block_ret ?_ | refine block_exit ?_ | refine block_pass rfl ?_)
          obtain rfl := Option.some.inj h
          exact end0 rfl (.tup (.cons (.agg (.cons (.refl _) (.cons (.refl _) (.cons (.nil _) (.cons (.refl _) (.cons (.nil _) (.cons (.refl _) (.cons (.refl _) (.cons (.refl _) .nil))))))))) (.cons (.refl _) .nil)))
        · refine o_s (.t (.agg [.lit (.string ⟨⟨x7.b⟩⟩), .lit (.int .i64 x9.n), .seq 1 (bytesD x11.b), .lit (.string ⟨⟨x13.b⟩⟩), .seq 2 (List.map cS_api_Member y21), .lit (.int .i64 x15.n), .lit (.bool (x17.n == 1)), .lit (.string ⟨⟨x19.b⟩⟩)])) (gy rfl rfl rfl h24) rfl rfl rfl ?_
          obtain ⟨x25, h26, h⟩ := bind_some h
          refine o_ca (fc_R28_Text _ _ h26) (gy rfl rfl rfl h24) rfl rfl rfl rfl rfl rfl rfl (.cons (.refl _) .nil) rfl rfl ?_
          refine o_s (.t (.d (.seq 1 (bytesD p0)))) (gy rfl rfl rfl h24) rfl rfl rfl ?_
          obtain ⟨x27, h28, h⟩ := bind_some h
          refine o_ca (fc_R01_Same _ _ _ h28) (gy rfl rfl rfl h24) rfl rfl rfl rfl rfl rfl rfl (.cons (.refl _) (.cons (.refl _) .nil)) rfl rfl ?_
          refine o_s (.t (.d (.lit (.bool (!x27))))) (gy rfl rfl rfl h24) rfl rfl rfl ?_
          refine o_pk (.t (.d (.lit (.bool (!x27))))) (b := false) h24 (g0 rfl) rfl rfl rfl rfl rfl ?_
          refine o_nil ?_
          repeat (first | refine then_normal ?_ | refine then_exit ?_ | refine then_ret ?_ | refine block_normal ?_ | refine block_ret ?_ | refine block_exit ?_ | refine block_pass rfl ?_)
          rcases bif_some h with ⟨h29, h⟩ | ⟨h29, h⟩
          · refine c_t h29 rfl ?_
            refine c_seq ?_
            refine c_region ?_
            refine o_s (.t (.agg [.lit (.string ⟨⟨[]⟩⟩), .lit (.int .i64 0), .lit (.slice none 0 0), .lit (.string ⟨⟨[]⟩⟩), .lit (.slice none 0 0), .lit (.int .i64 0), .lit (.bool false), .lit (.string ⟨⟨[]⟩⟩)])) (g0 rfl) rfl rfl rfl ?_
            refine o_st (.box [.d (.lit (.string ⟨⟨[]⟩⟩)), .d (.lit (.int .i64 0)), .d (.lit (.slice none 0 0)), .d (.lit (.string ⟨⟨[]⟩⟩)), .d (.lit (.slice none 0 0)), .d (.lit (.int .i64 0)), .d (.lit (.bool false)), .d (.lit (.string ⟨⟨[]⟩⟩))]) (g0 rfl) rfl rfl rfl ?_
            refine o_s (.t (.d (.lit (.int .i64 11)))) (g0 rfl) rfl rfl rfl ?_
            refine o_nil ?_
            repeat (first | refine then_normal ?_ | refine then_exit ?_ | refine then_ret ?_ | refine block_normal ?_ | refine block_ret ?_ | refine block_exit ?_ | refine block_pass rfl ?_)
            refine c_ret ?_
            repeat (first | refine then_normal ?_ | refine then_exit ?_ | refine then_ret ?_ | refine block_normal ?_ | refine block_ret ?_ | refine block_exit ?_ | refine block_pass rfl ?_)
            obtain rfl := Option.some.inj h
            exact end0 rfl (.tup (.cons (.agg (.cons (.refl _) (.cons (.refl _) (.cons (.nil _) (.cons (.refl _) (.cons (.nil _) (.cons (.refl _) (.cons (.refl _) (.cons (.refl _) .nil))))))))) (.cons (.refl _) .nil)))
          · refine c_f h29 rfl ?_
            refine c_skip ?_
            repeat (first | refine then_normal ?_ | refine then_exit ?_ | refine then_ret ?_ | refine block_normal ?_ | refine block_ret ?_ | refine block_exit ?_ | refine block_pass rfl ?_)
            refine c_seq ?_
            refine c_region ?_
            refine o_s (.t (.agg [.lit (.string ⟨⟨x7.b⟩⟩), .lit (.int .i64 x9.n), .seq 1 (bytesD x11.b), .lit (.string ⟨⟨x13.b⟩⟩), .seq 2 (List.map cS_api_Member y21), .lit (.int .i64 x15.n), .lit (.bool (x17.n == 1)), .lit (.string ⟨⟨x19.b⟩⟩)])) (g0 rfl) rfl rfl rfl ?_
            refine o_st (.box [.d (.lit (.string ⟨⟨x7.b⟩⟩)), .d (.lit (.int .i64 x9.n)), .d (.seq 1 (bytesD x11.b)), .d (.lit (.string ⟨⟨x13.b⟩⟩)), .d (.seq 2 (List.map cS_api_Member y21)), .d (.lit (.int .i64 x15.n)), .d (.lit (.bool (x17.n == 1))), .d (.lit (.string ⟨⟨x19.b⟩⟩))]) (g0 rfl) rfl rfl rfl ?_
            refine o_s (.t (.d (.lit (.int .i64 0)))) (g0 rfl) rfl rfl rfl ?_
            refine o_nil ?_
            repeat (first | refine then_normal ?_ | refine then_exit ?_ | refine then_ret ?_ | refine block_normal ?_ | refine block_ret ?_ | refine block_exit ?_ | refine block_pass rfl ?_)
            refine c_ret ?_
            repeat (first | refine then_normal ?_ | refine then_exit ?_ | refine then_ret ?_ | refine block_normal ?_ | refine block_ret ?_ | refine block_exit ?_ | refine block_pass rfl ?_)
            obtain rfl := Option.some.inj h
            exact end0 rfl (.tup (.cons (.refl _) (.cons (.refl _) .nil)))

theorem fc_manifest_Split (p0 : (List UInt8)) (r : ((List UInt8) × (List UInt8) × Int)) (h : m_manifest_Split p0 = some r) : FC Try.prog 16 [.t (.d (.seq 1 (bytesD p0)))] [] (.tup [.d (.seq 1 (bytesD r.1)), .d (.seq 1 (bytesD r.2.1)), .d (.lit (.int .i64 r.2.2))]) := by
  refine fc_mk (rs := [.tmp 2, .tmp 3, .tmp 4]) (n := 32) Try.func16 rfl rfl (Nat.le_of_ble_eq_true rfl) rfl (pins := []) rfl (L := [(0, .t (.d (.seq 1 (bytesD p0))))]) rfl ?_
  refine c_seq ?_
  refine c_region ?_
  refine o_s (.t (.d (.lit (.slice none 0 0)))) (g0 rfl) rfl rfl rfl ?_
  refine o_s (.t (.d (.lit (.slice none 0 0)))) (g0 rfl) rfl rfl rfl ?_
  refine o_s (.t (.d (.lit (.int .i64 0)))) (g0 rfl) rfl rfl rfl ?_
  refine o_nil ?_
  repeat (first | refine then_normal ?_ | refine then_exit ?_ | refine then_ret ?_ | refine block_normal ?_ | refine block_ret ?_ | refine block_exit ?_ | refine block_pass rfl ?_)
  refine c_seq ?_
  refine c_region ?_
  refine o_s (.t (.d (.seq 1 (bytesD p0)))) (g0 rfl) rfl rfl rfl ?_
  obtain ⟨x1, h2, h⟩ := bind_some h
  refine o_ca (fc_codec_Decode _ _ h2) (g0 rfl) rfl rfl rfl rfl rfl rfl rfl (.cons (.refl _) .nil) rfl rfl ?_
  refine o_s (.tup [.agg [.lit (.int .i64 x1.1.k), .lit (.int .i64 x1.1.n), .seq 1 (bytesD x1.1.b), .seq 4 (List.map V.cells x1.1.l)], .d (.lit (.int .i64 x1.2))]) (g0 rfl) rfl rfl rfl ?_
  refine o_s (.t (.agg [.lit (.int .i64 x1.1.k), .lit (.int .i64 x1.1.n), .seq 1 (bytesD x1.1.b), .seq 4 (List.map V.cells x1.1.l)])) (g0 rfl) rfl rfl rfl ?_
  refine o_s (.t (.d (.lit (.int .i64 x1.2)))) (g0 rfl) rfl rfl rfl ?_
  refine o_s (.box [.d (.lit (.int .i64 0)), .d (.lit (.int .i64 0)), .d (.lit (.slice none 0 0)), .d (.lit (.slice none 0 0))]) (g0 rfl) rfl rfl rfl ?_
  refine o_st (.box [.d (.lit (.int .i64 x1.1.k)), .d (.lit (.int .i64 x1.1.n)), .d (.seq 1 (bytesD x1.1.b)), .d (.seq 4 (List.map V.cells x1.1.l))]) (g0 rfl) rfl rfl rfl ?_
  refine o_s (.t (.d (.lit (.int .i64 x1.2)))) (g0 rfl) rfl rfl rfl ?_
  refine o_nil ?_
  repeat (first | refine then_normal ?_ | refine then_exit ?_ | refine then_ret ?_ | refine block_normal ?_ | refine block_ret ?_ | refine block_exit ?_ | refine block_pass rfl ?_)
  refine c_seq ?_
  refine c_seq ?_
  refine c_region ?_
  refine o_s (.t (.d (.lit (.int .i64 x1.2)))) (g0 rfl) rfl rfl rfl ?_
  refine o_s (.t (.d (.lit (.bool (x1.2 != 0))))) (g0 rfl) rfl rfl rfl ?_
  refine o_nil ?_
  repeat (first | refine then_normal ?_ | refine then_exit ?_ | refine then_ret ?_ | refine block_normal ?_ | refine block_ret ?_ | refine block_exit ?_ | refine block_pass rfl ?_)
  rcases bif_some h with ⟨h3, h⟩ | ⟨h3, h⟩
  · refine c_t h3 rfl ?_
    refine c_seq ?_
    refine c_region ?_
    refine o_s (.t (.d (.lit (.int .i64 x1.2)))) (g0 rfl) rfl rfl rfl ?_
    refine o_s (.t (.d (.lit (.slice none 0 0)))) (g0 rfl) rfl rfl rfl ?_
    refine o_s (.t (.d (.lit (.slice none 0 0)))) (g0 rfl) rfl rfl rfl ?_
    refine o_s (.t (.d (.lit (.int .i64 x1.2)))) (g0 rfl) rfl rfl rfl ?_
    refine o_nil ?_
    repeat (first | refine then_normal ?_ | refine then_exit ?_ | refine then_ret ?_ | refine block_normal ?_ | refine block_ret ?_ | refine block_exit ?_ | refine block_pass rfl ?_)
    refine c_ret ?_
    repeat (first | refine then_normal ?_ | refine then_exit ?_ | refine then_ret ?_ | refine block_normal ?_ | refine block_ret ?_ | refine block_exit ?_ | refine block_pass rfl ?_)
    obtain rfl := Option.some.inj h
    exact end0 rfl (.tup (.cons (.d (.nil _)) (.cons (.d (.nil _)) (.cons (.refl _) .nil))))
  · refine c_f h3 rfl ?_
    refine c_skip ?_
    repeat (first | refine then_normal ?_ | refine then_exit ?_ | refine then_ret ?_ | refine block_normal ?_ | refine block_ret ?_ | refine block_exit ?_ | refine block_pass rfl ?_)
    refine c_seq ?_
    refine c_region ?_
    refine o_s (.t (.agg [.lit (.int .i64 x1.1.k), .lit (.int .i64 x1.1.n), .seq 1 (bytesD x1.1.b), .seq 4 (List.map V.cells x1.1.l)])) (g0 rfl) rfl rfl rfl ?_
    refine o_s (.t (.own 3 1 (List.map cI64 [2, 2]))) (g0 rfl) rfl rfl rfl ?_
    obtain ⟨x4, h5, h⟩ := bind_some h
    refine o_ca (fc_codec_Fields _ _ _ h5) (g0 rfl) rfl rfl rfl rfl rfl rfl rfl (.cons (.refl _) (.cons (.refl _) .nil)) rfl rfl ?_
    refine o_s (.tup [.d (.seq 4 (List.map V.cells x4.1)), .d (.lit (.bool x4.2))]) (g0 rfl) rfl rfl rfl ?_
    refine o_s (.t (.d (.seq 4 (List.map V.cells x4.1)))) (g0 rfl) rfl rfl rfl ?_
    refine o_s (.t (.d (.lit (.bool x4.2)))) (g0 rfl) rfl rfl rfl ?_
    refine o_s (.t (.d (.seq 4 (List.map V.cells x4.1)))) (g0 rfl) rfl rfl rfl ?_
    refine o_s (.t (.d (.lit (.bool x4.2)))) (g0 rfl) rfl rfl rfl ?_
    refine o_nil ?_
    repeat (first | refine then_normal ?_ | refine then_exit ?_ | refine then_ret ?_ | refine block_normal ?_ | refine block_ret ?_ | refine block_exit ?_ | refine block_pass rfl ?_)
    refine c_seq ?_
    refine c_seq ?_
    refine c_region ?_
    refine o_s (.t (.d (.lit (.bool x4.2)))) (g0 rfl) rfl rfl rfl ?_
    refine o_s (.t (.d (.lit (.bool (!x4.2))))) (g0 rfl) rfl rfl rfl ?_
    refine o_nil ?_
    repeat (first | refine then_normal ?_ | refine then_exit ?_ | refine then_ret ?_ | refine block_normal ?_ | refine block_ret ?_ | refine block_exit ?_ | refine block_pass rfl ?_)
    rcases bif_some h with ⟨h6, h⟩ | ⟨h6, h⟩
    · refine c_t h6 rfl ?_
      refine c_seq ?_
      refine c_region ?_
      refine o_s (.t (.d (.lit (.slice none 0 0)))) (g0 rfl) rfl rfl rfl ?_
      refine o_s (.t (.d (.lit (.slice none 0 0)))) (g0 rfl) rfl rfl rfl ?_
      refine o_s (.t (.d (.lit (.int .i64 11)))) (g0 rfl) rfl rfl rfl ?_
      refine o_nil ?_
      repeat (first | refine then_normal ?_ | refine then_exit ?_ | refine then_ret ?_ | refine block_normal ?_ | refine block_ret ?_ | refine block_exit ?_ | refine block_pass rfl ?_)
      refine c_ret ?_
      repeat (first | refine then_normal ?_ | refine then_exit ?_ | refine then_ret ?_ | refine block_normal ?_ | refine block_ret ?_ | refine block_exit ?_ | refine block_pass rfl ?_)
      obtain rfl := Option.some.inj h
      exact end0 rfl (.tup (.cons (.d (.nil _)) (.cons (.d (.nil _)) (.cons (.refl _) .nil))))
    · refine c_f h6 rfl ?_
      refine c_skip ?_
      repeat (first | refine then_normal ?_ | refine then_exit ?_ | refine then_ret ?_ | refine block_normal ?_ | refine block_ret ?_ | refine block_exit ?_ | refine block_pass rfl ?_)
      refine c_seq ?_
      refine c_draw mixed (by kernel_rfl) ?_
      refine d_s (.t (.d (.seq 4 (List.map V.cells x4.1)))) rfl (dg0 rfl) rfl rfl rfl rfl ?_
      obtain ⟨x7, h8, h⟩ := bind_some h
      refine d_c rfl (dg0 rfl) rfl rfl rfl rfl (idxE' V.cells_eq h8) (idxC h8) ?_
      refine d_s (.imm [.seq 1 (bytesD x7.b), .seq 4 (List.map V.cells x7.l)]) rfl (dg0 rfl) rfl rfl rfl rfl ?_
      refine d_s (.t (.d (.seq 1 (bytesD x7.b)))) rfl (dg0 rfl) rfl rfl rfl rfl ?_
      refine d_s (.t (.d (.seq 4 (List.map V.cells x4.1)))) rfl (dg0 rfl) rfl rfl rfl rfl ?_
      obtain ⟨x9, h10, h⟩ := bind_some h
      refine d_c rfl (dg0 rfl) rfl rfl rfl rfl (idxE' V.cells_eq h10) (idxC h10) ?_
      refine d_s (.imm [.seq 1 (bytesD x9.b), .seq 4 (List.map V.cells x9.l)]) rfl (dg0 rfl) rfl rfl rfl rfl ?_
      refine d_s (.t (.d (.seq 1 (bytesD x9.b)))) rfl (dg0 rfl) rfl rfl rfl rfl ?_
      refine d_s (.t (.d (.seq 1 (bytesD x7.b)))) rfl (dg0 rfl) rfl rfl rfl rfl ?_
      refine d_s (.t (.d (.seq 1 (bytesD x9.b)))) rfl (dg0 rfl) rfl rfl rfl rfl ?_
      refine d_s (.t (.d (.lit (.int .i64 0)))) rfl (dg0 rfl) rfl rfl rfl rfl ?_
      refine d_nil (by kernel_rfl) ?_
      repeat (first | refine then_normal ?_ | refine then_exit ?_ | refine then_ret ?_ | refine block_normal ?_ | refine block_ret ?_ | refine block_exit ?_ | refine block_pass rfl ?_)
      refine c_ret ?_
      repeat (first | refine then_normal ?_ | refine then_exit ?_ | refine then_ret ?_ | refine block_normal ?_ | refine block_ret ?_ | refine block_exit ?_ | refine block_pass rfl ?_)
      obtain rfl := Option.some.inj h
      exact end0 rfl (.tup (.cons (.refl _) (.cons (.refl _) (.cons (.refl _) .nil))))

theorem fc_R28_Split (p0 : (List UInt8)) (r : ((List UInt8) × (List UInt8) × Int)) (h : m_R28_Split p0 = some r) : FC Try.prog 17 [.t (.d (.seq 1 (bytesD p0)))] [] (.tup [.d (.seq 1 (bytesD r.1)), .d (.seq 1 (bytesD r.2.1)), .d (.lit (.int .i64 r.2.2))]) := by
  refine fc_mk (rs := [.tmp 2, .tmp 3, .tmp 4]) (n := 29) Try.func17 rfl rfl (Nat.le_of_ble_eq_true rfl) rfl (pins := []) rfl (L := [(0, .t (.d (.seq 1 (bytesD p0))))]) rfl ?_
  refine c_seq ?_
  refine c_region ?_
  refine o_s (.t (.d (.lit (.slice none 0 0)))) (g0 rfl) rfl rfl rfl ?_
  refine o_s (.t (.d (.lit (.slice none 0 0)))) (g0 rfl) rfl rfl rfl ?_
  refine o_s (.t (.d (.lit (.int .i64 0)))) (g0 rfl) rfl rfl rfl ?_
  refine o_nil ?_
  repeat (first | refine then_normal ?_ | refine then_exit ?_ | refine then_ret ?_ | refine block_normal ?_ | refine block_ret ?_ | refine block_exit ?_ | refine block_pass rfl ?_)
  refine c_seq ?_
  refine c_region ?_
  refine o_s (.t (.d (.seq 1 (bytesD p0)))) (g0 rfl) rfl rfl rfl ?_
  obtain ⟨x1, h2, h⟩ := bind_some h
  refine o_ca (fc_R02_Decode _ _ h2) (g0 rfl) rfl rfl rfl rfl rfl rfl rfl (.cons (.refl _) .nil) rfl rfl ?_
  refine o_s (.tup [.agg [.lit (.int .i64 x1.1.k), .lit (.int .i64 x1.1.n), .seq 1 (bytesD x1.1.b), .seq 4 (List.map V.cells x1.1.l)], .d (.lit (.int .i64 x1.2))]) (g0 rfl) rfl rfl rfl ?_
  refine o_s (.t (.agg [.lit (.int .i64 x1.1.k), .lit (.int .i64 x1.1.n), .seq 1 (bytesD x1.1.b), .seq 4 (List.map V.cells x1.1.l)])) (g0 rfl) rfl rfl rfl ?_
  refine o_s (.t (.d (.lit (.int .i64 x1.2)))) (g0 rfl) rfl rfl rfl ?_
  refine o_s (.box [.d (.lit (.int .i64 0)), .d (.lit (.int .i64 0)), .d (.lit (.slice none 0 0)), .d (.lit (.slice none 0 0))]) (g0 rfl) rfl rfl rfl ?_
  refine o_st (.box [.d (.lit (.int .i64 x1.1.k)), .d (.lit (.int .i64 x1.1.n)), .d (.seq 1 (bytesD x1.1.b)), .d (.seq 4 (List.map V.cells x1.1.l))]) (g0 rfl) rfl rfl rfl ?_
  refine o_s (.t (.d (.lit (.int .i64 x1.2)))) (g0 rfl) rfl rfl rfl ?_
  refine o_nil ?_
  repeat (first | refine then_normal ?_ | refine then_exit ?_ | refine then_ret ?_ | refine block_normal ?_ | refine block_ret ?_ | refine block_exit ?_ | refine block_pass rfl ?_)
  refine c_seq ?_
  refine c_seq ?_
  refine c_region ?_
  refine o_s (.t (.d (.lit (.int .i64 x1.2)))) (g0 rfl) rfl rfl rfl ?_
  refine o_s (.t (.d (.lit (.bool (x1.2 != 0))))) (g0 rfl) rfl rfl rfl ?_
  refine o_nil ?_
  repeat (first | refine then_normal ?_ | refine then_exit ?_ | refine then_ret ?_ | refine block_normal ?_ | refine block_ret ?_ | refine block_exit ?_ | refine block_pass rfl ?_)
  rcases bif_some h with ⟨h3, h⟩ | ⟨h3, h⟩
  · refine c_t h3 rfl ?_
    refine c_seq ?_
    refine c_region ?_
    refine o_s (.t (.d (.lit (.int .i64 x1.2)))) (g0 rfl) rfl rfl rfl ?_
    refine o_s (.t (.d (.lit (.slice none 0 0)))) (g0 rfl) rfl rfl rfl ?_
    refine o_s (.t (.d (.lit (.slice none 0 0)))) (g0 rfl) rfl rfl rfl ?_
    refine o_s (.t (.d (.lit (.int .i64 x1.2)))) (g0 rfl) rfl rfl rfl ?_
    refine o_nil ?_
    repeat (first | refine then_normal ?_ | refine then_exit ?_ | refine then_ret ?_ | refine block_normal ?_ | refine block_ret ?_ | refine block_exit ?_ | refine block_pass rfl ?_)
    refine c_ret ?_
    repeat (first | refine then_normal ?_ | refine then_exit ?_ | refine then_ret ?_ | refine block_normal ?_ | refine block_ret ?_ | refine block_exit ?_ | refine block_pass rfl ?_)
    obtain rfl := Option.some.inj h
    exact end0 rfl (.tup (.cons (.d (.nil _)) (.cons (.d (.nil _)) (.cons (.refl _) .nil))))
  · refine c_f h3 rfl ?_
    refine c_skip ?_
    repeat (first | refine then_normal ?_ | refine then_exit ?_ | refine then_ret ?_ | refine block_normal ?_ | refine block_ret ?_ | refine block_exit ?_ | refine block_pass rfl ?_)
    refine c_seq ?_
    refine c_seq ?_
    refine c_region ?_
    refine o_s (.t (.agg [.lit (.int .i64 x1.1.k), .lit (.int .i64 x1.1.n), .seq 1 (bytesD x1.1.b), .seq 4 (List.map V.cells x1.1.l)])) (g0 rfl) rfl rfl rfl ?_
    refine o_s (.t (.own 3 1 (List.map cI64 [2, 2]))) (g0 rfl) rfl rfl rfl ?_
    obtain ⟨x4, h5, h⟩ := bind_some h
    refine o_ca (fc_R28_Kinds _ _ _ h5) (g0 rfl) rfl rfl rfl rfl rfl rfl rfl (.cons (.refl _) (.cons (.refl _) .nil)) rfl rfl ?_
    refine o_s (.t (.d (.lit (.bool (!x4))))) (g0 rfl) rfl rfl rfl ?_
    refine o_nil ?_
    repeat (first | refine then_normal ?_ | refine then_exit ?_ | refine then_ret ?_ | refine block_normal ?_ | refine block_ret ?_ | refine block_exit ?_ | refine block_pass rfl ?_)
    rcases bif_some h with ⟨h6, h⟩ | ⟨h6, h⟩
    · refine c_t h6 rfl ?_
      refine c_seq ?_
      refine c_region ?_
      refine o_s (.t (.d (.lit (.slice none 0 0)))) (g0 rfl) rfl rfl rfl ?_
      refine o_s (.t (.d (.lit (.slice none 0 0)))) (g0 rfl) rfl rfl rfl ?_
      refine o_s (.t (.d (.lit (.int .i64 11)))) (g0 rfl) rfl rfl rfl ?_
      refine o_nil ?_
      repeat (first | refine then_normal ?_ | refine then_exit ?_ | refine then_ret ?_ | refine block_normal ?_ | refine block_ret ?_ | refine block_exit ?_ | refine block_pass rfl ?_)
      refine c_ret ?_
      repeat (first | refine then_normal ?_ | refine then_exit ?_ | refine then_ret ?_ | refine block_normal ?_ | refine block_ret ?_ | refine block_exit ?_ | refine block_pass rfl ?_)
      obtain rfl := Option.some.inj h
      exact end0 rfl (.tup (.cons (.d (.nil _)) (.cons (.d (.nil _)) (.cons (.refl _) .nil))))
    · refine c_f h6 rfl ?_
      refine c_skip ?_
      repeat (first | refine then_normal ?_ | refine then_exit ?_ | refine then_ret ?_ | refine block_normal ?_ | refine block_ret ?_ | refine block_exit ?_ | refine block_pass rfl ?_)
      refine c_seq ?_
      refine c_draw mixed (by kernel_rfl) ?_
      refine d_s (.ref 5 3) rfl (dg0 rfl) rfl rfl rfl rfl ?_
      refine d_s (.t (.d (.seq 4 (List.map V.cells x1.1.l)))) rfl (dg0 rfl) rfl rfl rfl rfl ?_
      obtain ⟨x7, h8, h⟩ := bind_some h
      refine d_c rfl (dg0 rfl) rfl rfl rfl rfl (idxE' V.cells_eq h8) (idxC h8) ?_
      refine d_s (.imm [.seq 1 (bytesD x7.b), .seq 4 (List.map V.cells x7.l)]) rfl (dg0 rfl) rfl rfl rfl rfl ?_
      refine d_s (.t (.d (.seq 1 (bytesD x7.b)))) rfl (dg0 rfl) rfl rfl rfl rfl ?_
      refine d_s (.ref 5 3) rfl (dg0 rfl) rfl rfl rfl rfl ?_
      refine d_s (.t (.d (.seq 4 (List.map V.cells x1.1.l)))) rfl (dg0 rfl) rfl rfl rfl rfl ?_
      obtain ⟨x9, h10, h⟩ := bind_some h
      refine d_c rfl (dg0 rfl) rfl rfl rfl rfl (idxE' V.cells_eq h10) (idxC h10) ?_
      refine d_s (.imm [.seq 1 (bytesD x9.b), .seq 4 (List.map V.cells x9.l)]) rfl (dg0 rfl) rfl rfl rfl rfl ?_
      refine d_s (.t (.d (.seq 1 (bytesD x9.b)))) rfl (dg0 rfl) rfl rfl rfl rfl ?_
      refine d_s (.t (.d (.seq 1 (bytesD x7.b)))) rfl (dg0 rfl) rfl rfl rfl rfl ?_
      refine d_s (.t (.d (.seq 1 (bytesD x9.b)))) rfl (dg0 rfl) rfl rfl rfl rfl ?_
      refine d_s (.t (.d (.lit (.int .i64 0)))) rfl (dg0 rfl) rfl rfl rfl rfl ?_
      refine d_nil (by kernel_rfl) ?_
      repeat (first | refine then_normal ?_ | refine then_exit ?_ | refine then_ret ?_ | refine block_normal ?_ | refine block_ret ?_ | refine block_exit ?_ | refine block_pass rfl ?_)
      refine c_ret ?_
      repeat (first | refine then_normal ?_ | refine then_exit ?_ | refine then_ret ?_ | refine block_normal ?_ | refine block_ret ?_ | refine block_exit ?_ | refine block_pass rfl ?_)
      obtain rfl := Option.some.inj h
      exact end0 rfl (.tup (.cons (.refl _) (.cons (.refl _) (.cons (.refl _) .nil))))

theorem fc_L28_ManifestReads (p0 : (List UInt8)) (r : Bool) (h : m_L28_ManifestReads p0 = some r) : FC Try.prog 4 [.t (.d (.seq 1 (bytesD p0)))] [] (.t (.d (.lit (.bool r)))) := by
  refine fc_mk (rs := [.tmp 2]) (n := 79) Try.func4 rfl rfl (Nat.le_of_ble_eq_true rfl) rfl (pins := []) rfl (L := [(0, .t (.d (.seq 1 (bytesD p0))))]) rfl ?_
  refine c_seq ?_
  refine c_region ?_
  refine o_s (.t (.d (.lit (.bool false)))) (g0 rfl) rfl rfl rfl ?_
  refine o_nil ?_
  repeat (first | refine then_normal ?_ | refine then_exit ?_ | refine then_ret ?_ | refine block_normal ?_ | refine block_ret ?_ | refine block_exit ?_ | refine block_pass rfl ?_)
  refine c_seq ?_
  refine c_seq ?_
  refine c_region ?_
  obtain ⟨x1, h2, h⟩ := bind_some h
  refine o_ca (fc_L28_awake _ h2) (g0 rfl) rfl rfl rfl rfl rfl rfl rfl .nil rfl rfl ?_
  refine o_s (.t (.d (.lit (.bool (!x1))))) (g0 rfl) rfl rfl rfl ?_
  refine o_nil ?_
  repeat (first | refine then_normal ?_ | refine then_exit ?_ | refine then_ret ?_ | refine block_normal ?_ | refine block_ret ?_ | refine block_exit ?_ | refine block_pass rfl ?_)
  rcases bif_some h with ⟨h3, h⟩ | ⟨h3, h⟩
  · refine c_t h3 rfl ?_
    refine c_seq ?_
    refine c_region ?_
    refine o_s (.t (.d (.lit (.bool false)))) (g0 rfl) rfl rfl rfl ?_
    refine o_nil ?_
    repeat (first | refine then_normal ?_ | refine then_exit ?_ | refine then_ret ?_ | refine block_normal ?_ | refine block_ret ?_ | refine block_exit ?_ | refine block_pass rfl ?_)
    refine c_ret ?_
    repeat (first | refine then_normal ?_ | refine then_exit ?_ | refine then_ret ?_ | refine block_normal ?_ | refine block_ret ?_ | refine block_exit ?_ | refine block_pass rfl ?_)
    obtain rfl := Option.some.inj h
    exact end0 rfl (.refl _)
  · refine c_f h3 rfl ?_
    refine c_skip ?_
    repeat (first | refine then_normal ?_ | refine then_exit ?_ | refine then_ret ?_ | refine block_normal ?_ | refine block_ret ?_ | refine block_exit ?_ | refine block_pass rfl ?_)
    refine c_seq ?_
    refine c_seq ?_
    refine c_region ?_
    refine o_s (.t (.d (.seq 1 (bytesD p0)))) (g0 rfl) rfl rfl rfl ?_
    refine o_c (g0 rfl) rfl rfl rfl (lenE _ _) trivial ?_
    refine o_s (.t (.d (.lit (.bool (decide ((p0.length : Int) > 1000)))))) (g0 rfl) rfl rfl rfl ?_
    refine o_nil ?_
    repeat (first | refine then_normal ?_ | refine then_exit ?_ | refine then_ret ?_ | refine block_normal ?_ | refine block_ret ?_ | refine block_exit ?_ | refine block_pass rfl ?_)
    rcases bif_some h with ⟨h4, h⟩ | ⟨h4, h⟩
    · refine c_t h4 rfl ?_
      refine c_seq ?_
      refine c_region ?_
      refine o_s (.t (.d (.lit (.bool true)))) (g0 rfl) rfl rfl rfl ?_
      refine o_nil ?_
      repeat (first | refine then_normal ?_ | refine then_exit ?_ | refine then_ret ?_ | refine block_normal ?_ | refine block_ret ?_ | refine block_exit ?_ | refine block_pass rfl ?_)
      refine c_ret ?_
      repeat (first | refine then_normal ?_ | refine then_exit ?_ | refine then_ret ?_ | refine block_normal ?_ | refine block_ret ?_ | refine block_exit ?_ | refine block_pass rfl ?_)
      obtain rfl := Option.some.inj h
      exact end0 rfl (.refl _)
    · refine c_f h4 rfl ?_
      refine c_skip ?_
      repeat (first | refine then_normal ?_ | refine then_exit ?_ | refine then_ret ?_ | refine block_normal ?_ | refine block_ret ?_ | refine block_exit ?_ | refine block_pass rfl ?_)
      refine c_seq ?_
      refine c_region ?_
      refine o_s (.t (.d (.seq 1 (bytesD p0)))) (g0 rfl) rfl rfl rfl ?_
      obtain ⟨x5, h6, h⟩ := bind_some h
      refine o_ca (fc_manifest_Read _ _ h6) (g0 rfl) rfl rfl rfl rfl rfl rfl rfl (.cons (.refl _) .nil) rfl rfl ?_
      refine o_s (.tup [.agg [.lit (.string ⟨⟨x5.1.Folder⟩⟩), .lit (.int .i64 x5.1.Seq), .seq 1 (bytesD x5.1.Prev), .lit (.string ⟨⟨x5.1.Parent⟩⟩), .seq 2 (List.map cS_api_Member x5.1.Members), .lit (.int .i64 x5.1.Cut), .lit (.bool x5.1.Gone), .lit (.string ⟨⟨x5.1.By⟩⟩)], .d (.lit (.int .i64 x5.2))]) (g0 rfl) rfl rfl rfl ?_
      refine o_s (.t (.agg [.lit (.string ⟨⟨x5.1.Folder⟩⟩), .lit (.int .i64 x5.1.Seq), .seq 1 (bytesD x5.1.Prev), .lit (.string ⟨⟨x5.1.Parent⟩⟩), .seq 2 (List.map cS_api_Member x5.1.Members), .lit (.int .i64 x5.1.Cut), .lit (.bool x5.1.Gone), .lit (.string ⟨⟨x5.1.By⟩⟩)])) (g0 rfl) rfl rfl rfl ?_
      refine o_s (.t (.d (.lit (.int .i64 x5.2)))) (g0 rfl) rfl rfl rfl ?_
      refine o_s (.box [.d (.lit (.string ⟨⟨[]⟩⟩)), .d (.lit (.int .i64 0)), .d (.lit (.slice none 0 0)), .d (.lit (.string ⟨⟨[]⟩⟩)), .d (.lit (.slice none 0 0)), .d (.lit (.int .i64 0)), .d (.lit (.bool false)), .d (.lit (.string ⟨⟨[]⟩⟩))]) (g0 rfl) rfl rfl rfl ?_
      refine o_st (.box [.d (.lit (.string ⟨⟨x5.1.Folder⟩⟩)), .d (.lit (.int .i64 x5.1.Seq)), .d (.seq 1 (bytesD x5.1.Prev)), .d (.lit (.string ⟨⟨x5.1.Parent⟩⟩)), .d (.seq 2 (List.map cS_api_Member x5.1.Members)), .d (.lit (.int .i64 x5.1.Cut)), .d (.lit (.bool x5.1.Gone)), .d (.lit (.string ⟨⟨x5.1.By⟩⟩))]) (g0 rfl) rfl rfl rfl ?_
      refine o_s (.t (.d (.lit (.int .i64 x5.2)))) (g0 rfl) rfl rfl rfl ?_
      refine o_nil ?_
      repeat (first | refine then_normal ?_ | refine then_exit ?_ | refine then_ret ?_ | refine block_normal ?_ | refine block_ret ?_ | refine block_exit ?_ | refine block_pass rfl ?_)
      refine c_seq ?_
      refine c_region ?_
      refine o_s (.t (.d (.seq 1 (bytesD p0)))) (g0 rfl) rfl rfl rfl ?_
      obtain ⟨x7, h8, h⟩ := bind_some h
      refine o_ca (fc_R28_Read _ _ h8) (g0 rfl) rfl rfl rfl rfl rfl rfl rfl (.cons (.refl _) .nil) rfl rfl ?_
      refine o_s (.tup [.agg [.lit (.string ⟨⟨x7.1.Folder⟩⟩), .lit (.int .i64 x7.1.Seq), .seq 1 (bytesD x7.1.Prev), .lit (.string ⟨⟨x7.1.Parent⟩⟩), .seq 2 (List.map cS_api_Member x7.1.Members), .lit (.int .i64 x7.1.Cut), .lit (.bool x7.1.Gone), .lit (.string ⟨⟨x7.1.By⟩⟩)], .d (.lit (.int .i64 x7.2))]) (g0 rfl) rfl rfl rfl ?_
      refine o_s (.t (.agg [.lit (.string ⟨⟨x7.1.Folder⟩⟩), .lit (.int .i64 x7.1.Seq), .seq 1 (bytesD x7.1.Prev), .lit (.string ⟨⟨x7.1.Parent⟩⟩), .seq 2 (List.map cS_api_Member x7.1.Members), .lit (.int .i64 x7.1.Cut), .lit (.bool x7.1.Gone), .lit (.string ⟨⟨x7.1.By⟩⟩)])) (g0 rfl) rfl rfl rfl ?_
      refine o_s (.t (.d (.lit (.int .i64 x7.2)))) (g0 rfl) rfl rfl rfl ?_
      refine o_s (.box [.d (.lit (.string ⟨⟨[]⟩⟩)), .d (.lit (.int .i64 0)), .d (.lit (.slice none 0 0)), .d (.lit (.string ⟨⟨[]⟩⟩)), .d (.lit (.slice none 0 0)), .d (.lit (.int .i64 0)), .d (.lit (.bool false)), .d (.lit (.string ⟨⟨[]⟩⟩))]) (g0 rfl) rfl rfl rfl ?_
      refine o_st (.box [.d (.lit (.string ⟨⟨x7.1.Folder⟩⟩)), .d (.lit (.int .i64 x7.1.Seq)), .d (.seq 1 (bytesD x7.1.Prev)), .d (.lit (.string ⟨⟨x7.1.Parent⟩⟩)), .d (.seq 2 (List.map cS_api_Member x7.1.Members)), .d (.lit (.int .i64 x7.1.Cut)), .d (.lit (.bool x7.1.Gone)), .d (.lit (.string ⟨⟨x7.1.By⟩⟩))]) (g0 rfl) rfl rfl rfl ?_
      refine o_s (.t (.d (.lit (.int .i64 x7.2)))) (g0 rfl) rfl rfl rfl ?_
      refine o_nil ?_
      repeat (first | refine then_normal ?_ | refine then_exit ?_ | refine then_ret ?_ | refine block_normal ?_ | refine block_ret ?_ | refine block_exit ?_ | refine block_pass rfl ?_)
      refine c_seq ?_
      refine c_seq ?_
      refine c_region ?_
      refine o_s (.t (.d (.lit (.int .i64 x5.2)))) (g0 rfl) rfl rfl rfl ?_
      refine o_s (.t (.d (.lit (.int .i64 x7.2)))) (g0 rfl) rfl rfl rfl ?_
      refine o_s (.t (.d (.lit (.bool (x5.2 != x7.2))))) (g0 rfl) rfl rfl rfl ?_
      refine o_s (.t (.d (.lit (.bool (x5.2 != x7.2))))) (g0 rfl) rfl rfl rfl ?_
      rcases bif_some h with ⟨h9, h⟩ | ⟨h9, h⟩
      · refine o_skip rfl rfl rfl h9 rfl rfl ?_
        refine o_skip rfl rfl rfl h9 rfl rfl ?_
        refine o_skip rfl rfl rfl h9 rfl rfl ?_
        refine o_skip rfl rfl rfl h9 rfl rfl ?_
        refine o_pk (.t (.d (.lit (.bool true)))) (b := true) h9 (g0 rfl) rfl rfl rfl rfl rfl ?_
        refine o_nil ?_
        repeat (first | refine then_normal ?_ | refine then_exit ?_ | refine then_ret ?_ | refine block_normal ?_ | refine block_ret ?_ | refine block_exit ?_ | refine block_pass rfl ?_)
        refine c_t rfl rfl ?_
        refine c_seq ?_
        refine c_region ?_
        refine o_s (.t (.d (.lit (.bool false)))) (g0 rfl) rfl rfl rfl ?_
        refine o_nil ?_
        repeat (first | refine then_normal ?_ | refine then_exit ?_ | refine then_ret ?_ | refine block_normal ?_ | refine block_ret ?_ | refine block_exit ?_ | refine block_pass rfl ?_)
        refine c_ret ?_
        repeat (first | refine then_normal ?_ | refine then_exit ?_ | refine then_ret ?_ | refine block_normal ?_ | refine block_ret ?_ | refine block_exit ?_ | refine block_pass rfl ?_)
        obtain rfl := Option.some.inj h
        exact end0 rfl (.refl _)
      · refine o_s (.t (.agg [.lit (.string ⟨⟨x5.1.Folder⟩⟩), .lit (.int .i64 x5.1.Seq), .seq 1 (bytesD x5.1.Prev), .lit (.string ⟨⟨x5.1.Parent⟩⟩), .seq 2 (List.map cS_api_Member x5.1.Members), .lit (.int .i64 x5.1.Cut), .lit (.bool x5.1.Gone), .lit (.string ⟨⟨x5.1.By⟩⟩)])) (gy rfl rfl rfl h9) rfl rfl rfl ?_
        refine o_s (.t (.agg [.lit (.string ⟨⟨x7.1.Folder⟩⟩), .lit (.int .i64 x7.1.Seq), .seq 1 (bytesD x7.1.Prev), .lit (.string ⟨⟨x7.1.Parent⟩⟩), .seq 2 (List.map cS_api_Member x7.1.Members), .lit (.int .i64 x7.1.Cut), .lit (.bool x7.1.Gone), .lit (.string ⟨⟨x7.1.By⟩⟩)])) (gy rfl rfl rfl h9) rfl rfl rfl ?_
        obtain ⟨x10, h11, h⟩ := bind_some h
        refine o_ca (fc_R28_Same _ _ _ h11) (gy rfl rfl rfl h9) rfl rfl rfl rfl rfl rfl rfl (.cons (.refl _) (.cons (.refl _) .nil)) rfl rfl ?_
        refine o_s (.t (.d (.lit (.bool (!x10))))) (gy rfl rfl rfl h9) rfl rfl rfl ?_
        refine o_pk (.t (.d (.lit (.bool (!x10))))) (b := false) h9 (g0 rfl) rfl rfl rfl rfl rfl ?_
        refine o_nil ?_
        repeat (first | refine then_normal ?_ | refine then_exit ?_ | refine then_ret ?_ | refine block_normal ?_ | refine block_ret ?_ | refine block_exit ?_ | refine block_pass rfl ?_)
        rcases bif_some h with ⟨h12, h⟩ | ⟨h12, h⟩
        · refine c_t h12 rfl ?_
          refine c_seq ?_
          refine c_region ?_
          refine o_s (.t (.d (.lit (.bool false)))) (g0 rfl) rfl rfl rfl ?_
          refine o_nil ?_
          repeat (first | refine then_normal ?_ | refine then_exit ?_ | refine then_ret ?_ | refine block_normal ?_ | refine block_ret ?_ | refine block_exit ?_ | refine block_pass rfl ?_)
          refine c_ret ?_
          repeat (first | refine then_normal ?_ | refine then_exit ?_ | refine then_ret ?_ | refine block_normal ?_ | refine block_ret ?_ | refine block_exit ?_ | refine block_pass rfl ?_)
          obtain rfl := Option.some.inj h
          exact end0 rfl (.refl _)
        · refine c_f h12 rfl ?_
          refine c_skip ?_
          repeat (first | refine then_normal ?_ | refine then_exit ?_ | refine then_ret ?_ | refine block_normal ?_ | refine block_ret ?_ | refine block_exit ?_ | refine block_pass rfl ?_)
          refine c_cut (fun (_ : Unit) => [(0, .t (.d (.seq 1 (bytesD p0))))]) (fun (_ : Unit) => m_L28_ManifestReads_j1 p0 = some r) ?_ ?_
          · refine c_seq ?_
            refine c_region ?_
            refine o_s (.t (.d (.lit (.int .i64 x5.2)))) (g0 rfl) rfl rfl rfl ?_
            refine o_s (.t (.d (.lit (.bool (x5.2 == 0))))) (g0 rfl) rfl rfl rfl ?_
            refine o_nil ?_
            repeat (first | refine then_normal ?_ | refine then_exit ?_ | refine then_ret ?_ | refine block_normal ?_ | refine block_ret ?_ | refine block_exit ?_ | refine block_pass rfl ?_)
            rcases bif_some h with ⟨h23, h⟩ | ⟨h23, h⟩
            · refine c_t h23 rfl ?_
              refine c_seq ?_
              refine c_region ?_
              refine o_s (.t (.agg [.lit (.string ⟨⟨x5.1.Folder⟩⟩), .lit (.int .i64 x5.1.Seq), .seq 1 (bytesD x5.1.Prev), .lit (.string ⟨⟨x5.1.Parent⟩⟩), .seq 2 (List.map cS_api_Member x5.1.Members), .lit (.int .i64 x5.1.Cut), .lit (.bool x5.1.Gone), .lit (.string ⟨⟨x5.1.By⟩⟩)])) (g0 rfl) rfl rfl rfl ?_
              obtain ⟨x24, h25, h⟩ := bind_some h
              refine o_ca (fc_manifest_Text _ _ h25) (g0 rfl) rfl rfl rfl rfl rfl rfl rfl (.cons (.refl _) .nil) rfl rfl ?_
              refine o_s (.tup [.d (.seq 1 (bytesD x24.1)), .d (.lit (.int .i64 x24.2))]) (g0 rfl) rfl rfl rfl ?_
              refine o_s (.t (.d (.seq 1 (bytesD x24.1)))) (g0 rfl) rfl rfl rfl ?_
              refine o_s (.t (.d (.lit (.int .i64 x24.2)))) (g0 rfl) rfl rfl rfl ?_
              refine o_s (.t (.d (.seq 1 (bytesD x24.1)))) (g0 rfl) rfl rfl rfl ?_
              refine o_s (.t (.d (.lit (.int .i64 x24.2)))) (g0 rfl) rfl rfl rfl ?_
              refine o_nil ?_
              repeat (first | refine then_normal ?_ | refine then_exit ?_ | refine then_ret ?_ | refine block_normal ?_ | refine block_ret ?_ | refine block_exit ?_ | refine block_pass rfl ?_)
              refine c_seq ?_
              refine c_region ?_
              refine o_s (.t (.d (.lit (.int .i64 x24.2)))) (g0 rfl) rfl rfl rfl ?_
              refine o_s (.t (.d (.lit (.bool (x24.2 != 0))))) (g0 rfl) rfl rfl rfl ?_
              refine o_s (.t (.d (.lit (.bool (x24.2 != 0))))) (g0 rfl) rfl rfl rfl ?_
              rcases bif_some h with ⟨h26, h⟩ | ⟨h26, h⟩
              · refine o_skip rfl rfl rfl h26 rfl rfl ?_
                refine o_skip rfl rfl rfl h26 rfl rfl ?_
                refine o_skip rfl rfl rfl h26 rfl rfl ?_
                refine o_skip rfl rfl rfl h26 rfl rfl ?_
                refine o_pk (.t (.d (.lit (.bool true)))) (b := true) h26 (g0 rfl) rfl rfl rfl rfl rfl ?_
                refine o_nil ?_
                repeat (first | refine then_normal ?_ | refine then_exit ?_ | refine then_ret ?_ | refine block_normal ?_ | refine block_ret ?_ | refine block_exit ?_ | refine block_pass rfl ?_)
                refine c_t rfl rfl ?_
                refine c_seq ?_
                refine c_region ?_
                refine o_s (.t (.d (.lit (.bool false)))) (g0 rfl) rfl rfl rfl ?_
                refine o_nil ?_
                repeat (first | refine then_normal ?_ | refine then_exit ?_ | refine then_ret ?_ | refine block_normal ?_ | refine block_ret ?_ | refine block_exit ?_ | refine block_pass rfl ?_)
                refine c_ret ?_
                repeat (first | refine then_normal ?_ | refine then_exit ?_ | refine then_ret ?_ | refine block_normal ?_ | refine block_ret ?_ | refine block_exit ?_ | refine block_pass rfl ?_)
                obtain rfl := Option.some.inj h
                exact end0 rfl (.refl _)
              · refine o_s (.t (.d (.seq 1 (bytesD x24.1)))) (gy rfl rfl rfl h26) rfl rfl rfl ?_
                refine o_s (.t (.d (.seq 1 (bytesD p0)))) (gy rfl rfl rfl h26) rfl rfl rfl ?_
                obtain ⟨x27, h28, h⟩ := bind_some h
                refine o_ca (fc_R01_Same _ _ _ h28) (gy rfl rfl rfl h26) rfl rfl rfl rfl rfl rfl rfl (.cons (.refl _) (.cons (.refl _) .nil)) rfl rfl ?_
                refine o_s (.t (.d (.lit (.bool (!x27))))) (gy rfl rfl rfl h26) rfl rfl rfl ?_
                refine o_pk (.t (.d (.lit (.bool (!x27))))) (b := false) h26 (g0 rfl) rfl rfl rfl rfl rfl ?_
                refine o_nil ?_
                repeat (first | refine then_normal ?_ | refine then_exit ?_ | refine then_ret ?_ | refine block_normal ?_ | refine block_ret ?_ | refine block_exit ?_ | refine block_pass rfl ?_)
                rcases bif_some h with ⟨h29, h⟩ | ⟨h29, h⟩
                · refine c_t h29 rfl ?_
                  refine c_seq ?_
                  refine c_region ?_
                  refine o_s (.t (.d (.lit (.bool false)))) (g0 rfl) rfl rfl rfl ?_
                  refine o_nil ?_
                  repeat (first | refine then_normal ?_ | refine then_exit ?_ | refine then_ret ?_ | refine block_normal ?_ | refine block_ret ?_ | refine block_exit ?_ | refine block_pass rfl ?_)
                  refine c_ret ?_
                  repeat (first | refine then_normal ?_ | refine then_exit ?_ | refine then_ret ?_ | refine block_normal ?_ | refine block_ret ?_ | refine block_exit ?_ | refine block_pass rfl ?_)
                  obtain rfl := Option.some.inj h
                  exact end0 rfl (.refl _)
                · refine c_f h29 rfl ?_
                  refine c_skip ?_
                  repeat (first | refine then_normal ?_ | refine then_exit ?_ | refine then_ret ?_ | refine block_normal ?_ | refine block_ret ?_ | refine block_exit ?_ | refine block_pass rfl ?_)
                  exact ⟨(), h, ⟨(.refl _), trivial⟩, rfl⟩
            · refine c_f h23 rfl ?_
              refine c_skip ?_
              repeat (first | refine then_normal ?_ | refine then_exit ?_ | refine then_ret ?_ | refine block_normal ?_ | refine block_ret ?_ | refine block_exit ?_ | refine block_pass rfl ?_)
              exact ⟨(), h, ⟨(.refl _), trivial⟩, rfl⟩
          · rintro ⟨⟩ h
            refine c_seq ?_
            refine c_region ?_
            refine o_s (.t (.d (.seq 1 (bytesD p0)))) (g0 rfl) rfl rfl rfl ?_
            obtain ⟨x13, h14, h⟩ := bind_some h
            refine o_ca (fc_manifest_Split _ _ h14) (g0 rfl) rfl rfl rfl rfl rfl rfl rfl (.cons (.refl _) .nil) rfl rfl ?_
            refine o_s (.tup [.d (.seq 1 (bytesD x13.1)), .d (.seq 1 (bytesD x13.2.1)), .d (.lit (.int .i64 x13.2.2))]) (g0 rfl) rfl rfl rfl ?_
            refine o_s (.t (.d (.seq 1 (bytesD x13.1)))) (g0 rfl) rfl rfl rfl ?_
            refine o_s (.t (.d (.seq 1 (bytesD x13.2.1)))) (g0 rfl) rfl rfl rfl ?_
            refine o_s (.t (.d (.lit (.int .i64 x13.2.2)))) (g0 rfl) rfl rfl rfl ?_
            refine o_s (.t (.d (.seq 1 (bytesD x13.1)))) (g0 rfl) rfl rfl rfl ?_
            refine o_s (.t (.d (.seq 1 (bytesD x13.2.1)))) (g0 rfl) rfl rfl rfl ?_
            refine o_s (.t (.d (.lit (.int .i64 x13.2.2)))) (g0 rfl) rfl rfl rfl ?_
            refine o_nil ?_
            repeat (first | refine then_normal ?_ | refine then_exit ?_ | refine then_ret ?_ | refine block_normal ?_ | refine block_ret ?_ | refine block_exit ?_ | refine block_pass rfl ?_)
            refine c_seq ?_
            refine c_region ?_
            refine o_s (.t (.d (.seq 1 (bytesD p0)))) (g0 rfl) rfl rfl rfl ?_
            obtain ⟨x15, h16, h⟩ := bind_some h
            refine o_ca (fc_R28_Split _ _ h16) (g0 rfl) rfl rfl rfl rfl rfl rfl rfl (.cons (.refl _) .nil) rfl rfl ?_
            refine o_s (.tup [.d (.seq 1 (bytesD x15.1)), .d (.seq 1 (bytesD x15.2.1)), .d (.lit (.int .i64 x15.2.2))]) (g0 rfl) rfl rfl rfl ?_
            refine o_s (.t (.d (.seq 1 (bytesD x15.1)))) (g0 rfl) rfl rfl rfl ?_
            refine o_s (.t (.d (.seq 1 (bytesD x15.2.1)))) (g0 rfl) rfl rfl rfl ?_
            refine o_s (.t (.d (.lit (.int .i64 x15.2.2)))) (g0 rfl) rfl rfl rfl ?_
            refine o_s (.t (.d (.seq 1 (bytesD x15.1)))) (g0 rfl) rfl rfl rfl ?_
            refine o_s (.t (.d (.seq 1 (bytesD x15.2.1)))) (g0 rfl) rfl rfl rfl ?_
            refine o_s (.t (.d (.lit (.int .i64 x15.2.2)))) (g0 rfl) rfl rfl rfl ?_
            refine o_nil ?_
            repeat (first | refine then_normal ?_ | refine then_exit ?_ | refine then_ret ?_ | refine block_normal ?_ | refine block_ret ?_ | refine block_exit ?_ | refine block_pass rfl ?_)
            refine c_seq ?_
            refine c_region ?_
            refine o_s (.t (.d (.lit (.int .i64 x13.2.2)))) (g0 rfl) rfl rfl rfl ?_
            refine o_s (.t (.d (.lit (.int .i64 x15.2.2)))) (g0 rfl) rfl rfl rfl ?_
            refine o_s (.t (.d (.lit (.bool (x13.2.2 == x15.2.2))))) (g0 rfl) rfl rfl rfl ?_
            refine o_s (.t (.d (.lit (.bool (x13.2.2 == x15.2.2))))) (g0 rfl) rfl rfl rfl ?_
            rcases bif_some h with ⟨h17, h⟩ | ⟨h17, h⟩
            · refine o_s (.t (.d (.seq 1 (bytesD x13.1)))) (gy rfl rfl rfl h17) rfl rfl rfl ?_
              refine o_s (.t (.d (.seq 1 (bytesD x15.1)))) (gy rfl rfl rfl h17) rfl rfl rfl ?_
              obtain ⟨x18, h19, h⟩ := bind_some h
              refine o_ca (fc_R01_Same _ _ _ h19) (gy rfl rfl rfl h17) rfl rfl rfl rfl rfl rfl rfl (.cons (.refl _) (.cons (.refl _) .nil)) rfl rfl ?_
              refine o_pk (.t (.d (.lit (.bool x18)))) (b := true) h17 (g0 rfl) rfl rfl rfl rfl rfl ?_
              refine o_s (.t (.d (.lit (.bool x18)))) (g0 rfl) rfl rfl rfl ?_
              rcases bif_some h with ⟨h20, h⟩ | ⟨h20, h⟩
              · refine o_s (.t (.d (.seq 1 (bytesD x13.2.1)))) (gy rfl rfl rfl h20) rfl rfl rfl ?_
                refine o_s (.t (.d (.seq 1 (bytesD x15.2.1)))) (gy rfl rfl rfl h20) rfl rfl rfl ?_
                obtain ⟨x21, h22, h⟩ := bind_some h
                refine o_ca (fc_R01_Same _ _ _ h22) (gy rfl rfl rfl h20) rfl rfl rfl rfl rfl rfl rfl (.cons (.refl _) (.cons (.refl _) .nil)) rfl rfl ?_
                refine o_pk (.t (.d (.lit (.bool x21)))) (b := true) h20 (g0 rfl) rfl rfl rfl rfl rfl ?_
                refine o_s (.t (.d (.lit (.bool x21)))) (g0 rfl) rfl rfl rfl ?_
                refine o_nil ?_
                repeat (first | refine then_normal ?_ | refine then_exit ?_ | refine then_ret ?_ | refine block_normal ?_ | refine block_ret ?_ | refine block_exit ?_ | refine block_pass rfl ?_)
                refine c_ret ?_
                repeat (first | refine then_normal ?_ | refine then_exit ?_ | refine then_ret ?_ | refine block_normal ?_ | refine block_ret ?_ | refine block_exit ?_ | refine block_pass rfl ?_)
                obtain rfl := Option.some.inj h
                exact end0 rfl (.refl _)
              · refine o_skip rfl rfl rfl h20 rfl rfl ?_
                refine o_skip rfl rfl rfl h20 rfl rfl ?_
                refine o_skip rfl rfl rfl h20 rfl rfl ?_
                refine o_pk (.t (.d (.lit (.bool false)))) (b := false) h20 (g0 rfl) rfl rfl rfl rfl rfl ?_
                refine o_s (.t (.d (.lit (.bool false)))) (g0 rfl) rfl rfl rfl ?_
                refine o_nil ?_
                repeat (first | refine then_normal ?_ | refine then_exit ?_ | refine then_ret ?_ | refine block_normal ?_ | refine block_ret ?_ | refine block_exit ?_ | refine block_pass rfl ?_)
                refine c_ret ?_
                repeat (first | refine then_normal ?_ | refine then_exit ?_ | refine then_ret ?_ | refine block_normal ?_ | refine block_ret ?_ | refine block_exit ?_ | refine block_pass rfl ?_)
                obtain rfl := Option.some.inj h
                exact end0 rfl (.refl _)
            · refine o_skip rfl rfl rfl h17 rfl rfl ?_
              refine o_skip rfl rfl rfl h17 rfl rfl ?_
              refine o_skip rfl rfl rfl h17 rfl rfl ?_
              refine o_pk (.t (.d (.lit (.bool false)))) (b := false) h17 (g0 rfl) rfl rfl rfl rfl rfl ?_
              refine o_s (.t (.d (.lit (.bool false)))) (g0 rfl) rfl rfl rfl ?_
              refine o_skip rfl rfl rfl rfl rfl rfl ?_
              refine o_skip rfl rfl rfl rfl rfl rfl ?_
              refine o_skip rfl rfl rfl rfl rfl rfl ?_
              refine o_pk (.t (.d (.lit (.bool false)))) (b := false) rfl (g0 rfl) rfl rfl rfl rfl rfl ?_
              refine o_s (.t (.d (.lit (.bool false)))) (g0 rfl) rfl rfl rfl ?_
              refine o_nil ?_
              repeat (first | refine then_normal ?_ | refine then_exit ?_ | refine then_ret ?_ | refine block_normal ?_ | refine block_ret ?_ | refine block_exit ?_ | refine block_pass rfl ?_)
              refine c_ret ?_
              repeat (first | refine then_normal ?_ | refine then_exit ?_ | refine then_ret ?_ | refine block_normal ?_ | refine block_ret ?_ | refine block_exit ?_ | refine block_pass rfl ?_)
              obtain rfl := Option.some.inj h
              exact end0 rfl (.refl _)

end Go.Proofs.Ytimdogdplphmoac
