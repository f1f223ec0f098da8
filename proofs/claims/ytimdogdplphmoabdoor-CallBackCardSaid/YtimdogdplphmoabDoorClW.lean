/-
  Walks of functions: each function does what its model tells. Printed by a program of this claim's own (gen.py) off the given translation.
-/
import Derived.Test.YtimdogdplphmoabDoorClM
import Derived.Test.YtimdogdplphmoabDoorCbW
import Derived.Test.YtimdogdplphmoabDoorTab
import Derived.Test.YtimdogdplphmoabDoorClWa
namespace Go.Proofs.YtimdogdplphmoabDoor
open Go Go.RowKit
set_option linter.unusedVariables false
set_option maxHeartbeats 4000000
set_option maxRecDepth 20000
theorem fc_R30_May (p0 : S_api_Call) (r : Bool) (h : m_R30_May p0 = some r) : FC Tryd.prog 20 [.t (.agg [.lit (.int .i64 p0.Kind), .lit (.string ⟨⟨p0.User⟩⟩), .lit (.string ⟨⟨p0.Folder⟩⟩), .lit (.string ⟨⟨p0.Name⟩⟩), .lit (.string ⟨⟨p0.Other⟩⟩), .lit (.int .i64 p0.Role), .lit (.int .i64 p0.Version), .seq 1 (bytesD p0.Data)])] [] (.t (.d (.lit (.bool r)))) := by
  refine fc_mk (rs := [.tmp 2]) (n := 183) Tryd.func20 rfl rfl (Nat.le_of_ble_eq_true rfl) rfl (pins := []) rfl (L := [(0, .t (.agg [.lit (.int .i64 p0.Kind), .lit (.string ⟨⟨p0.User⟩⟩), .lit (.string ⟨⟨p0.Folder⟩⟩), .lit (.string ⟨⟨p0.Name⟩⟩), .lit (.string ⟨⟨p0.Other⟩⟩), .lit (.int .i64 p0.Role), .lit (.int .i64 p0.Version), .seq 1 (bytesD p0.Data)]))]) rfl ?_
  refine c_seq ?_
  refine c_region ?_
  refine o_s (.box [.d (.lit (.int .i64 p0.Kind)), .d (.lit (.string ⟨⟨p0.User⟩⟩)), .d (.lit (.string ⟨⟨p0.Folder⟩⟩)), .d (.lit (.string ⟨⟨p0.Name⟩⟩)), .d (.lit (.string ⟨⟨p0.Other⟩⟩)), .d (.lit (.int .i64 p0.Role)), .d (.lit (.int .i64 p0.Version)), .d (.seq 1 (bytesD p0.Data))]) (g0 rfl) rfl rfl rfl ?_
  refine o_s (.t (.d (.lit (.bool false)))) (g0 rfl) rfl rfl rfl ?_
  refine o_nil ?_
  repeat (first | refine then_normal ?_ | refine then_exit ?_ | refine then_ret ?_ | refine block_normal ?_ | refine block_ret ?_ | refine block_exit ?_ | refine block_pass rfl ?_)
  refine c_seq ?_
  refine c_seq ?_
  refine c_region ?_
  refine o_s (.ref 1 1) (g0 rfl) rfl rfl rfl ?_
  refine o_s (.t (.d (.lit (.string ⟨⟨p0.User⟩⟩)))) (g0 rfl) rfl rfl rfl ?_
  obtain ⟨x1, h2, h⟩ := bind_some h
  refine o_ca (fc_R25_Name _ _ h2) (g0 rfl) rfl rfl rfl rfl rfl rfl rfl (.cons (.refl _) .nil) rfl rfl ?_
  refine o_s (.t (.d (.lit (.bool (!x1))))) (g0 rfl) rfl rfl rfl ?_
  refine o_s (.t (.d (.lit (.bool (!x1))))) (g0 rfl) rfl rfl rfl ?_
  rcases bif_some h with ⟨h3, h⟩ | ⟨h3, h⟩
  · refine o_skip rfl rfl rfl h3 rfl rfl ?_
    refine o_skip rfl rfl rfl h3 rfl rfl ?_
    refine o_skip rfl rfl rfl h3 rfl rfl ?_
    refine o_pk (.t (.d (.lit (.bool true)))) (b := true) h3 (g0 rfl) rfl rfl rfl rfl rfl ?_
    refine o_s (.t (.d (.lit (.bool true)))) (g0 rfl) rfl rfl rfl ?_
    refine o_skip rfl rfl rfl rfl rfl rfl ?_
    refine o_skip rfl rfl rfl rfl rfl rfl ?_
    refine o_skip rfl rfl rfl rfl rfl rfl ?_
    refine o_pk (.t (.d (.lit (.bool true)))) (b := true) rfl (g0 rfl) rfl rfl rfl rfl rfl ?_
    refine o_nil ?_
    repeat (first | refine then_normal ?_ | refine then_exit ?_ | refine then_ret ?_ | refine block_normal ?_ | refine block_ret ?_ | refine block_exit ?_ | refine block_pass rfl ?_)
    refine c_t rfl rfl ?_
    refine c_seq ?_
    refine c_region ?_
    refine o_s (.t (.d (.lit (.bool false)))) (g0 rfl) rfl rfl rfl ?_
    refine o_nil ?_
    repeat (first | refine then_normal ?_ | refine then_exit ?_ | refine then_ret ?_ | refine block_normal ?_ | refine block_ret ?_ | refine block_exit ?_ | refine block_pass rfl ?_)
    refine c_ret ?_
    repeat (first | refine then_normal ?_ | refine then_exit ?_ | refine then_ret ?_ | refine block_normal ?_ | refine block_ret ?_ | refine block_exit ?_ | refine block_pass rfl ?_)
    obtain rfl := Option.some.inj h
    exact end0 rfl (.refl _)
  · refine o_s (.ref 1 0) (gy rfl rfl rfl h3) rfl rfl rfl ?_
    refine o_s (.t (.d (.lit (.int .i64 p0.Kind)))) (gy rfl rfl rfl h3) rfl rfl rfl ?_
    refine o_s (.t (.d (.lit (.bool (decide (p0.Kind < 1)))))) (gy rfl rfl rfl h3) rfl rfl rfl ?_
    refine o_pk (.t (.d (.lit (.bool (decide (p0.Kind < 1)))))) (b := false) h3 (g0 rfl) rfl rfl rfl rfl rfl ?_
    refine o_s (.t (.d (.lit (.bool (decide (p0.Kind < 1)))))) (g0 rfl) rfl rfl rfl ?_
    rcases bif_some h with ⟨h4, h⟩ | ⟨h4, h⟩
    · refine o_skip rfl rfl rfl h4 rfl rfl ?_
      refine o_skip rfl rfl rfl h4 rfl rfl ?_
      refine o_skip rfl rfl rfl h4 rfl rfl ?_
      refine o_pk (.t (.d (.lit (.bool true)))) (b := true) h4 (g0 rfl) rfl rfl rfl rfl rfl ?_
      refine o_nil ?_
      repeat (first | refine then_normal ?_ | refine then_exit ?_ | refine then_ret ?_ | refine block_normal ?_ | refine block_ret ?_ | refine block_exit ?_ | refine block_pass rfl ?_)
      refine c_t rfl rfl ?_
      refine c_seq ?_
      refine c_region ?_
      refine o_s (.t (.d (.lit (.bool false)))) (g0 rfl) rfl rfl rfl ?_
      refine o_nil ?_
      repeat (first | refine then_normal ?_ | refine then_exit ?_ | refine then_ret ?_ | refine block_normal ?_ | refine block_ret ?_ | refine block_exit ?_ | refine block_pass rfl ?_)
      refine c_ret ?_
      repeat (first | refine then_normal ?_ | refine then_exit ?_ | refine then_ret ?_ | refine block_normal ?_ | refine block_ret ?_ | refine block_exit ?_ | refine block_pass rfl ?_)
      obtain rfl := Option.some.inj h
      exact end0 rfl (.refl _)
    · refine o_s (.ref 1 0) (gy rfl rfl rfl h4) rfl rfl rfl ?_
      refine o_s (.t (.d (.lit (.int .i64 p0.Kind)))) (gy rfl rfl rfl h4) rfl rfl rfl ?_
      refine o_s (.t (.d (.lit (.bool (decide (p0.Kind > 16)))))) (gy rfl rfl rfl h4) rfl rfl rfl ?_
      refine o_pk (.t (.d (.lit (.bool (decide (p0.Kind > 16)))))) (b := false) h4 (g0 rfl) rfl rfl rfl rfl rfl ?_
      refine o_nil ?_
      repeat (first | refine then_normal ?_ | refine then_exit ?_ | refine then_ret ?_ | refine block_normal ?_ | refine block_ret ?_ | refine block_exit ?_ | refine block_pass rfl ?_)
      rcases bif_some h with ⟨h5, h⟩ | ⟨h5, h⟩
      · refine c_t h5 rfl ?_
        refine c_seq ?_
        refine c_region ?_
        refine o_s (.t (.d (.lit (.bool false)))) (g0 rfl) rfl rfl rfl ?_
        refine o_nil ?_
        repeat (first | refine then_normal ?_ | refine then_exit ?_ | refine then_ret ?_ | refine block_normal ?_ | refine block_ret ?_ | refine block_exit ?_ | refine block_pass rfl ?_)
        refine c_ret ?_
        repeat (first | refine then_normal ?_ | refine then_exit ?_ | refine then_ret ?_ | refine block_normal ?_ | refine block_ret ?_ | refine block_exit ?_ | refine block_pass rfl ?_)
        obtain rfl := Option.some.inj h
        exact end0 rfl (.refl _)
      · refine c_f h5 rfl ?_
        refine c_skip ?_
        repeat (first | refine then_normal ?_ | refine then_exit ?_ | refine then_ret ?_ | refine block_normal ?_ | refine block_ret ?_ | refine block_exit ?_ | refine block_pass rfl ?_)
        refine c_seq ?_
        refine c_region ?_
        refine o_s (.ref 1 0) (g0 rfl) rfl rfl rfl ?_
        refine o_s (.t (.d (.lit (.int .i64 p0.Kind)))) (g0 rfl) rfl rfl rfl ?_
        refine o_s (.t (.d (.lit (.int .i64 p0.Kind)))) (g0 rfl) rfl rfl rfl ?_
        refine o_nil ?_
        repeat (first | refine then_normal ?_ | refine then_exit ?_ | refine then_ret ?_ | refine block_normal ?_ | refine block_ret ?_ | refine block_exit ?_ | refine block_pass rfl ?_)
        refine c_cut (fun (_ : Unit) => [(1, .box [.d (.lit (.int .i64 p0.Kind)), .d (.lit (.string ⟨⟨p0.User⟩⟩)), .d (.lit (.string ⟨⟨p0.Folder⟩⟩)), .d (.lit (.string ⟨⟨p0.Name⟩⟩)), .d (.lit (.string ⟨⟨p0.Other⟩⟩)), .d (.lit (.int .i64 p0.Role)), .d (.lit (.int .i64 p0.Version)), .d (.seq 1 (bytesD p0.Data))]), (3, .t (.d (.lit (.int .i64 p0.Kind))))]) (fun (_ : Unit) => m_R30_May_j1 p0 = some r) ?_ ?_
        · refine c_seq ?_
          refine c_region ?_
          refine o_s (.t (.d (.lit (.int .i64 p0.Kind)))) (g0 rfl) rfl rfl rfl ?_
          refine o_s (.t (.d (.lit (.bool (p0.Kind == 14))))) (g0 rfl) rfl rfl rfl ?_
          refine o_s (.t (.d (.lit (.bool (p0.Kind == 14))))) (g0 rfl) rfl rfl rfl ?_
          rcases bif_some h with ⟨h60, h⟩ | ⟨h60, h⟩
          · refine o_skip rfl rfl rfl h60 rfl rfl ?_
            refine o_skip rfl rfl rfl h60 rfl rfl ?_
            refine o_pk (.t (.d (.lit (.bool true)))) (b := true) h60 (g0 rfl) rfl rfl rfl rfl rfl ?_
            refine o_s (.t (.d (.lit (.bool true)))) (g0 rfl) rfl rfl rfl ?_
            refine o_s (.ref 1 4) (gy rfl rfl rfl rfl) rfl rfl rfl ?_
            refine o_s (.t (.d (.lit (.string ⟨⟨p0.Other⟩⟩)))) (gy rfl rfl rfl rfl) rfl rfl rfl ?_
            obtain ⟨x61, h62, h⟩ := bind_some h
            refine o_ca (fc_R25_Name _ _ h62) (gy rfl rfl rfl rfl) rfl rfl rfl rfl rfl rfl rfl (.cons (.refl _) .nil) rfl rfl ?_
            refine o_s (.t (.d (.lit (.bool (!x61))))) (gy rfl rfl rfl rfl) rfl rfl rfl ?_
            refine o_s (.t (.d (.lit (.bool (!x61))))) (gy rfl rfl rfl rfl) rfl rfl rfl ?_
            rcases bif_some h with ⟨h63, h⟩ | ⟨h63, h⟩
            · refine o_skip rfl rfl rfl h63 rfl rfl ?_
              refine o_skip rfl rfl rfl h63 rfl rfl ?_
              refine o_skip rfl rfl rfl h63 rfl rfl ?_
              refine o_skip rfl rfl rfl h63 rfl rfl ?_
              refine o_skip rfl rfl rfl h63 rfl rfl ?_
              refine o_pk (.t (.d (.lit (.bool true)))) (b := true) h63 (gy rfl rfl rfl rfl) rfl rfl rfl rfl rfl ?_
              refine o_pk (.t (.d (.lit (.bool true)))) (b := true) rfl (g0 rfl) rfl rfl rfl rfl rfl ?_
              refine o_nil ?_
              repeat (first | refine then_normal ?_ | refine then_exit ?_ | refine then_ret ?_ | refine block_normal ?_ | refine block_ret ?_ | refine block_exit ?_ | refine block_pass rfl ?_)
              refine c_t rfl rfl ?_
              refine c_seq ?_
              refine c_region ?_
              refine o_s (.t (.d (.lit (.bool false)))) (g0 rfl) rfl rfl rfl ?_
              refine o_nil ?_
              repeat (first | refine then_normal ?_ | refine then_exit ?_ | refine then_ret ?_ | refine block_normal ?_ | refine block_ret ?_ | refine block_exit ?_ | refine block_pass rfl ?_)
              refine c_ret ?_
              repeat (first | refine then_normal ?_ | refine then_exit ?_ | refine then_ret ?_ | refine block_normal ?_ | refine block_ret ?_ | refine block_exit ?_ | refine block_pass rfl ?_)
              obtain rfl := Option.some.inj h
              exact end0 rfl (.refl _)
            · refine o_s (.ref 1 4) (gy rfl rfl rfl h63) rfl rfl rfl ?_
              refine o_s (.t (.d (.lit (.string ⟨⟨p0.Other⟩⟩)))) (gy rfl rfl rfl h63) rfl rfl rfl ?_
              refine o_s (.ref 1 1) (gy rfl rfl rfl h63) rfl rfl rfl ?_
              refine o_s (.t (.d (.lit (.string ⟨⟨p0.User⟩⟩)))) (gy rfl rfl rfl h63) rfl rfl rfl ?_
              refine o_c (gy rfl rfl rfl h63) rfl rfl rfl (congrArg (fun z => A.t (.d (.lit (.bool z)))) (str_beqL _ _)) trivial ?_
              refine o_pk (.t (.d (.lit (.bool (p0.Other == p0.User))))) (b := false) h63 (gy rfl rfl rfl rfl) rfl rfl rfl rfl rfl ?_
              refine o_pk (.t (.d (.lit (.bool (p0.Other == p0.User))))) (b := true) rfl (g0 rfl) rfl rfl rfl rfl rfl ?_
              refine o_nil ?_
              repeat (first | refine then_normal ?_ | refine then_exit ?_ | refine then_ret ?_ | refine block_normal ?_ | refine block_ret ?_ | refine block_exit ?_ | refine block_pass rfl ?_)
              rcases bif_some h with ⟨h64, h⟩ | ⟨h64, h⟩
              · refine c_t h64 rfl ?_
                refine c_seq ?_
                refine c_region ?_
                refine o_s (.t (.d (.lit (.bool false)))) (g0 rfl) rfl rfl rfl ?_
                refine o_nil ?_
                repeat (first | refine then_normal ?_ | refine then_exit ?_ | refine then_ret ?_ | refine block_normal ?_ | refine block_ret ?_ | refine block_exit ?_ | refine block_pass rfl ?_)
                refine c_ret ?_
                repeat (first | refine then_normal ?_ | refine then_exit ?_ | refine then_ret ?_ | refine block_normal ?_ | refine block_ret ?_ | refine block_exit ?_ | refine block_pass rfl ?_)
                obtain rfl := Option.some.inj h
                exact end0 rfl (.refl _)
              · refine c_f h64 rfl ?_
                refine c_skip ?_
                repeat (first | refine then_normal ?_ | refine then_exit ?_ | refine then_ret ?_ | refine block_normal ?_ | refine block_ret ?_ | refine block_exit ?_ | refine block_pass rfl ?_)
                exact ⟨(), h, ⟨(.refl _), ⟨(.refl _), trivial⟩⟩, rfl⟩
          · refine o_s (.t (.d (.lit (.int .i64 p0.Kind)))) (gy rfl rfl rfl h60) rfl rfl rfl ?_
            refine o_s (.t (.d (.lit (.bool (p0.Kind == 16))))) (gy rfl rfl rfl h60) rfl rfl rfl ?_
            refine o_pk (.t (.d (.lit (.bool (p0.Kind == 16))))) (b := false) h60 (g0 rfl) rfl rfl rfl rfl rfl ?_
            refine o_s (.t (.d (.lit (.bool (p0.Kind == 16))))) (g0 rfl) rfl rfl rfl ?_
            rcases bif_some h with ⟨h65, h⟩ | ⟨h65, h⟩
            · refine o_s (.ref 1 4) (gy rfl rfl rfl h65) rfl rfl rfl ?_
              refine o_s (.t (.d (.lit (.string ⟨⟨p0.Other⟩⟩)))) (gy rfl rfl rfl h65) rfl rfl rfl ?_
              obtain ⟨x66, h67, h⟩ := bind_some h
              refine o_ca (fc_R25_Name _ _ h67) (gy rfl rfl rfl h65) rfl rfl rfl rfl rfl rfl rfl (.cons (.refl _) .nil) rfl rfl ?_
              refine o_s (.t (.d (.lit (.bool (!x66))))) (gy rfl rfl rfl h65) rfl rfl rfl ?_
              refine o_s (.t (.d (.lit (.bool (!x66))))) (gy rfl rfl rfl h65) rfl rfl rfl ?_
              rcases bif_some h with ⟨h68, h⟩ | ⟨h68, h⟩
              · refine o_skip rfl rfl rfl h68 rfl rfl ?_
                refine o_skip rfl rfl rfl h68 rfl rfl ?_
                refine o_skip rfl rfl rfl h68 rfl rfl ?_
                refine o_skip rfl rfl rfl h68 rfl rfl ?_
                refine o_skip rfl rfl rfl h68 rfl rfl ?_
                refine o_pk (.t (.d (.lit (.bool true)))) (b := true) h68 (gy rfl rfl rfl h65) rfl rfl rfl rfl rfl ?_
                refine o_pk (.t (.d (.lit (.bool true)))) (b := true) h65 (g0 rfl) rfl rfl rfl rfl rfl ?_
                refine o_nil ?_
                repeat (first | refine then_normal ?_ | refine then_exit ?_ | refine then_ret ?_ | refine block_normal ?_ | refine block_ret ?_ | refine block_exit ?_ | refine block_pass rfl ?_)
                refine c_t rfl rfl ?_
                refine c_seq ?_
                refine c_region ?_
                refine o_s (.t (.d (.lit (.bool false)))) (g0 rfl) rfl rfl rfl ?_
                refine o_nil ?_
                repeat (first | refine then_normal ?_ | refine then_exit ?_ | refine then_ret ?_ | refine block_normal ?_ | refine block_ret ?_ | refine block_exit ?_ | refine block_pass rfl ?_)
                refine c_ret ?_
                repeat (first | refine then_normal ?_ | refine then_exit ?_ | refine then_ret ?_ | refine block_normal ?_ | refine block_ret ?_ | refine block_exit ?_ | refine block_pass rfl ?_)
                obtain rfl := Option.some.inj h
                exact end0 rfl (.refl _)
              · refine o_s (.ref 1 4) (gy rfl rfl rfl h68) rfl rfl rfl ?_
                refine o_s (.t (.d (.lit (.string ⟨⟨p0.Other⟩⟩)))) (gy rfl rfl rfl h68) rfl rfl rfl ?_
                refine o_s (.ref 1 1) (gy rfl rfl rfl h68) rfl rfl rfl ?_
                refine o_s (.t (.d (.lit (.string ⟨⟨p0.User⟩⟩)))) (gy rfl rfl rfl h68) rfl rfl rfl ?_
                refine o_c (gy rfl rfl rfl h68) rfl rfl rfl (congrArg (fun z => A.t (.d (.lit (.bool z)))) (str_beqL _ _)) trivial ?_
                refine o_pk (.t (.d (.lit (.bool (p0.Other == p0.User))))) (b := false) h68 (gy rfl rfl rfl h65) rfl rfl rfl rfl rfl ?_
                refine o_pk (.t (.d (.lit (.bool (p0.Other == p0.User))))) (b := true) h65 (g0 rfl) rfl rfl rfl rfl rfl ?_
                refine o_nil ?_
                repeat (first | refine then_normal ?_ | refine then_exit ?_ | refine then_ret ?_ | refine block_normal ?_ | refine block_ret ?_ | refine block_exit ?_ | refine block_pass rfl ?_)
                rcases bif_some h with ⟨h69, h⟩ | ⟨h69, h⟩
                · refine c_t h69 rfl ?_
                  refine c_seq ?_
                  refine c_region ?_
                  refine o_s (.t (.d (.lit (.bool false)))) (g0 rfl) rfl rfl rfl ?_
                  refine o_nil ?_
                  repeat (first | refine then_normal ?_ | refine then_exit ?_ | refine then_ret ?_ | refine block_normal ?_ | refine block_ret ?_ | refine block_exit ?_ | refine block_pass rfl ?_)
                  refine c_ret ?_
                  repeat (first | refine then_normal ?_ | refine then_exit ?_ | refine then_ret ?_ | refine block_normal ?_ | refine block_ret ?_ | refine block_exit ?_ | refine block_pass rfl ?_)
                  obtain rfl := Option.some.inj h
                  exact end0 rfl (.refl _)
                · refine c_f h69 rfl ?_
                  refine c_skip ?_
                  repeat (first | refine then_normal ?_ | refine then_exit ?_ | refine then_ret ?_ | refine block_normal ?_ | refine block_ret ?_ | refine block_exit ?_ | refine block_pass rfl ?_)
                  exact ⟨(), h, ⟨(.refl _), ⟨(.refl _), trivial⟩⟩, rfl⟩
            · refine o_skip rfl rfl rfl h65 rfl rfl ?_
              refine o_skip rfl rfl rfl h65 rfl rfl ?_
              refine o_skip rfl rfl rfl h65 rfl rfl ?_
              refine o_skip rfl rfl rfl h65 rfl rfl ?_
              refine o_skip rfl rfl rfl h65 rfl rfl ?_
              refine o_un rfl rfl rfl rfl rfl ?_
              refine o_un rfl rfl rfl rfl rfl ?_
              refine o_un rfl rfl rfl rfl rfl ?_
              refine o_un rfl rfl rfl rfl rfl ?_
              refine o_un rfl rfl rfl rfl rfl ?_
              refine o_skip rfl rfl rfl h65 rfl rfl ?_
              refine o_pk (.t (.d (.lit (.bool false)))) (b := false) h65 (g0 rfl) rfl rfl rfl rfl rfl ?_
              refine o_nil ?_
              repeat (first | refine then_normal ?_ | refine then_exit ?_ | refine then_ret ?_ | refine block_normal ?_ | refine block_ret ?_ | refine block_exit ?_ | refine block_pass rfl ?_)
              refine c_f rfl rfl ?_
              refine c_skip ?_
              repeat (first | refine then_normal ?_ | refine then_exit ?_ | refine then_ret ?_ | refine block_normal ?_ | refine block_ret ?_ | refine block_exit ?_ | refine block_pass rfl ?_)
              exact ⟨(), h, ⟨(.refl _), ⟨(.refl _), trivial⟩⟩, rfl⟩
        · rintro ⟨⟩ h
          refine c_cut (fun (_ : Unit) => [(1, .box [.d (.lit (.int .i64 p0.Kind)), .d (.lit (.string ⟨⟨p0.User⟩⟩)), .d (.lit (.string ⟨⟨p0.Folder⟩⟩)), .d (.lit (.string ⟨⟨p0.Name⟩⟩)), .d (.lit (.string ⟨⟨p0.Other⟩⟩)), .d (.lit (.int .i64 p0.Role)), .d (.lit (.int .i64 p0.Version)), .d (.seq 1 (bytesD p0.Data))]), (3, .t (.d (.lit (.int .i64 p0.Kind))))]) (fun (_ : Unit) => m_R30_May_j2 p0 = some r) ?_ ?_
          · refine c_cut (fun (y49 : Bool) => [(1, .box [.d (.lit (.int .i64 p0.Kind)), .d (.lit (.string ⟨⟨p0.User⟩⟩)), .d (.lit (.string ⟨⟨p0.Folder⟩⟩)), .d (.lit (.string ⟨⟨p0.Name⟩⟩)), .d (.lit (.string ⟨⟨p0.Other⟩⟩)), .d (.lit (.int .i64 p0.Role)), .d (.lit (.int .i64 p0.Version)), .d (.seq 1 (bytesD p0.Data))]), (3, .t (.d (.lit (.int .i64 p0.Kind)))), (45, .t (.d (.lit (.bool y49))))]) (fun (y49 : Bool) => m_R30_May_j11 p0 y49 = some r) ?_ ?_
            · refine c_region ?_
              refine o_s (.t (.d (.lit (.int .i64 p0.Kind)))) (g0 rfl) rfl rfl rfl ?_
              refine o_s (.t (.d (.lit (.bool (p0.Kind == 1))))) (g0 rfl) rfl rfl rfl ?_
              refine o_s (.t (.d (.lit (.bool (p0.Kind == 1))))) (g0 rfl) rfl rfl rfl ?_
              rcases bif_some h with ⟨h59, h⟩ | ⟨h59, h⟩
              · refine o_skip rfl rfl rfl h59 rfl rfl ?_
                refine o_skip rfl rfl rfl h59 rfl rfl ?_
                refine o_pk (.t (.d (.lit (.bool true)))) (b := true) h59 (g0 rfl) rfl rfl rfl rfl rfl ?_
                refine o_nil ?_
                repeat (first | refine then_normal ?_ | refine then_exit ?_ | refine then_ret ?_ | refine block_normal ?_ | refine block_ret ?_ | refine block_exit ?_ | refine block_pass rfl ?_)
                exact ⟨true, h, ⟨(.refl _), ⟨(.refl _), ⟨(.refl _), trivial⟩⟩⟩, rfl⟩
              · refine o_s (.t (.d (.lit (.int .i64 p0.Kind)))) (gy rfl rfl rfl h59) rfl rfl rfl ?_
                refine o_s (.t (.d (.lit (.bool (decide (p0.Kind ≥ 14)))))) (gy rfl rfl rfl h59) rfl rfl rfl ?_
                refine o_pk (.t (.d (.lit (.bool (decide (p0.Kind ≥ 14)))))) (b := false) h59 (g0 rfl) rfl rfl rfl rfl rfl ?_
                refine o_nil ?_
                repeat (first | refine then_normal ?_ | refine then_exit ?_ | refine then_ret ?_ | refine block_normal ?_ | refine block_ret ?_ | refine block_exit ?_ | refine block_pass rfl ?_)
                exact ⟨(decide (p0.Kind ≥ 14)), h, ⟨(.refl _), ⟨(.refl _), ⟨(.refl _), trivial⟩⟩⟩, rfl⟩
            · rintro y49 h
              rcases bif_some h with ⟨h50, h⟩ | ⟨h50, h⟩
              · refine c_t h50 rfl ?_
                refine c_seq ?_
                refine c_region ?_
                refine o_s (.ref 1 2) (g0 rfl) rfl rfl rfl ?_
                refine o_s (.t (.d (.lit (.string ⟨⟨p0.Folder⟩⟩)))) (g0 rfl) rfl rfl rfl ?_
                refine o_c (g0 rfl) rfl rfl rfl (congrArg (fun z => A.t (.d (.lit (.bool (!z))))) (str_beqL _ _)) trivial ?_
                refine o_s (.t (.d (.lit (.bool (!(p0.Folder == [])))))) (g0 rfl) rfl rfl rfl ?_
                rcases bif_some h with ⟨h51, h⟩ | ⟨h51, h⟩
                · refine o_skip rfl rfl rfl h51 rfl rfl ?_
                  refine o_skip rfl rfl rfl h51 rfl rfl ?_
                  refine o_skip rfl rfl rfl h51 rfl rfl ?_
                  refine o_un rfl rfl rfl rfl rfl ?_
                  refine o_un rfl rfl rfl rfl rfl ?_
                  refine o_skip rfl rfl rfl h51 rfl rfl ?_
                  refine o_skip rfl rfl rfl h51 rfl rfl ?_
                  refine o_un rfl rfl rfl rfl rfl ?_
                  refine o_un rfl rfl rfl rfl rfl ?_
                  refine o_un rfl rfl rfl rfl rfl ?_
                  refine o_skip rfl rfl rfl h51 rfl rfl ?_
                  refine o_pk (.t (.d (.lit (.bool true)))) (b := true) h51 (g0 rfl) rfl rfl rfl rfl rfl ?_
                  refine o_nil ?_
                  repeat (first | refine then_normal ?_ | refine then_exit ?_ | refine then_ret ?_ | refine block_normal ?_ | refine block_ret ?_ | refine block_exit ?_ | refine block_pass rfl ?_)
                  refine c_t rfl rfl ?_
                  refine c_seq ?_
                  refine c_region ?_
                  refine o_s (.t (.d (.lit (.bool false)))) (g0 rfl) rfl rfl rfl ?_
                  refine o_nil ?_
                  repeat (first | refine then_normal ?_ | refine then_exit ?_ | refine then_ret ?_ | refine block_normal ?_ | refine block_ret ?_ | refine block_exit ?_ | refine block_pass rfl ?_)
                  refine c_ret ?_
                  repeat (first | refine then_normal ?_ | refine then_exit ?_ | refine then_ret ?_ | refine block_normal ?_ | refine block_ret ?_ | refine block_exit ?_ | refine block_pass rfl ?_)
                  obtain rfl := Option.some.inj h
                  exact end0 rfl (.refl _)
                · refine o_s (.t (.d (.lit (.int .i64 p0.Kind)))) (gy rfl rfl rfl h51) rfl rfl rfl ?_
                  refine o_s (.t (.d (.lit (.bool (p0.Kind == 1))))) (gy rfl rfl rfl h51) rfl rfl rfl ?_
                  refine o_s (.t (.d (.lit (.bool (p0.Kind == 1))))) (gy rfl rfl rfl h51) rfl rfl rfl ?_
                  rcases bif_some h with ⟨h52, h⟩ | ⟨h52, h⟩
                  · refine o_skip rfl rfl rfl h52 rfl rfl ?_
                    refine o_skip rfl rfl rfl h52 rfl rfl ?_
                    refine o_pk (.t (.d (.lit (.bool true)))) (b := true) h52 (gy rfl rfl rfl h51) rfl rfl rfl rfl rfl ?_
                    refine o_s (.t (.d (.lit (.bool true)))) (gy rfl rfl rfl h51) rfl rfl rfl ?_
                    refine o_s (.ref 1 4) (gy rfl rfl rfl rfl) rfl rfl rfl ?_
                    refine o_s (.t (.d (.lit (.string ⟨⟨p0.Other⟩⟩)))) (gy rfl rfl rfl rfl) rfl rfl rfl ?_
                    refine o_c (gy rfl rfl rfl rfl) rfl rfl rfl (congrArg (fun z => A.t (.d (.lit (.bool (!z))))) (str_beqL _ _)) trivial ?_
                    refine o_pk (.t (.d (.lit (.bool (!(p0.Other == [])))))) (b := true) rfl (gy rfl rfl rfl h51) rfl rfl rfl rfl rfl ?_
                    refine o_pk (.t (.d (.lit (.bool (!(p0.Other == [])))))) (b := false) h51 (g0 rfl) rfl rfl rfl rfl rfl ?_
                    refine o_nil ?_
                    repeat (first | refine then_normal ?_ | refine then_exit ?_ | refine then_ret ?_ | refine block_normal ?_ | refine block_ret ?_ | refine block_exit ?_ | refine block_pass rfl ?_)
                    rcases bif_some h with ⟨h53, h⟩ | ⟨h53, h⟩
                    · refine c_t h53 rfl ?_
                      refine c_seq ?_
                      refine c_region ?_
                      refine o_s (.t (.d (.lit (.bool false)))) (g0 rfl) rfl rfl rfl ?_
                      refine o_nil ?_
                      repeat (first | refine then_normal ?_ | refine then_exit ?_ | refine then_ret ?_ | refine block_normal ?_ | refine block_ret ?_ | refine block_exit ?_ | refine block_pass rfl ?_)
                      refine c_ret ?_
                      repeat (first | refine then_normal ?_ | refine then_exit ?_ | refine then_ret ?_ | refine block_normal ?_ | refine block_ret ?_ | refine block_exit ?_ | refine block_pass rfl ?_)
                      obtain rfl := Option.some.inj h
                      exact end0 rfl (.refl _)
                    · refine c_f h53 rfl ?_
                      refine c_skip ?_
                      repeat (first | refine then_normal ?_ | refine then_exit ?_ | refine then_ret ?_ | refine block_normal ?_ | refine block_ret ?_ | refine block_exit ?_ | refine block_pass rfl ?_)
                      exact ⟨(), h, ⟨(.refl _), ⟨(.refl _), trivial⟩⟩, rfl⟩
                  · refine o_s (.t (.d (.lit (.int .i64 p0.Kind)))) (gy rfl rfl rfl h52) rfl rfl rfl ?_
                    refine o_s (.t (.d (.lit (.bool (p0.Kind == 15))))) (gy rfl rfl rfl h52) rfl rfl rfl ?_
                    refine o_pk (.t (.d (.lit (.bool (p0.Kind == 15))))) (b := false) h52 (gy rfl rfl rfl h51) rfl rfl rfl rfl rfl ?_
                    refine o_s (.t (.d (.lit (.bool (p0.Kind == 15))))) (gy rfl rfl rfl h51) rfl rfl rfl ?_
                    rcases bif_some h with ⟨h54, h⟩ | ⟨h54, h⟩
                    · refine o_s (.ref 1 4) (gy rfl rfl rfl h54) rfl rfl rfl ?_
                      refine o_s (.t (.d (.lit (.string ⟨⟨p0.Other⟩⟩)))) (gy rfl rfl rfl h54) rfl rfl rfl ?_
                      refine o_c (gy rfl rfl rfl h54) rfl rfl rfl (congrArg (fun z => A.t (.d (.lit (.bool (!z))))) (str_beqL _ _)) trivial ?_
                      refine o_pk (.t (.d (.lit (.bool (!(p0.Other == [])))))) (b := true) h54 (gy rfl rfl rfl h51) rfl rfl rfl rfl rfl ?_
                      refine o_pk (.t (.d (.lit (.bool (!(p0.Other == [])))))) (b := false) h51 (g0 rfl) rfl rfl rfl rfl rfl ?_
                      refine o_nil ?_
                      repeat (first | refine then_normal ?_ | refine then_exit ?_ | refine then_ret ?_ | refine block_normal ?_ | refine block_ret ?_ | refine block_exit ?_ | refine block_pass rfl ?_)
                      rcases bif_some h with ⟨h55, h⟩ | ⟨h55, h⟩
                      · refine c_t h55 rfl ?_
                        refine c_seq ?_
                        refine c_region ?_
                        refine o_s (.t (.d (.lit (.bool false)))) (g0 rfl) rfl rfl rfl ?_
                        refine o_nil ?_
                        repeat (first | refine then_normal ?_ | refine then_exit ?_ | refine then_ret ?_ | refine block_normal ?_ | refine block_ret ?_ | refine block_exit ?_ | refine block_pass rfl ?_)
                        refine c_ret ?_
                        repeat (first | refine then_normal ?_ | refine then_exit ?_ | refine then_ret ?_ | refine block_normal ?_ | refine block_ret ?_ | refine block_exit ?_ | refine block_pass rfl ?_)
                        obtain rfl := Option.some.inj h
                        exact end0 rfl (.refl _)
                      · refine c_f h55 rfl ?_
                        refine c_skip ?_
                        repeat (first | refine then_normal ?_ | refine then_exit ?_ | refine then_ret ?_ | refine block_normal ?_ | refine block_ret ?_ | refine block_exit ?_ | refine block_pass rfl ?_)
                        exact ⟨(), h, ⟨(.refl _), ⟨(.refl _), trivial⟩⟩, rfl⟩
                    · refine o_skip rfl rfl rfl h54 rfl rfl ?_
                      refine o_skip rfl rfl rfl h54 rfl rfl ?_
                      refine o_skip rfl rfl rfl h54 rfl rfl ?_
                      refine o_pk (.t (.d (.lit (.bool false)))) (b := false) h54 (gy rfl rfl rfl h51) rfl rfl rfl rfl rfl ?_
                      refine o_pk (.t (.d (.lit (.bool false)))) (b := false) h51 (g0 rfl) rfl rfl rfl rfl rfl ?_
                      refine o_nil ?_
                      repeat (first | refine then_normal ?_ | refine then_exit ?_ | refine then_ret ?_ | refine block_normal ?_ | refine block_ret ?_ | refine block_exit ?_ | refine block_pass rfl ?_)
                      refine c_f rfl rfl ?_
                      refine c_skip ?_
                      repeat (first | refine then_normal ?_ | refine then_exit ?_ | refine then_ret ?_ | refine block_normal ?_ | refine block_ret ?_ | refine block_exit ?_ | refine block_pass rfl ?_)
                      exact ⟨(), h, ⟨(.refl _), ⟨(.refl _), trivial⟩⟩, rfl⟩
              · refine c_f h50 rfl ?_
                refine c_seq ?_
                refine c_region ?_
                refine o_s (.ref 1 2) (g0 rfl) rfl rfl rfl ?_
                refine o_s (.t (.d (.lit (.string ⟨⟨p0.Folder⟩⟩)))) (g0 rfl) rfl rfl rfl ?_
                obtain ⟨x56, h57, h⟩ := bind_some h
                refine o_ca (fc_R25_Name _ _ h57) (g0 rfl) rfl rfl rfl rfl rfl rfl rfl (.cons (.refl _) .nil) rfl rfl ?_
                refine o_s (.t (.d (.lit (.bool (!x56))))) (g0 rfl) rfl rfl rfl ?_
                refine o_nil ?_
                repeat (first | refine then_normal ?_ | refine then_exit ?_ | refine then_ret ?_ | refine block_normal ?_ | refine block_ret ?_ | refine block_exit ?_ | refine block_pass rfl ?_)
                rcases bif_some h with ⟨h58, h⟩ | ⟨h58, h⟩
                · refine c_t h58 rfl ?_
                  refine c_seq ?_
                  refine c_region ?_
                  refine o_s (.t (.d (.lit (.bool false)))) (g0 rfl) rfl rfl rfl ?_
                  refine o_nil ?_
                  repeat (first | refine then_normal ?_ | refine then_exit ?_ | refine then_ret ?_ | refine block_normal ?_ | refine block_ret ?_ | refine block_exit ?_ | refine block_pass rfl ?_)
                  refine c_ret ?_
                  repeat (first | refine then_normal ?_ | refine then_exit ?_ | refine then_ret ?_ | refine block_normal ?_ | refine block_ret ?_ | refine block_exit ?_ | refine block_pass rfl ?_)
                  obtain rfl := Option.some.inj h
                  exact end0 rfl (.refl _)
                · refine c_f h58 rfl ?_
                  refine c_skip ?_
                  repeat (first | refine then_normal ?_ | refine then_exit ?_ | refine then_ret ?_ | refine block_normal ?_ | refine block_ret ?_ | refine block_exit ?_ | refine block_pass rfl ?_)
                  exact ⟨(), h, ⟨(.refl _), ⟨(.refl _), trivial⟩⟩, rfl⟩
          · rintro ⟨⟩ h
            refine c_cut (fun (_ : Unit) => [(1, .box [.d (.lit (.int .i64 p0.Kind)), .d (.lit (.string ⟨⟨p0.User⟩⟩)), .d (.lit (.string ⟨⟨p0.Folder⟩⟩)), .d (.lit (.string ⟨⟨p0.Name⟩⟩)), .d (.lit (.string ⟨⟨p0.Other⟩⟩)), .d (.lit (.int .i64 p0.Role)), .d (.lit (.int .i64 p0.Version)), .d (.seq 1 (bytesD p0.Data))]), (3, .t (.d (.lit (.int .i64 p0.Kind))))]) (fun (_ : Unit) => m_R30_May_j3 p0 = some r) ?_ ?_
            · refine c_cut (fun (y30 : Bool) => [(1, .box [.d (.lit (.int .i64 p0.Kind)), .d (.lit (.string ⟨⟨p0.User⟩⟩)), .d (.lit (.string ⟨⟨p0.Folder⟩⟩)), .d (.lit (.string ⟨⟨p0.Name⟩⟩)), .d (.lit (.string ⟨⟨p0.Other⟩⟩)), .d (.lit (.int .i64 p0.Role)), .d (.lit (.int .i64 p0.Version)), .d (.seq 1 (bytesD p0.Data))]), (3, .t (.d (.lit (.int .i64 p0.Kind)))), (71, .t (.d (.lit (.bool y30))))]) (fun (y30 : Bool) => m_R30_May_j9 p0 y30 = some r) ?_ ?_
              · refine c_region ?_
                refine o_s (.t (.d (.lit (.int .i64 p0.Kind)))) (g0 rfl) rfl rfl rfl ?_
                refine o_s (.t (.d (.lit (.bool (p0.Kind == 2))))) (g0 rfl) rfl rfl rfl ?_
                refine o_s (.t (.d (.lit (.bool (p0.Kind == 2))))) (g0 rfl) rfl rfl rfl ?_
                rcases bif_some h with ⟨h48, h⟩ | ⟨h48, h⟩
                · refine o_skip rfl rfl rfl h48 rfl rfl ?_
                  refine o_skip rfl rfl rfl h48 rfl rfl ?_
                  refine o_pk (.t (.d (.lit (.bool true)))) (b := true) h48 (g0 rfl) rfl rfl rfl rfl rfl ?_
                  refine o_nil ?_
                  repeat (first | refine then_normal ?_ | refine then_exit ?_ | refine then_ret ?_ | refine block_normal ?_ | refine block_ret ?_ | refine block_exit ?_ | refine block_pass rfl ?_)
                  exact ⟨true, h, ⟨(.refl _), ⟨(.refl _), ⟨(.refl _), trivial⟩⟩⟩, rfl⟩
                · refine o_s (.t (.d (.lit (.int .i64 p0.Kind)))) (gy rfl rfl rfl h48) rfl rfl rfl ?_
                  refine o_s (.t (.d (.lit (.bool (p0.Kind == 3))))) (gy rfl rfl rfl h48) rfl rfl rfl ?_
                  refine o_pk (.t (.d (.lit (.bool (p0.Kind == 3))))) (b := false) h48 (g0 rfl) rfl rfl rfl rfl rfl ?_
                  refine o_nil ?_
                  repeat (first | refine then_normal ?_ | refine then_exit ?_ | refine then_ret ?_ | refine block_normal ?_ | refine block_ret ?_ | refine block_exit ?_ | refine block_pass rfl ?_)
                  exact ⟨(p0.Kind == 3), h, ⟨(.refl _), ⟨(.refl _), ⟨(.refl _), trivial⟩⟩⟩, rfl⟩
              · rintro y30 h
                rcases bif_some h with ⟨h31, h⟩ | ⟨h31, h⟩
                · refine c_t h31 rfl ?_
                  refine c_seq ?_
                  refine c_region ?_
                  refine o_s (.ref 1 4) (g0 rfl) rfl rfl rfl ?_
                  refine o_s (.t (.d (.lit (.string ⟨⟨p0.Other⟩⟩)))) (g0 rfl) rfl rfl rfl ?_
                  refine o_c (g0 rfl) rfl rfl rfl (congrArg (fun z => A.t (.d (.lit (.bool (!z))))) (str_beqL _ _)) trivial ?_
                  refine o_s (.t (.d (.lit (.bool (!(p0.Other == [])))))) (g0 rfl) rfl rfl rfl ?_
                  rcases bif_some h with ⟨h32, h⟩ | ⟨h32, h⟩
                  · refine o_s (.ref 1 4) (gy rfl rfl rfl h32) rfl rfl rfl ?_
                    refine o_s (.t (.d (.lit (.string ⟨⟨p0.Other⟩⟩)))) (gy rfl rfl rfl h32) rfl rfl rfl ?_
                    obtain ⟨x33, h34, h⟩ := bind_some h
                    refine o_ca (fc_R25_Name _ _ h34) (gy rfl rfl rfl h32) rfl rfl rfl rfl rfl rfl rfl (.cons (.refl _) .nil) rfl rfl ?_
                    refine o_s (.t (.d (.lit (.bool (!x33))))) (gy rfl rfl rfl h32) rfl rfl rfl ?_
                    refine o_pk (.t (.d (.lit (.bool (!x33))))) (b := true) h32 (g0 rfl) rfl rfl rfl rfl rfl ?_
                    refine o_s (.t (.d (.lit (.bool (!x33))))) (g0 rfl) rfl rfl rfl ?_
                    rcases bif_some h with ⟨h35, h⟩ | ⟨h35, h⟩
                    · refine o_skip rfl rfl rfl h35 rfl rfl ?_
                      refine o_skip rfl rfl rfl h35 rfl rfl ?_
                      refine o_skip rfl rfl rfl h35 rfl rfl ?_
                      refine o_un rfl rfl rfl rfl rfl ?_
                      refine o_un rfl rfl rfl rfl rfl ?_
                      refine o_un rfl rfl rfl rfl rfl ?_
                      refine o_un rfl rfl rfl rfl rfl ?_
                      refine o_un rfl rfl rfl rfl rfl ?_
                      refine o_skip rfl rfl rfl h35 rfl rfl ?_
                      refine o_pk (.t (.d (.lit (.bool true)))) (b := true) h35 (g0 rfl) rfl rfl rfl rfl rfl ?_
                      refine o_nil ?_
                      repeat (first | refine then_normal ?_ | refine then_exit ?_ | refine then_ret ?_ | refine block_normal ?_ | refine block_ret ?_ | refine block_exit ?_ | refine block_pass rfl ?_)
                      refine c_t rfl rfl ?_
                      refine c_seq ?_
                      refine c_region ?_
                      refine o_s (.t (.d (.lit (.bool false)))) (g0 rfl) rfl rfl rfl ?_
                      refine o_nil ?_
                      repeat (first | refine then_normal ?_ | refine then_exit ?_ | refine then_ret ?_ | refine block_normal ?_ | refine block_ret ?_ | refine block_exit ?_ | refine block_pass rfl ?_)
                      refine c_ret ?_
                      repeat (first | refine then_normal ?_ | refine then_exit ?_ | refine then_ret ?_ | refine block_normal ?_ | refine block_ret ?_ | refine block_exit ?_ | refine block_pass rfl ?_)
                      obtain rfl := Option.some.inj h
                      exact end0 rfl (.refl _)
                    · refine o_s (.t (.d (.lit (.int .i64 p0.Kind)))) (gy rfl rfl rfl h35) rfl rfl rfl ?_
                      refine o_s (.t (.d (.lit (.bool (p0.Kind == 2))))) (gy rfl rfl rfl h35) rfl rfl rfl ?_
                      refine o_s (.t (.d (.lit (.bool (p0.Kind == 2))))) (gy rfl rfl rfl h35) rfl rfl rfl ?_
                      rcases bif_some h with ⟨h36, h⟩ | ⟨h36, h⟩
                      · refine o_s (.ref 1 4) (gy rfl rfl rfl h36) rfl rfl rfl ?_
                        refine o_s (.t (.d (.lit (.string ⟨⟨p0.Other⟩⟩)))) (gy rfl rfl rfl h36) rfl rfl rfl ?_
                        refine o_s (.ref 1 2) (gy rfl rfl rfl h36) rfl rfl rfl ?_
                        refine o_s (.t (.d (.lit (.string ⟨⟨p0.Folder⟩⟩)))) (gy rfl rfl rfl h36) rfl rfl rfl ?_
                        refine o_c (gy rfl rfl rfl h36) rfl rfl rfl (congrArg (fun z => A.t (.d (.lit (.bool z)))) (str_beqL _ _)) trivial ?_
                        refine o_pk (.t (.d (.lit (.bool (p0.Other == p0.Folder))))) (b := true) h36 (gy rfl rfl rfl h35) rfl rfl rfl rfl rfl ?_
                        refine o_pk (.t (.d (.lit (.bool (p0.Other == p0.Folder))))) (b := false) h35 (g0 rfl) rfl rfl rfl rfl rfl ?_
                        refine o_nil ?_
                        repeat (first | refine then_normal ?_ | refine then_exit ?_ | refine then_ret ?_ | refine block_normal ?_ | refine block_ret ?_ | refine block_exit ?_ | refine block_pass rfl ?_)
                        rcases bif_some h with ⟨h37, h⟩ | ⟨h37, h⟩
                        · refine c_t h37 rfl ?_
                          refine c_seq ?_
                          refine c_region ?_
                          refine o_s (.t (.d (.lit (.bool false)))) (g0 rfl) rfl rfl rfl ?_
                          refine o_nil ?_
                          repeat (first | refine then_normal ?_ | refine then_exit ?_ | refine then_ret ?_ | refine block_normal ?_ | refine block_ret ?_ | refine block_exit ?_ | refine block_pass rfl ?_)
                          refine c_ret ?_
                          repeat (first | refine then_normal ?_ | refine then_exit ?_ | refine then_ret ?_ | refine block_normal ?_ | refine block_ret ?_ | refine block_exit ?_ | refine block_pass rfl ?_)
                          obtain rfl := Option.some.inj h
                          exact end0 rfl (.refl _)
                        · refine c_f h37 rfl ?_
                          refine c_skip ?_
                          repeat (first | refine then_normal ?_ | refine then_exit ?_ | refine then_ret ?_ | refine block_normal ?_ | refine block_ret ?_ | refine block_exit ?_ | refine block_pass rfl ?_)
                          exact ⟨(), h, ⟨(.refl _), ⟨(.refl _), trivial⟩⟩, rfl⟩
                      · refine o_skip rfl rfl rfl h36 rfl rfl ?_
                        refine o_skip rfl rfl rfl h36 rfl rfl ?_
                        refine o_skip rfl rfl rfl h36 rfl rfl ?_
                        refine o_skip rfl rfl rfl h36 rfl rfl ?_
                        refine o_skip rfl rfl rfl h36 rfl rfl ?_
                        refine o_pk (.t (.d (.lit (.bool false)))) (b := false) h36 (gy rfl rfl rfl h35) rfl rfl rfl rfl rfl ?_
                        refine o_pk (.t (.d (.lit (.bool false)))) (b := false) h35 (g0 rfl) rfl rfl rfl rfl rfl ?_
                        refine o_nil ?_
                        repeat (first | refine then_normal ?_ | refine then_exit ?_ | refine then_ret ?_ | refine block_normal ?_ | refine block_ret ?_ | refine block_exit ?_ | refine block_pass rfl ?_)
                        refine c_f rfl rfl ?_
                        refine c_skip ?_
                        repeat (first | refine then_normal ?_ | refine then_exit ?_ | refine then_ret ?_ | refine block_normal ?_ | refine block_ret ?_ | refine block_exit ?_ | refine block_pass rfl ?_)
                        exact ⟨(), h, ⟨(.refl _), ⟨(.refl _), trivial⟩⟩, rfl⟩
                  · refine o_skip rfl rfl rfl h32 rfl rfl ?_
                    refine o_skip rfl rfl rfl h32 rfl rfl ?_
                    refine o_skip rfl rfl rfl h32 rfl rfl ?_
                    refine o_skip rfl rfl rfl h32 rfl rfl ?_
                    refine o_pk (.t (.d (.lit (.bool false)))) (b := false) h32 (g0 rfl) rfl rfl rfl rfl rfl ?_
                    refine o_s (.t (.d (.lit (.bool false)))) (g0 rfl) rfl rfl rfl ?_
                    refine o_s (.t (.d (.lit (.int .i64 p0.Kind)))) (gy rfl rfl rfl rfl) rfl rfl rfl ?_
                    refine o_s (.t (.d (.lit (.bool (p0.Kind == 2))))) (gy rfl rfl rfl rfl) rfl rfl rfl ?_
                    refine o_s (.t (.d (.lit (.bool (p0.Kind == 2))))) (gy rfl rfl rfl rfl) rfl rfl rfl ?_
                    rcases bif_some h with ⟨h38, h⟩ | ⟨h38, h⟩
                    · refine o_s (.ref 1 4) (gy rfl rfl rfl h38) rfl rfl rfl ?_
                      refine o_s (.t (.d (.lit (.string ⟨⟨p0.Other⟩⟩)))) (gy rfl rfl rfl h38) rfl rfl rfl ?_
                      refine o_s (.ref 1 2) (gy rfl rfl rfl h38) rfl rfl rfl ?_
                      refine o_s (.t (.d (.lit (.string ⟨⟨p0.Folder⟩⟩)))) (gy rfl rfl rfl h38) rfl rfl rfl ?_
                      refine o_c (gy rfl rfl rfl h38) rfl rfl rfl (congrArg (fun z => A.t (.d (.lit (.bool z)))) (str_beqL _ _)) trivial ?_
                      refine o_pk (.t (.d (.lit (.bool (p0.Other == p0.Folder))))) (b := true) h38 (gy rfl rfl rfl rfl) rfl rfl rfl rfl rfl ?_
                      refine o_pk (.t (.d (.lit (.bool (p0.Other == p0.Folder))))) (b := false) rfl (g0 rfl) rfl rfl rfl rfl rfl ?_
                      refine o_nil ?_
                      repeat (first | refine then_normal ?_ | refine then_exit ?_ | refine then_ret ?_ | refine block_normal ?_ | refine block_ret ?_ | refine block_exit ?_ | refine block_pass rfl ?_)
                      rcases bif_some h with ⟨h39, h⟩ | ⟨h39, h⟩
                      · refine c_t h39 rfl ?_
                        refine c_seq ?_
                        refine c_region ?_
                        refine o_s (.t (.d (.lit (.bool false)))) (g0 rfl) rfl rfl rfl ?_
                        refine o_nil ?_
                        repeat (first | refine then_normal ?_ | refine then_exit ?_ | refine then_ret ?_ | refine block_normal ?_ | refine block_ret ?_ | refine block_exit ?_ | refine block_pass rfl ?_)
                        refine c_ret ?_
                        repeat (first | refine then_normal ?_ | refine then_exit ?_ | refine then_ret ?_ | refine block_normal ?_ | refine block_ret ?_ | refine block_exit ?_ | refine block_pass rfl ?_)
                        obtain rfl := Option.some.inj h
                        exact end0 rfl (.refl _)
                      · refine c_f h39 rfl ?_
                        refine c_skip ?_
                        repeat (first | refine then_normal ?_ | refine then_exit ?_ | refine then_ret ?_ | refine block_normal ?_ | refine block_ret ?_ | refine block_exit ?_ | refine block_pass rfl ?_)
                        exact ⟨(), h, ⟨(.refl _), ⟨(.refl _), trivial⟩⟩, rfl⟩
                    · refine o_skip rfl rfl rfl h38 rfl rfl ?_
                      refine o_skip rfl rfl rfl h38 rfl rfl ?_
                      refine o_skip rfl rfl rfl h38 rfl rfl ?_
                      refine o_skip rfl rfl rfl h38 rfl rfl ?_
                      refine o_skip rfl rfl rfl h38 rfl rfl ?_
                      refine o_pk (.t (.d (.lit (.bool false)))) (b := false) h38 (gy rfl rfl rfl rfl) rfl rfl rfl rfl rfl ?_
                      refine o_pk (.t (.d (.lit (.bool false)))) (b := false) rfl (g0 rfl) rfl rfl rfl rfl rfl ?_
                      refine o_nil ?_
                      repeat (first | refine then_normal ?_ | refine then_exit ?_ | refine then_ret ?_ | refine block_normal ?_ | refine block_ret ?_ | refine block_exit ?_ | refine block_pass rfl ?_)
                      refine c_f rfl rfl ?_
                      refine c_skip ?_
                      repeat (first | refine then_normal ?_ | refine then_exit ?_ | refine then_ret ?_ | refine block_normal ?_ | refine block_ret ?_ | refine block_exit ?_ | refine block_pass rfl ?_)
                      exact ⟨(), h, ⟨(.refl _), ⟨(.refl _), trivial⟩⟩, rfl⟩
                · refine c_f h31 rfl ?_
                  refine c_cut (fun (y40 : Bool) => [(1, .box [.d (.lit (.int .i64 p0.Kind)), .d (.lit (.string ⟨⟨p0.User⟩⟩)), .d (.lit (.string ⟨⟨p0.Folder⟩⟩)), .d (.lit (.string ⟨⟨p0.Name⟩⟩)), .d (.lit (.string ⟨⟨p0.Other⟩⟩)), .d (.lit (.int .i64 p0.Role)), .d (.lit (.int .i64 p0.Version)), .d (.seq 1 (bytesD p0.Data))]), (3, .t (.d (.lit (.int .i64 p0.Kind)))), (97, .t (.d (.lit (.bool y40))))]) (fun (y40 : Bool) => m_R30_May_j10 p0 y40 = some r) ?_ ?_
                  · refine c_region ?_
                    refine o_s (.t (.d (.lit (.int .i64 p0.Kind)))) (g0 rfl) rfl rfl rfl ?_
                    refine o_s (.t (.d (.lit (.bool (decide (p0.Kind ≥ 5)))))) (g0 rfl) rfl rfl rfl ?_
                    refine o_s (.t (.d (.lit (.bool (decide (p0.Kind ≥ 5)))))) (g0 rfl) rfl rfl rfl ?_
                    rcases bif_some h with ⟨h47, h⟩ | ⟨h47, h⟩
                    · refine o_s (.t (.d (.lit (.int .i64 p0.Kind)))) (gy rfl rfl rfl h47) rfl rfl rfl ?_
                      refine o_s (.t (.d (.lit (.bool (decide (p0.Kind ≤ 7)))))) (gy rfl rfl rfl h47) rfl rfl rfl ?_
                      refine o_pk (.t (.d (.lit (.bool (decide (p0.Kind ≤ 7)))))) (b := true) h47 (g0 rfl) rfl rfl rfl rfl rfl ?_
                      refine o_nil ?_
                      repeat (first | refine then_normal ?_ | refine then_exit ?_ | refine then_ret ?_ | refine block_normal ?_ | refine block_ret ?_ | refine block_exit ?_ | refine block_pass rfl ?_)
                      exact ⟨(decide (p0.Kind ≤ 7)), h, ⟨(.refl _), ⟨(.refl _), ⟨(.refl _), trivial⟩⟩⟩, rfl⟩
                    · refine o_skip rfl rfl rfl h47 rfl rfl ?_
                      refine o_skip rfl rfl rfl h47 rfl rfl ?_
                      refine o_pk (.t (.d (.lit (.bool false)))) (b := false) h47 (g0 rfl) rfl rfl rfl rfl rfl ?_
                      refine o_nil ?_
                      repeat (first | refine then_normal ?_ | refine then_exit ?_ | refine then_ret ?_ | refine block_normal ?_ | refine block_ret ?_ | refine block_exit ?_ | refine block_pass rfl ?_)
                      exact ⟨false, h, ⟨(.refl _), ⟨(.refl _), ⟨(.refl _), trivial⟩⟩⟩, rfl⟩
                  · rintro y40 h
                    rcases bif_some h with ⟨h41, h⟩ | ⟨h41, h⟩
                    · refine c_t h41 rfl ?_
                      refine c_seq ?_
                      refine c_region ?_
                      refine o_s (.ref 1 4) (g0 rfl) rfl rfl rfl ?_
                      refine o_s (.t (.d (.lit (.string ⟨⟨p0.Other⟩⟩)))) (g0 rfl) rfl rfl rfl ?_
                      obtain ⟨x42, h43, h⟩ := bind_some h
                      refine o_ca (fc_R25_Name _ _ h43) (g0 rfl) rfl rfl rfl rfl rfl rfl rfl (.cons (.refl _) .nil) rfl rfl ?_
                      refine o_s (.t (.d (.lit (.bool (!x42))))) (g0 rfl) rfl rfl rfl ?_
                      refine o_nil ?_
                      repeat (first | refine then_normal ?_ | refine then_exit ?_ | refine then_ret ?_ | refine block_normal ?_ | refine block_ret ?_ | refine block_exit ?_ | refine block_pass rfl ?_)
                      rcases bif_some h with ⟨h44, h⟩ | ⟨h44, h⟩
                      · refine c_t h44 rfl ?_
                        refine c_seq ?_
                        refine c_region ?_
                        refine o_s (.t (.d (.lit (.bool false)))) (g0 rfl) rfl rfl rfl ?_
                        refine o_nil ?_
                        repeat (first | refine then_normal ?_ | refine then_exit ?_ | refine then_ret ?_ | refine block_normal ?_ | refine block_ret ?_ | refine block_exit ?_ | refine block_pass rfl ?_)
                        refine c_ret ?_
                        repeat (first | refine then_normal ?_ | refine then_exit ?_ | refine then_ret ?_ | refine block_normal ?_ | refine block_ret ?_ | refine block_exit ?_ | refine block_pass rfl ?_)
                        obtain rfl := Option.some.inj h
                        exact end0 rfl (.refl _)
                      · refine c_f h44 rfl ?_
                        refine c_skip ?_
                        repeat (first | refine then_normal ?_ | refine then_exit ?_ | refine then_ret ?_ | refine block_normal ?_ | refine block_ret ?_ | refine block_exit ?_ | refine block_pass rfl ?_)
                        exact ⟨(), h, ⟨(.refl _), ⟨(.refl _), trivial⟩⟩, rfl⟩
                    · refine c_f h41 rfl ?_
                      refine c_seq ?_
                      refine c_region ?_
                      refine o_s (.t (.d (.lit (.int .i64 p0.Kind)))) (g0 rfl) rfl rfl rfl ?_
                      refine o_s (.t (.d (.lit (.bool (decide (p0.Kind < 14)))))) (g0 rfl) rfl rfl rfl ?_
                      refine o_s (.t (.d (.lit (.bool (decide (p0.Kind < 14)))))) (g0 rfl) rfl rfl rfl ?_
                      rcases bif_some h with ⟨h45, h⟩ | ⟨h45, h⟩
                      · refine o_s (.ref 1 4) (gy rfl rfl rfl h45) rfl rfl rfl ?_
                        refine o_s (.t (.d (.lit (.string ⟨⟨p0.Other⟩⟩)))) (gy rfl rfl rfl h45) rfl rfl rfl ?_
                        refine o_c (gy rfl rfl rfl h45) rfl rfl rfl (congrArg (fun z => A.t (.d (.lit (.bool (!z))))) (str_beqL _ _)) trivial ?_
                        refine o_pk (.t (.d (.lit (.bool (!(p0.Other == [])))))) (b := true) h45 (g0 rfl) rfl rfl rfl rfl rfl ?_
                        refine o_nil ?_
                        repeat (first | refine then_normal ?_ | refine then_exit ?_ | refine then_ret ?_ | refine block_normal ?_ | refine block_ret ?_ | refine block_exit ?_ | refine block_pass rfl ?_)
                        rcases bif_some h with ⟨h46, h⟩ | ⟨h46, h⟩
                        · refine c_t h46 rfl ?_
                          refine c_seq ?_
                          refine c_region ?_
                          refine o_s (.t (.d (.lit (.bool false)))) (g0 rfl) rfl rfl rfl ?_
                          refine o_nil ?_
                          repeat (first | refine then_normal ?_ | refine then_exit ?_ | refine then_ret ?_ | refine block_normal ?_ | refine block_ret ?_ | refine block_exit ?_ | refine block_pass rfl ?_)
                          refine c_ret ?_
                          repeat (first | refine then_normal ?_ | refine then_exit ?_ | refine then_ret ?_ | refine block_normal ?_ | refine block_ret ?_ | refine block_exit ?_ | refine block_pass rfl ?_)
                          obtain rfl := Option.some.inj h
                          exact end0 rfl (.refl _)
                        · refine c_f h46 rfl ?_
                          refine c_skip ?_
                          repeat (first | refine then_normal ?_ | refine then_exit ?_ | refine then_ret ?_ | refine block_normal ?_ | refine block_ret ?_ | refine block_exit ?_ | refine block_pass rfl ?_)
                          exact ⟨(), h, ⟨(.refl _), ⟨(.refl _), trivial⟩⟩, rfl⟩
                      · refine o_skip rfl rfl rfl h45 rfl rfl ?_
                        refine o_skip rfl rfl rfl h45 rfl rfl ?_
                        refine o_skip rfl rfl rfl h45 rfl rfl ?_
                        refine o_pk (.t (.d (.lit (.bool false)))) (b := false) h45 (g0 rfl) rfl rfl rfl rfl rfl ?_
                        refine o_nil ?_
                        repeat (first | refine then_normal ?_ | refine then_exit ?_ | refine then_ret ?_ | refine block_normal ?_ | refine block_ret ?_ | refine block_exit ?_ | refine block_pass rfl ?_)
                        refine c_f rfl rfl ?_
                        refine c_skip ?_
                        repeat (first | refine then_normal ?_ | refine then_exit ?_ | refine then_ret ?_ | refine block_normal ?_ | refine block_ret ?_ | refine block_exit ?_ | refine block_pass rfl ?_)
                        exact ⟨(), h, ⟨(.refl _), ⟨(.refl _), trivial⟩⟩, rfl⟩
            · rintro ⟨⟩ h
              refine c_cut (fun (y6 : Bool) => [(1, .box [.d (.lit (.int .i64 p0.Kind)), .d (.lit (.string ⟨⟨p0.User⟩⟩)), .d (.lit (.string ⟨⟨p0.Folder⟩⟩)), .d (.lit (.string ⟨⟨p0.Name⟩⟩)), .d (.lit (.string ⟨⟨p0.Other⟩⟩)), .d (.lit (.int .i64 p0.Role)), .d (.lit (.int .i64 p0.Version)), .d (.seq 1 (bytesD p0.Data))]), (3, .t (.d (.lit (.int .i64 p0.Kind)))), (4, .t (.d (.lit (.bool y6))))]) (fun (y6 : Bool) => m_R30_May_j4 p0 y6 = some r) ?_ ?_
              · refine c_region ?_
                refine o_s (.t (.d (.lit (.int .i64 p0.Kind)))) (g0 rfl) rfl rfl rfl ?_
                refine o_s (.t (.d (.lit (.bool (p0.Kind == 8))))) (g0 rfl) rfl rfl rfl ?_
                refine o_s (.t (.d (.lit (.bool (p0.Kind == 8))))) (g0 rfl) rfl rfl rfl ?_
                rcases bif_some h with ⟨h27, h⟩ | ⟨h27, h⟩
                · refine o_skip rfl rfl rfl h27 rfl rfl ?_
                  refine o_skip rfl rfl rfl h27 rfl rfl ?_
                  refine o_pk (.t (.d (.lit (.bool true)))) (b := true) h27 (g0 rfl) rfl rfl rfl rfl rfl ?_
                  refine o_s (.t (.d (.lit (.bool true)))) (g0 rfl) rfl rfl rfl ?_
                  refine o_skip rfl rfl rfl rfl rfl rfl ?_
                  refine o_skip rfl rfl rfl rfl rfl rfl ?_
                  refine o_pk (.t (.d (.lit (.bool true)))) (b := true) rfl (g0 rfl) rfl rfl rfl rfl rfl ?_
                  refine o_s (.t (.d (.lit (.bool true)))) (g0 rfl) rfl rfl rfl ?_
                  refine o_skip rfl rfl rfl rfl rfl rfl ?_
                  refine o_skip rfl rfl rfl rfl rfl rfl ?_
                  refine o_pk (.t (.d (.lit (.bool true)))) (b := true) rfl (g0 rfl) rfl rfl rfl rfl rfl ?_
                  refine o_s (.t (.d (.lit (.bool true)))) (g0 rfl) rfl rfl rfl ?_
                  refine o_nil ?_
                  repeat (first | refine then_normal ?_ | refine then_exit ?_ | refine then_ret ?_ | refine block_normal ?_ | refine block_ret ?_ | refine block_exit ?_ | refine block_pass rfl ?_)
                  exact ⟨true, h, ⟨(.refl _), ⟨(.refl _), ⟨(.refl _), trivial⟩⟩⟩, rfl⟩
                · refine o_s (.t (.d (.lit (.int .i64 p0.Kind)))) (gy rfl rfl rfl h27) rfl rfl rfl ?_
                  refine o_s (.t (.d (.lit (.bool (p0.Kind == 9))))) (gy rfl rfl rfl h27) rfl rfl rfl ?_
                  refine o_pk (.t (.d (.lit (.bool (p0.Kind == 9))))) (b := false) h27 (g0 rfl) rfl rfl rfl rfl rfl ?_
                  refine o_s (.t (.d (.lit (.bool (p0.Kind == 9))))) (g0 rfl) rfl rfl rfl ?_
                  rcases bif_some h with ⟨h28, h⟩ | ⟨h28, h⟩
                  · refine o_skip rfl rfl rfl h28 rfl rfl ?_
                    refine o_skip rfl rfl rfl h28 rfl rfl ?_
                    refine o_pk (.t (.d (.lit (.bool true)))) (b := true) h28 (g0 rfl) rfl rfl rfl rfl rfl ?_
                    refine o_s (.t (.d (.lit (.bool true)))) (g0 rfl) rfl rfl rfl ?_
                    refine o_skip rfl rfl rfl rfl rfl rfl ?_
                    refine o_skip rfl rfl rfl rfl rfl rfl ?_
                    refine o_pk (.t (.d (.lit (.bool true)))) (b := true) rfl (g0 rfl) rfl rfl rfl rfl rfl ?_
                    refine o_s (.t (.d (.lit (.bool true)))) (g0 rfl) rfl rfl rfl ?_
                    refine o_nil ?_
                    repeat (first | refine then_normal ?_ | refine then_exit ?_ | refine then_ret ?_ | refine block_normal ?_ | refine block_ret ?_ | refine block_exit ?_ | refine block_pass rfl ?_)
                    exact ⟨true, h, ⟨(.refl _), ⟨(.refl _), ⟨(.refl _), trivial⟩⟩⟩, rfl⟩
                  · refine o_s (.t (.d (.lit (.int .i64 p0.Kind)))) (gy rfl rfl rfl h28) rfl rfl rfl ?_
                    refine o_s (.t (.d (.lit (.bool (p0.Kind == 11))))) (gy rfl rfl rfl h28) rfl rfl rfl ?_
                    refine o_pk (.t (.d (.lit (.bool (p0.Kind == 11))))) (b := false) h28 (g0 rfl) rfl rfl rfl rfl rfl ?_
                    refine o_s (.t (.d (.lit (.bool (p0.Kind == 11))))) (g0 rfl) rfl rfl rfl ?_
                    rcases bif_some h with ⟨h29, h⟩ | ⟨h29, h⟩
                    · refine o_skip rfl rfl rfl h29 rfl rfl ?_
                      refine o_skip rfl rfl rfl h29 rfl rfl ?_
                      refine o_pk (.t (.d (.lit (.bool true)))) (b := true) h29 (g0 rfl) rfl rfl rfl rfl rfl ?_
                      refine o_s (.t (.d (.lit (.bool true)))) (g0 rfl) rfl rfl rfl ?_
                      refine o_nil ?_
                      repeat (first | refine then_normal ?_ | refine then_exit ?_ | refine then_ret ?_ | refine block_normal ?_ | refine block_ret ?_ | refine block_exit ?_ | refine block_pass rfl ?_)
                      exact ⟨true, h, ⟨(.refl _), ⟨(.refl _), ⟨(.refl _), trivial⟩⟩⟩, rfl⟩
                    · refine o_s (.t (.d (.lit (.int .i64 p0.Kind)))) (gy rfl rfl rfl h29) rfl rfl rfl ?_
                      refine o_s (.t (.d (.lit (.bool (p0.Kind == 12))))) (gy rfl rfl rfl h29) rfl rfl rfl ?_
                      refine o_pk (.t (.d (.lit (.bool (p0.Kind == 12))))) (b := false) h29 (g0 rfl) rfl rfl rfl rfl rfl ?_
                      refine o_s (.t (.d (.lit (.bool (p0.Kind == 12))))) (g0 rfl) rfl rfl rfl ?_
                      refine o_nil ?_
                      repeat (first | refine then_normal ?_ | refine then_exit ?_ | refine then_ret ?_ | refine block_normal ?_ | refine block_ret ?_ | refine block_exit ?_ | refine block_pass rfl ?_)
                      exact ⟨(p0.Kind == 12), h, ⟨(.refl _), ⟨(.refl _), ⟨(.refl _), trivial⟩⟩⟩, rfl⟩
              · rintro y6 h
                refine c_cut (fun (_ : Unit) => [(1, .box [.d (.lit (.int .i64 p0.Kind)), .d (.lit (.string ⟨⟨p0.User⟩⟩)), .d (.lit (.string ⟨⟨p0.Folder⟩⟩)), .d (.lit (.string ⟨⟨p0.Name⟩⟩)), .d (.lit (.string ⟨⟨p0.Other⟩⟩)), .d (.lit (.int .i64 p0.Role)), .d (.lit (.int .i64 p0.Version)), .d (.seq 1 (bytesD p0.Data))]), (3, .t (.d (.lit (.int .i64 p0.Kind))))]) (fun (_ : Unit) => m_R30_May_j5 p0 = some r) ?_ ?_
                · refine c_seq ?_
                  refine c_region ?_
                  refine o_s (.t (.d (.lit (.bool y6)))) (g0 rfl) rfl rfl rfl ?_
                  refine o_s (.t (.d (.lit (.bool y6)))) (g0 rfl) rfl rfl rfl ?_
                  rcases bif_some h with ⟨h19, h⟩ | ⟨h19, h⟩
                  · refine o_s (.ref 1 3) (gy rfl rfl rfl h19) rfl rfl rfl ?_
                    refine o_s (.t (.d (.lit (.string ⟨⟨p0.Name⟩⟩)))) (gy rfl rfl rfl h19) rfl rfl rfl ?_
                    obtain ⟨x20, h21, h⟩ := bind_some h
                    refine o_ca (fc_R25_Name _ _ h21) (gy rfl rfl rfl h19) rfl rfl rfl rfl rfl rfl rfl (.cons (.refl _) .nil) rfl rfl ?_
                    refine o_s (.t (.d (.lit (.bool (!x20))))) (gy rfl rfl rfl h19) rfl rfl rfl ?_
                    refine o_pk (.t (.d (.lit (.bool (!x20))))) (b := true) h19 (g0 rfl) rfl rfl rfl rfl rfl ?_
                    refine o_s (.t (.d (.lit (.bool (!x20))))) (g0 rfl) rfl rfl rfl ?_
                    rcases bif_some h with ⟨h22, h⟩ | ⟨h22, h⟩
                    · refine o_skip rfl rfl rfl h22 rfl rfl ?_
                      refine o_skip rfl rfl rfl h22 rfl rfl ?_
                      refine o_skip rfl rfl rfl h22 rfl rfl ?_
                      refine o_un rfl rfl rfl rfl rfl ?_
                      refine o_un rfl rfl rfl rfl rfl ?_
                      refine o_un rfl rfl rfl rfl rfl ?_
                      refine o_skip rfl rfl rfl h22 rfl rfl ?_
                      refine o_pk (.t (.d (.lit (.bool true)))) (b := true) h22 (g0 rfl) rfl rfl rfl rfl rfl ?_
                      refine o_nil ?_
                      repeat (first | refine then_normal ?_ | refine then_exit ?_ | refine then_ret ?_ | refine block_normal ?_ | refine block_ret ?_ | refine block_exit ?_ | refine block_pass rfl ?_)
                      refine c_t rfl rfl ?_
                      refine c_seq ?_
                      refine c_region ?_
                      refine o_s (.t (.d (.lit (.bool false)))) (g0 rfl) rfl rfl rfl ?_
                      refine o_nil ?_
                      repeat (first | refine then_normal ?_ | refine then_exit ?_ | refine then_ret ?_ | refine block_normal ?_ | refine block_ret ?_ | refine block_exit ?_ | refine block_pass rfl ?_)
                      refine c_ret ?_
                      repeat (first | refine then_normal ?_ | refine then_exit ?_ | refine then_ret ?_ | refine block_normal ?_ | refine block_ret ?_ | refine block_exit ?_ | refine block_pass rfl ?_)
                      obtain rfl := Option.some.inj h
                      exact end0 rfl (.refl _)
                    · refine o_s (.t (.d (.lit (.bool y6)))) (gy rfl rfl rfl h22) rfl rfl rfl ?_
                      refine o_s (.t (.d (.lit (.bool (!y6))))) (gy rfl rfl rfl h22) rfl rfl rfl ?_
                      refine o_s (.t (.d (.lit (.bool (!y6))))) (gy rfl rfl rfl h22) rfl rfl rfl ?_
                      rcases bif_some h with ⟨h23, h⟩ | ⟨h23, h⟩
                      · refine o_s (.ref 1 3) (gy rfl rfl rfl h23) rfl rfl rfl ?_
                        refine o_s (.t (.d (.lit (.string ⟨⟨p0.Name⟩⟩)))) (gy rfl rfl rfl h23) rfl rfl rfl ?_
                        refine o_c (gy rfl rfl rfl h23) rfl rfl rfl (congrArg (fun z => A.t (.d (.lit (.bool (!z))))) (str_beqL _ _)) trivial ?_
                        refine o_pk (.t (.d (.lit (.bool (!(p0.Name == [])))))) (b := true) h23 (gy rfl rfl rfl h22) rfl rfl rfl rfl rfl ?_
                        refine o_pk (.t (.d (.lit (.bool (!(p0.Name == [])))))) (b := false) h22 (g0 rfl) rfl rfl rfl rfl rfl ?_
                        refine o_nil ?_
                        repeat (first | refine then_normal ?_ | refine then_exit ?_ | refine then_ret ?_ | refine block_normal ?_ | refine block_ret ?_ | refine block_exit ?_ | refine block_pass rfl ?_)
                        rcases bif_some h with ⟨h24, h⟩ | ⟨h24, h⟩
                        · refine c_t h24 rfl ?_
                          refine c_seq ?_
                          refine c_region ?_
                          refine o_s (.t (.d (.lit (.bool false)))) (g0 rfl) rfl rfl rfl ?_
                          refine o_nil ?_
                          repeat (first | refine then_normal ?_ | refine then_exit ?_ | refine then_ret ?_ | refine block_normal ?_ | refine block_ret ?_ | refine block_exit ?_ | refine block_pass rfl ?_)
                          refine c_ret ?_
                          repeat (first | refine then_normal ?_ | refine then_exit ?_ | refine then_ret ?_ | refine block_normal ?_ | refine block_ret ?_ | refine block_exit ?_ | refine block_pass rfl ?_)
                          obtain rfl := Option.some.inj h
                          exact end0 rfl (.refl _)
                        · refine c_f h24 rfl ?_
                          refine c_skip ?_
                          repeat (first | refine then_normal ?_ | refine then_exit ?_ | refine then_ret ?_ | refine block_normal ?_ | refine block_ret ?_ | refine block_exit ?_ | refine block_pass rfl ?_)
                          exact ⟨(), h, ⟨(.refl _), ⟨(.refl _), trivial⟩⟩, rfl⟩
                      · refine o_skip rfl rfl rfl h23 rfl rfl ?_
                        refine o_skip rfl rfl rfl h23 rfl rfl ?_
                        refine o_skip rfl rfl rfl h23 rfl rfl ?_
                        refine o_pk (.t (.d (.lit (.bool false)))) (b := false) h23 (gy rfl rfl rfl h22) rfl rfl rfl rfl rfl ?_
                        refine o_pk (.t (.d (.lit (.bool false)))) (b := false) h22 (g0 rfl) rfl rfl rfl rfl rfl ?_
                        refine o_nil ?_
                        repeat (first | refine then_normal ?_ | refine then_exit ?_ | refine then_ret ?_ | refine block_normal ?_ | refine block_ret ?_ | refine block_exit ?_ | refine block_pass rfl ?_)
                        refine c_f rfl rfl ?_
                        refine c_skip ?_
                        repeat (first | refine then_normal ?_ | refine then_exit ?_ | refine then_ret ?_ | refine block_normal ?_ | refine block_ret ?_ | refine block_exit ?_ | refine block_pass rfl ?_)
                        exact ⟨(), h, ⟨(.refl _), ⟨(.refl _), trivial⟩⟩, rfl⟩
                  · refine o_skip rfl rfl rfl h19 rfl rfl ?_
                    refine o_skip rfl rfl rfl h19 rfl rfl ?_
                    refine o_skip rfl rfl rfl h19 rfl rfl ?_
                    refine o_skip rfl rfl rfl h19 rfl rfl ?_
                    refine o_pk (.t (.d (.lit (.bool false)))) (b := false) h19 (g0 rfl) rfl rfl rfl rfl rfl ?_
                    refine o_s (.t (.d (.lit (.bool false)))) (g0 rfl) rfl rfl rfl ?_
                    refine o_s (.t (.d (.lit (.bool y6)))) (gy rfl rfl rfl rfl) rfl rfl rfl ?_
                    refine o_s (.t (.d (.lit (.bool (!y6))))) (gy rfl rfl rfl rfl) rfl rfl rfl ?_
                    refine o_s (.t (.d (.lit (.bool (!y6))))) (gy rfl rfl rfl rfl) rfl rfl rfl ?_
                    rcases bif_some h with ⟨h25, h⟩ | ⟨h25, h⟩
                    · refine o_s (.ref 1 3) (gy rfl rfl rfl h25) rfl rfl rfl ?_
                      refine o_s (.t (.d (.lit (.string ⟨⟨p0.Name⟩⟩)))) (gy rfl rfl rfl h25) rfl rfl rfl ?_
                      refine o_c (gy rfl rfl rfl h25) rfl rfl rfl (congrArg (fun z => A.t (.d (.lit (.bool (!z))))) (str_beqL _ _)) trivial ?_
                      refine o_pk (.t (.d (.lit (.bool (!(p0.Name == [])))))) (b := true) h25 (gy rfl rfl rfl rfl) rfl rfl rfl rfl rfl ?_
                      refine o_pk (.t (.d (.lit (.bool (!(p0.Name == [])))))) (b := false) rfl (g0 rfl) rfl rfl rfl rfl rfl ?_
                      refine o_nil ?_
                      repeat (first | refine then_normal ?_ | refine then_exit ?_ | refine then_ret ?_ | refine block_normal ?_ | refine block_ret ?_ | refine block_exit ?_ | refine block_pass rfl ?_)
                      rcases bif_some h with ⟨h26, h⟩ | ⟨h26, h⟩
                      · refine c_t h26 rfl ?_
                        refine c_seq ?_
                        refine c_region ?_
                        refine o_s (.t (.d (.lit (.bool false)))) (g0 rfl) rfl rfl rfl ?_
                        refine o_nil ?_
                        repeat (first | refine then_normal ?_ | refine then_exit ?_ | refine then_ret ?_ | refine block_normal ?_ | refine block_ret ?_ | refine block_exit ?_ | refine block_pass rfl ?_)
                        refine c_ret ?_
                        repeat (first | refine then_normal ?_ | refine then_exit ?_ | refine then_ret ?_ | refine block_normal ?_ | refine block_ret ?_ | refine block_exit ?_ | refine block_pass rfl ?_)
                        obtain rfl := Option.some.inj h
                        exact end0 rfl (.refl _)
                      · refine c_f h26 rfl ?_
                        refine c_skip ?_
                        repeat (first | refine then_normal ?_ | refine then_exit ?_ | refine then_ret ?_ | refine block_normal ?_ | refine block_ret ?_ | refine block_exit ?_ | refine block_pass rfl ?_)
                        exact ⟨(), h, ⟨(.refl _), ⟨(.refl _), trivial⟩⟩, rfl⟩
                    · refine o_skip rfl rfl rfl h25 rfl rfl ?_
                      refine o_skip rfl rfl rfl h25 rfl rfl ?_
                      refine o_skip rfl rfl rfl h25 rfl rfl ?_
                      refine o_pk (.t (.d (.lit (.bool false)))) (b := false) h25 (gy rfl rfl rfl rfl) rfl rfl rfl rfl rfl ?_
                      refine o_pk (.t (.d (.lit (.bool false)))) (b := false) rfl (g0 rfl) rfl rfl rfl rfl rfl ?_
                      refine o_nil ?_
                      repeat (first | refine then_normal ?_ | refine then_exit ?_ | refine then_ret ?_ | refine block_normal ?_ | refine block_ret ?_ | refine block_exit ?_ | refine block_pass rfl ?_)
                      refine c_f rfl rfl ?_
                      refine c_skip ?_
                      repeat (first | refine then_normal ?_ | refine then_exit ?_ | refine then_ret ?_ | refine block_normal ?_ | refine block_ret ?_ | refine block_exit ?_ | refine block_pass rfl ?_)
                      exact ⟨(), h, ⟨(.refl _), ⟨(.refl _), trivial⟩⟩, rfl⟩
                · rintro ⟨⟩ h
                  refine c_cut (fun (_ : Unit) => [(1, .box [.d (.lit (.int .i64 p0.Kind)), .d (.lit (.string ⟨⟨p0.User⟩⟩)), .d (.lit (.string ⟨⟨p0.Folder⟩⟩)), .d (.lit (.string ⟨⟨p0.Name⟩⟩)), .d (.lit (.string ⟨⟨p0.Other⟩⟩)), .d (.lit (.int .i64 p0.Role)), .d (.lit (.int .i64 p0.Version)), .d (.seq 1 (bytesD p0.Data))]), (3, .t (.d (.lit (.int .i64 p0.Kind))))]) (fun (_ : Unit) => m_R30_May_j6 p0 = some r) ?_ ?_
                  · refine c_cut (fun (y13 : Bool) => [(1, .box [.d (.lit (.int .i64 p0.Kind)), .d (.lit (.string ⟨⟨p0.User⟩⟩)), .d (.lit (.string ⟨⟨p0.Folder⟩⟩)), .d (.lit (.string ⟨⟨p0.Name⟩⟩)), .d (.lit (.string ⟨⟨p0.Other⟩⟩)), .d (.lit (.int .i64 p0.Role)), .d (.lit (.int .i64 p0.Version)), .d (.seq 1 (bytesD p0.Data))]), (3, .t (.d (.lit (.int .i64 p0.Kind)))), (144, .t (.d (.lit (.bool y13))))]) (fun (y13 : Bool) => m_R30_May_j8 p0 y13 = some r) ?_ ?_
                    · refine c_region ?_
                      refine o_s (.t (.d (.lit (.int .i64 p0.Kind)))) (g0 rfl) rfl rfl rfl ?_
                      refine o_s (.t (.d (.lit (.bool (p0.Kind == 5))))) (g0 rfl) rfl rfl rfl ?_
                      refine o_s (.t (.d (.lit (.bool (p0.Kind == 5))))) (g0 rfl) rfl rfl rfl ?_
                      rcases bif_some h with ⟨h18, h⟩ | ⟨h18, h⟩
                      · refine o_skip rfl rfl rfl h18 rfl rfl ?_
                        refine o_skip rfl rfl rfl h18 rfl rfl ?_
                        refine o_pk (.t (.d (.lit (.bool true)))) (b := true) h18 (g0 rfl) rfl rfl rfl rfl rfl ?_
                        refine o_nil ?_
                        repeat (first | refine then_normal ?_ | refine then_exit ?_ | refine then_ret ?_ | refine block_normal ?_ | refine block_ret ?_ | refine block_exit ?_ | refine block_pass rfl ?_)
                        exact ⟨true, h, ⟨(.refl _), ⟨(.refl _), ⟨(.refl _), trivial⟩⟩⟩, rfl⟩
                      · refine o_s (.t (.d (.lit (.int .i64 p0.Kind)))) (gy rfl rfl rfl h18) rfl rfl rfl ?_
                        refine o_s (.t (.d (.lit (.bool (p0.Kind == 6))))) (gy rfl rfl rfl h18) rfl rfl rfl ?_
                        refine o_pk (.t (.d (.lit (.bool (p0.Kind == 6))))) (b := false) h18 (g0 rfl) rfl rfl rfl rfl rfl ?_
                        refine o_nil ?_
                        repeat (first | refine then_normal ?_ | refine then_exit ?_ | refine then_ret ?_ | refine block_normal ?_ | refine block_ret ?_ | refine block_exit ?_ | refine block_pass rfl ?_)
                        exact ⟨(p0.Kind == 6), h, ⟨(.refl _), ⟨(.refl _), ⟨(.refl _), trivial⟩⟩⟩, rfl⟩
                    · rintro y13 h
                      rcases bif_some h with ⟨h14, h⟩ | ⟨h14, h⟩
                      · refine c_t h14 rfl ?_
                        refine c_seq ?_
                        refine c_region ?_
                        refine o_s (.ref 1 5) (g0 rfl) rfl rfl rfl ?_
                        refine o_s (.t (.d (.lit (.int .i64 p0.Role)))) (g0 rfl) rfl rfl rfl ?_
                        refine o_s (.t (.d (.lit (.bool (decide (p0.Role < 1)))))) (g0 rfl) rfl rfl rfl ?_
                        refine o_s (.t (.d (.lit (.bool (decide (p0.Role < 1)))))) (g0 rfl) rfl rfl rfl ?_
                        rcases bif_some h with ⟨h15, h⟩ | ⟨h15, h⟩
                        · refine o_skip rfl rfl rfl h15 rfl rfl ?_
                          refine o_skip rfl rfl rfl h15 rfl rfl ?_
                          refine o_skip rfl rfl rfl h15 rfl rfl ?_
                          refine o_pk (.t (.d (.lit (.bool true)))) (b := true) h15 (g0 rfl) rfl rfl rfl rfl rfl ?_
                          refine o_nil ?_
                          repeat (first | refine then_normal ?_ | refine then_exit ?_ | refine then_ret ?_ | refine block_normal ?_ | refine block_ret ?_ | refine block_exit ?_ | refine block_pass rfl ?_)
                          refine c_t rfl rfl ?_
                          refine c_seq ?_
                          refine c_region ?_
                          refine o_s (.t (.d (.lit (.bool false)))) (g0 rfl) rfl rfl rfl ?_
                          refine o_nil ?_
                          repeat (first | refine then_normal ?_ | refine then_exit ?_ | refine then_ret ?_ | refine block_normal ?_ | refine block_ret ?_ | refine block_exit ?_ | refine block_pass rfl ?_)
                          refine c_ret ?_
                          repeat (first | refine then_normal ?_ | refine then_exit ?_ | refine then_ret ?_ | refine block_normal ?_ | refine block_ret ?_ | refine block_exit ?_ | refine block_pass rfl ?_)
                          obtain rfl := Option.some.inj h
                          exact end0 rfl (.refl _)
                        · refine o_s (.ref 1 5) (gy rfl rfl rfl h15) rfl rfl rfl ?_
                          refine o_s (.t (.d (.lit (.int .i64 p0.Role)))) (gy rfl rfl rfl h15) rfl rfl rfl ?_
                          refine o_s (.t (.d (.lit (.bool (decide (p0.Role > 4)))))) (gy rfl rfl rfl h15) rfl rfl rfl ?_
                          refine o_pk (.t (.d (.lit (.bool (decide (p0.Role > 4)))))) (b := false) h15 (g0 rfl) rfl rfl rfl rfl rfl ?_
                          refine o_nil ?_
                          repeat (first | refine then_normal ?_ | refine then_exit ?_ | refine then_ret ?_ | refine block_normal ?_ | refine block_ret ?_ | refine block_exit ?_ | refine block_pass rfl ?_)
                          rcases bif_some h with ⟨h16, h⟩ | ⟨h16, h⟩
                          · refine c_t h16 rfl ?_
                            refine c_seq ?_
                            refine c_region ?_
                            refine o_s (.t (.d (.lit (.bool false)))) (g0 rfl) rfl rfl rfl ?_
                            refine o_nil ?_
                            repeat (first | refine then_normal ?_ | refine then_exit ?_ | refine then_ret ?_ | refine block_normal ?_ | refine block_ret ?_ | refine block_exit ?_ | refine block_pass rfl ?_)
                            refine c_ret ?_
                            repeat (first | refine then_normal ?_ | refine then_exit ?_ | refine then_ret ?_ | refine block_normal ?_ | refine block_ret ?_ | refine block_exit ?_ | refine block_pass rfl ?_)
                            obtain rfl := Option.some.inj h
                            exact end0 rfl (.refl _)
                          · refine c_f h16 rfl ?_
                            refine c_skip ?_
                            repeat (first | refine then_normal ?_ | refine then_exit ?_ | refine then_ret ?_ | refine block_normal ?_ | refine block_ret ?_ | refine block_exit ?_ | refine block_pass rfl ?_)
                            exact ⟨(), h, ⟨(.refl _), ⟨(.refl _), trivial⟩⟩, rfl⟩
                      · refine c_f h14 rfl ?_
                        refine c_seq ?_
                        refine c_region ?_
                        refine o_s (.ref 1 5) (g0 rfl) rfl rfl rfl ?_
                        refine o_s (.t (.d (.lit (.int .i64 p0.Role)))) (g0 rfl) rfl rfl rfl ?_
                        refine o_s (.t (.d (.lit (.bool (p0.Role != 0))))) (g0 rfl) rfl rfl rfl ?_
                        refine o_nil ?_
                        repeat (first | refine then_normal ?_ | refine then_exit ?_ | refine then_ret ?_ | refine block_normal ?_ | refine block_ret ?_ | refine block_exit ?_ | refine block_pass rfl ?_)
                        rcases bif_some h with ⟨h17, h⟩ | ⟨h17, h⟩
                        · refine c_t h17 rfl ?_
                          refine c_seq ?_
                          refine c_region ?_
                          refine o_s (.t (.d (.lit (.bool false)))) (g0 rfl) rfl rfl rfl ?_
                          refine o_nil ?_
                          repeat (first | refine then_normal ?_ | refine then_exit ?_ | refine then_ret ?_ | refine block_normal ?_ | refine block_ret ?_ | refine block_exit ?_ | refine block_pass rfl ?_)
                          refine c_ret ?_
                          repeat (first | refine then_normal ?_ | refine then_exit ?_ | refine then_ret ?_ | refine block_normal ?_ | refine block_ret ?_ | refine block_exit ?_ | refine block_pass rfl ?_)
                          obtain rfl := Option.some.inj h
                          exact end0 rfl (.refl _)
                        · refine c_f h17 rfl ?_
                          refine c_skip ?_
                          repeat (first | refine then_normal ?_ | refine then_exit ?_ | refine then_ret ?_ | refine block_normal ?_ | refine block_ret ?_ | refine block_exit ?_ | refine block_pass rfl ?_)
                          exact ⟨(), h, ⟨(.refl _), ⟨(.refl _), trivial⟩⟩, rfl⟩
                  · rintro ⟨⟩ h
                    refine c_cut (fun (_ : Unit) => [(1, .box [.d (.lit (.int .i64 p0.Kind)), .d (.lit (.string ⟨⟨p0.User⟩⟩)), .d (.lit (.string ⟨⟨p0.Folder⟩⟩)), .d (.lit (.string ⟨⟨p0.Name⟩⟩)), .d (.lit (.string ⟨⟨p0.Other⟩⟩)), .d (.lit (.int .i64 p0.Role)), .d (.lit (.int .i64 p0.Version)), .d (.seq 1 (bytesD p0.Data))]), (3, .t (.d (.lit (.int .i64 p0.Kind))))]) (fun (_ : Unit) => m_R30_May_j7 p0 = some r) ?_ ?_
                    · refine c_seq ?_
                      refine c_region ?_
                      refine o_s (.t (.d (.lit (.int .i64 p0.Kind)))) (g0 rfl) rfl rfl rfl ?_
                      refine o_s (.t (.d (.lit (.bool (p0.Kind == 9))))) (g0 rfl) rfl rfl rfl ?_
                      refine o_nil ?_
                      repeat (first | refine then_normal ?_ | refine then_exit ?_ | refine then_ret ?_ | refine block_normal ?_ | refine block_ret ?_ | refine block_exit ?_ | refine block_pass rfl ?_)
                      rcases bif_some h with ⟨h9, h⟩ | ⟨h9, h⟩
                      · refine c_t h9 rfl ?_
                        refine c_seq ?_
                        refine c_region ?_
                        refine o_s (.ref 1 6) (g0 rfl) rfl rfl rfl ?_
                        refine o_s (.t (.d (.lit (.int .i64 p0.Version)))) (g0 rfl) rfl rfl rfl ?_
                        refine o_s (.t (.d (.lit (.bool (decide (p0.Version < 0)))))) (g0 rfl) rfl rfl rfl ?_
                        refine o_s (.t (.d (.lit (.bool (decide (p0.Version < 0)))))) (g0 rfl) rfl rfl rfl ?_
                        rcases bif_some h with ⟨h10, h⟩ | ⟨h10, h⟩
                        · refine o_skip rfl rfl rfl h10 rfl rfl ?_
                          refine o_skip rfl rfl rfl h10 rfl rfl ?_
                          refine o_skip rfl rfl rfl h10 rfl rfl ?_
                          refine o_pk (.t (.d (.lit (.bool true)))) (b := true) h10 (g0 rfl) rfl rfl rfl rfl rfl ?_
                          refine o_nil ?_
                          repeat (first | refine then_normal ?_ | refine then_exit ?_ | refine then_ret ?_ | refine block_normal ?_ | refine block_ret ?_ | refine block_exit ?_ | refine block_pass rfl ?_)
                          refine c_t rfl rfl ?_
                          refine c_seq ?_
                          refine c_region ?_
                          refine o_s (.t (.d (.lit (.bool false)))) (g0 rfl) rfl rfl rfl ?_
                          refine o_nil ?_
                          repeat (first | refine then_normal ?_ | refine then_exit ?_ | refine then_ret ?_ | refine block_normal ?_ | refine block_ret ?_ | refine block_exit ?_ | refine block_pass rfl ?_)
                          refine c_ret ?_
                          repeat (first | refine then_normal ?_ | refine then_exit ?_ | refine then_ret ?_ | refine block_normal ?_ | refine block_ret ?_ | refine block_exit ?_ | refine block_pass rfl ?_)
                          obtain rfl := Option.some.inj h
                          exact end0 rfl (.refl _)
                        · refine o_s (.ref 1 6) (gy rfl rfl rfl h10) rfl rfl rfl ?_
                          refine o_s (.t (.d (.lit (.int .i64 p0.Version)))) (gy rfl rfl rfl h10) rfl rfl rfl ?_
                          refine o_s (.t (.d (.lit (.bool (decide (p0.Version > 1099511627776)))))) (gy rfl rfl rfl h10) rfl rfl rfl ?_
                          refine o_pk (.t (.d (.lit (.bool (decide (p0.Version > 1099511627776)))))) (b := false) h10 (g0 rfl) rfl rfl rfl rfl rfl ?_
                          refine o_nil ?_
                          repeat (first | refine then_normal ?_ | refine then_exit ?_ | refine then_ret ?_ | refine block_normal ?_ | refine block_ret ?_ | refine block_exit ?_ | refine block_pass rfl ?_)
                          rcases bif_some h with ⟨h11, h⟩ | ⟨h11, h⟩
                          · refine c_t h11 rfl ?_
                            refine c_seq ?_
                            refine c_region ?_
                            refine o_s (.t (.d (.lit (.bool false)))) (g0 rfl) rfl rfl rfl ?_
                            refine o_nil ?_
                            repeat (first | refine then_normal ?_ | refine then_exit ?_ | refine then_ret ?_ | refine block_normal ?_ | refine block_ret ?_ | refine block_exit ?_ | refine block_pass rfl ?_)
                            refine c_ret ?_
                            repeat (first | refine then_normal ?_ | refine then_exit ?_ | refine then_ret ?_ | refine block_normal ?_ | refine block_ret ?_ | refine block_exit ?_ | refine block_pass rfl ?_)
                            obtain rfl := Option.some.inj h
                            exact end0 rfl (.refl _)
                          · refine c_f h11 rfl ?_
                            refine c_skip ?_
                            repeat (first | refine then_normal ?_ | refine then_exit ?_ | refine then_ret ?_ | refine block_normal ?_ | refine block_ret ?_ | refine block_exit ?_ | refine block_pass rfl ?_)
                            exact ⟨(), h, ⟨(.refl _), ⟨(.refl _), trivial⟩⟩, rfl⟩
                      · refine c_f h9 rfl ?_
                        refine c_seq ?_
                        refine c_region ?_
                        refine o_s (.ref 1 6) (g0 rfl) rfl rfl rfl ?_
                        refine o_s (.t (.d (.lit (.int .i64 p0.Version)))) (g0 rfl) rfl rfl rfl ?_
                        refine o_s (.t (.d (.lit (.bool (p0.Version != 0))))) (g0 rfl) rfl rfl rfl ?_
                        refine o_nil ?_
                        repeat (first | refine then_normal ?_ | refine then_exit ?_ | refine then_ret ?_ | refine block_normal ?_ | refine block_ret ?_ | refine block_exit ?_ | refine block_pass rfl ?_)
                        rcases bif_some h with ⟨h12, h⟩ | ⟨h12, h⟩
                        · refine c_t h12 rfl ?_
                          refine c_seq ?_
                          refine c_region ?_
                          refine o_s (.t (.d (.lit (.bool false)))) (g0 rfl) rfl rfl rfl ?_
                          refine o_nil ?_
                          repeat (first | refine then_normal ?_ | refine then_exit ?_ | refine then_ret ?_ | refine block_normal ?_ | refine block_ret ?_ | refine block_exit ?_ | refine block_pass rfl ?_)
                          refine c_ret ?_
                          repeat (first | refine then_normal ?_ | refine then_exit ?_ | refine then_ret ?_ | refine block_normal ?_ | refine block_ret ?_ | refine block_exit ?_ | refine block_pass rfl ?_)
                          obtain rfl := Option.some.inj h
                          exact end0 rfl (.refl _)
                        · refine c_f h12 rfl ?_
                          refine c_skip ?_
                          repeat (first | refine then_normal ?_ | refine then_exit ?_ | refine then_ret ?_ | refine block_normal ?_ | refine block_ret ?_ | refine block_exit ?_ | refine block_pass rfl ?_)
                          exact ⟨(), h, ⟨(.refl _), ⟨(.refl _), trivial⟩⟩, rfl⟩
                    · rintro ⟨⟩ h
                      refine c_seq ?_
                      refine c_region ?_
                      refine o_s (.ref 1 7) (g0 rfl) rfl rfl rfl ?_
                      refine o_s (.t (.d (.seq 1 (bytesD p0.Data)))) (g0 rfl) rfl rfl rfl ?_
                      refine o_c (g0 rfl) rfl rfl rfl (lenE _ _) trivial ?_
                      refine o_s (.t (.d (.lit (.bool ((p0.Data.length : Int) == 0))))) (g0 rfl) rfl rfl rfl ?_
                      refine o_s (.t (.d (.lit (.bool ((p0.Data.length : Int) == 0))))) (g0 rfl) rfl rfl rfl ?_
                      rcases bif_some h with ⟨h7, h⟩ | ⟨h7, h⟩
                      · refine o_skip rfl rfl rfl h7 rfl rfl ?_
                        refine o_skip rfl rfl rfl h7 rfl rfl ?_
                        refine o_skip rfl rfl rfl h7 rfl rfl ?_
                        refine o_un rfl rfl rfl rfl rfl ?_
                        refine o_un rfl rfl rfl rfl rfl ?_
                        refine o_un rfl rfl rfl rfl rfl ?_
                        refine o_un rfl rfl rfl rfl rfl ?_
                        refine o_skip rfl rfl rfl h7 rfl rfl ?_
                        refine o_pk (.t (.d (.lit (.bool true)))) (b := true) h7 (g0 rfl) rfl rfl rfl rfl rfl ?_
                        refine o_s (.t (.d (.lit (.bool true)))) (g0 rfl) rfl rfl rfl ?_
                        refine o_nil ?_
                        repeat (first | refine then_normal ?_ | refine then_exit ?_ | refine then_ret ?_ | refine block_normal ?_ | refine block_ret ?_ | refine block_exit ?_ | refine block_pass rfl ?_)
                        refine c_ret ?_
                        repeat (first | refine then_normal ?_ | refine then_exit ?_ | refine then_ret ?_ | refine block_normal ?_ | refine block_ret ?_ | refine block_exit ?_ | refine block_pass rfl ?_)
                        obtain rfl := Option.some.inj h
                        exact end0 rfl (.refl _)
                      · refine o_s (.t (.d (.lit (.int .i64 p0.Kind)))) (gy rfl rfl rfl h7) rfl rfl rfl ?_
                        refine o_s (.t (.d (.lit (.bool (p0.Kind == 8))))) (gy rfl rfl rfl h7) rfl rfl rfl ?_
                        refine o_s (.t (.d (.lit (.bool (p0.Kind == 8))))) (gy rfl rfl rfl h7) rfl rfl rfl ?_
                        rcases bif_some h with ⟨h8, h⟩ | ⟨h8, h⟩
                        · refine o_s (.ref 1 7) (gy rfl rfl rfl h8) rfl rfl rfl ?_
                          refine o_s (.t (.d (.seq 1 (bytesD p0.Data)))) (gy rfl rfl rfl h8) rfl rfl rfl ?_
                          refine o_c (gy rfl rfl rfl h8) rfl rfl rfl (lenE _ _) trivial ?_
                          refine o_s (.t (.d (.lit (.bool (decide ((p0.Data.length : Int) ≤ 512)))))) (gy rfl rfl rfl h8) rfl rfl rfl ?_
                          refine o_pk (.t (.d (.lit (.bool (decide ((p0.Data.length : Int) ≤ 512)))))) (b := true) h8 (gy rfl rfl rfl h7) rfl rfl rfl rfl rfl ?_
                          refine o_pk (.t (.d (.lit (.bool (decide ((p0.Data.length : Int) ≤ 512)))))) (b := false) h7 (g0 rfl) rfl rfl rfl rfl rfl ?_
                          refine o_s (.t (.d (.lit (.bool (decide ((p0.Data.length : Int) ≤ 512)))))) (g0 rfl) rfl rfl rfl ?_
                          refine o_nil ?_
                          repeat (first | refine then_normal ?_ | refine then_exit ?_ | refine then_ret ?_ | refine block_normal ?_ | refine block_ret ?_ | refine block_exit ?_ | refine block_pass rfl ?_)
                          refine c_ret ?_
                          repeat (first | refine then_normal ?_ | refine then_exit ?_ | refine then_ret ?_ | refine block_normal ?_ | refine block_ret ?_ | refine block_exit ?_ | refine block_pass rfl ?_)
                          obtain rfl := Option.some.inj h
                          exact end0 rfl (.refl _)
                        · refine o_skip rfl rfl rfl h8 rfl rfl ?_
                          refine o_skip rfl rfl rfl h8 rfl rfl ?_
                          refine o_skip rfl rfl rfl h8 rfl rfl ?_
                          refine o_skip rfl rfl rfl h8 rfl rfl ?_
                          refine o_pk (.t (.d (.lit (.bool false)))) (b := false) h8 (gy rfl rfl rfl h7) rfl rfl rfl rfl rfl ?_
                          refine o_pk (.t (.d (.lit (.bool false)))) (b := false) h7 (g0 rfl) rfl rfl rfl rfl rfl ?_
                          refine o_s (.t (.d (.lit (.bool false)))) (g0 rfl) rfl rfl rfl ?_
                          refine o_nil ?_
                          repeat (first | refine then_normal ?_ | refine then_exit ?_ | refine then_ret ?_ | refine block_normal ?_ | refine block_ret ?_ | refine block_exit ?_ | refine block_pass rfl ?_)
                          refine c_ret ?_
                          repeat (first | refine then_normal ?_ | refine then_exit ?_ | refine then_ret ?_ | refine block_normal ?_ | refine block_ret ?_ | refine block_exit ?_ | refine block_pass rfl ?_)
                          obtain rfl := Option.some.inj h
                          exact end0 rfl (.refl _)

theorem fc_call_Read (p0 : (List UInt8)) (r : (S_api_Call × Int)) (h : m_call_Read p0 = some r) : FC Tryd.prog 22 [.t (.d (.seq 1 (bytesD p0)))] [] (.tup [.agg [.lit (.int .i64 r.1.Kind), .lit (.string ⟨⟨r.1.User⟩⟩), .lit (.string ⟨⟨r.1.Folder⟩⟩), .lit (.string ⟨⟨r.1.Name⟩⟩), .lit (.string ⟨⟨r.1.Other⟩⟩), .lit (.int .i64 r.1.Role), .lit (.int .i64 r.1.Version), .seq 1 (bytesD r.1.Data)], .d (.lit (.int .i64 r.2))]) := by
  refine fc_mk (rs := [.cell 2 24, .tmp 3]) (n := 68) Tryd.func22 rfl rfl (Nat.le_of_ble_eq_true rfl) rfl (pins := []) rfl (L := [(0, .t (.d (.seq 1 (bytesD p0))))]) rfl ?_
  refine c_seq ?_
  refine c_region ?_
  refine o_s (.box [.d (.lit (.int .i64 0)), .d (.lit (.string ⟨⟨[]⟩⟩)), .d (.lit (.string ⟨⟨[]⟩⟩)), .d (.lit (.string ⟨⟨[]⟩⟩)), .d (.lit (.string ⟨⟨[]⟩⟩)), .d (.lit (.int .i64 0)), .d (.lit (.int .i64 0)), .d (.lit (.slice none 0 0))]) (g0 rfl) rfl rfl rfl ?_
  refine o_s (.t (.d (.lit (.int .i64 0)))) (g0 rfl) rfl rfl rfl ?_
  refine o_nil ?_
  repeat (first | refine then_normal ?_ | refine then_exit ?_ | refine then_ret ?_ | refine block_normal ?_ | refine block_ret ?_ | refine block_exit ?_ | refine block_pass rfl ?_)
  refine c_seq ?_
  refine c_region ?_
  refine o_s (.t (.d (.seq 1 (bytesD p0)))) (g0 rfl) rfl rfl rfl ?_
  obtain ⟨x1, h2, h⟩ := bind_some h
  refine o_ca (fc_codec_Decode _ _ h2) (g0 rfl) rfl rfl rfl rfl rfl rfl rfl (.cons (.refl _) .nil) rfl rfl ?_
  refine o_s (.tup [.agg [.lit (.int .i64 x1.1.k), .lit (.int .i64 x1.1.n), .seq 1 (bytesD x1.1.b), .seq 4 (List.map V.cells x1.1.l)], .d (.lit (.int .i64 x1.2))]) (g0 rfl) rfl rfl rfl ?_
  refine o_s (.t (.agg [.lit (.int .i64 x1.1.k), .lit (.int .i64 x1.1.n), .seq 1 (bytesD x1.1.b), .seq 4 (List.map V.cells x1.1.l)])) (g0 rfl) rfl rfl rfl ?_
  refine o_s (.t (.d (.lit (.int .i64 x1.2)))) (g0 rfl) rfl rfl rfl ?_
  refine o_s (.box [.d (.lit (.int .i64 0)), .d (.lit (.int .i64 0)), .d (.lit (.slice none 0 0)), .d (.lit (.slice none 0 0))]) (g0 rfl) rfl rfl rfl ?_
  refine o_st (.box [.d (.lit (.int .i64 x1.1.k)), .d (.lit (.int .i64 x1.1.n)), .d (.seq 1 (bytesD x1.1.b)), .d (.seq 4 (List.map V.cells x1.1.l))]) (g0 rfl) rfl rfl rfl ?_
  refine o_s (.t (.d (.lit (.int .i64 x1.2)))) (g0 rfl) rfl rfl rfl ?_
  refine o_nil ?_
  repeat (first | refine then_normal ?_ | refine then_exit ?_ | refine then_ret ?_ | refine block_normal ?_ | refine block_ret ?_ | refine block_exit ?_ | refine block_pass rfl ?_)
  refine c_seq ?_
  refine c_seq ?_
  refine c_region ?_
  refine o_s (.t (.d (.lit (.int .i64 x1.2)))) (g0 rfl) rfl rfl rfl ?_
  refine o_s (.t (.d (.lit (.bool (x1.2 != 0))))) (g0 rfl) rfl rfl rfl ?_
  refine o_nil ?_
  repeat (first | refine then_normal ?_ | refine then_exit ?_ | refine then_ret ?_ | refine block_normal ?_ | refine block_ret ?_ | refine block_exit ?_ | refine block_pass rfl ?_)
  rcases bif_some h with ⟨h3, h⟩ | ⟨h3, h⟩
  · refine c_t h3 rfl ?_
    refine c_seq ?_
    refine c_region ?_
    refine o_s (.t (.agg [.lit (.int .i64 0), .lit (.string ⟨⟨[]⟩⟩), .lit (.string ⟨⟨[]⟩⟩), .lit (.string ⟨⟨[]⟩⟩), .lit (.string ⟨⟨[]⟩⟩), .lit (.int .i64 0), .lit (.int .i64 0), .lit (.slice none 0 0)])) (g0 rfl) rfl rfl rfl ?_
    refine o_st (.box [.d (.lit (.int .i64 0)), .d (.lit (.string ⟨⟨[]⟩⟩)), .d (.lit (.string ⟨⟨[]⟩⟩)), .d (.lit (.string ⟨⟨[]⟩⟩)), .d (.lit (.string ⟨⟨[]⟩⟩)), .d (.lit (.int .i64 0)), .d (.lit (.int .i64 0)), .d (.lit (.slice none 0 0))]) (g0 rfl) rfl rfl rfl ?_
    refine o_s (.t (.d (.lit (.int .i64 13)))) (g0 rfl) rfl rfl rfl ?_
    refine o_nil ?_
    repeat (first | refine then_normal ?_ | refine then_exit ?_ | refine then_ret ?_ | refine block_normal ?_ | refine block_ret ?_ | refine block_exit ?_ | refine block_pass rfl ?_)
    refine c_ret ?_
    repeat (first | refine then_normal ?_ | refine then_exit ?_ | refine then_ret ?_ | refine block_normal ?_ | refine block_ret ?_ | refine block_exit ?_ | refine block_pass rfl ?_)
    obtain rfl := Option.some.inj h
    exact end0 rfl (.tup (.cons (.agg (.cons (.refl _) (.cons (.refl _) (.cons (.refl _) (.cons (.refl _) (.cons (.refl _) (.cons (.refl _) (.cons (.refl _) (.cons (.nil _) .nil))))))))) (.cons (.refl _) .nil)))
  · refine c_f h3 rfl ?_
    refine c_skip ?_
    repeat (first | refine then_normal ?_ | refine then_exit ?_ | refine then_ret ?_ | refine block_normal ?_ | refine block_ret ?_ | refine block_exit ?_ | refine block_pass rfl ?_)
    refine c_seq ?_
    refine c_region ?_
    refine o_s (.t (.agg [.lit (.int .i64 x1.1.k), .lit (.int .i64 x1.1.n), .seq 1 (bytesD x1.1.b), .seq 4 (List.map V.cells x1.1.l)])) (g0 rfl) rfl rfl rfl ?_
    refine o_s (.t (.own 3 1 (List.map cI64 [1, 2, 2, 2, 2, 1, 1, 2]))) (g0 rfl) rfl rfl rfl ?_
    obtain ⟨x4, h5, h⟩ := bind_some h
    refine o_ca (fc_codec_Fields _ _ _ h5) (g0 rfl) rfl rfl rfl rfl rfl rfl rfl (.cons (.refl _) (.cons (.refl _) .nil)) rfl rfl ?_
    refine o_s (.tup [.d (.seq 4 (List.map V.cells x4.1)), .d (.lit (.bool x4.2))]) (g0 rfl) rfl rfl rfl ?_
    refine o_s (.t (.d (.seq 4 (List.map V.cells x4.1)))) (g0 rfl) rfl rfl rfl ?_
    refine o_s (.t (.d (.lit (.bool x4.2)))) (g0 rfl) rfl rfl rfl ?_
    refine o_s (.t (.d (.seq 4 (List.map V.cells x4.1)))) (g0 rfl) rfl rfl rfl ?_
    refine o_s (.t (.d (.lit (.bool x4.2)))) (g0 rfl) rfl rfl rfl ?_
    refine o_nil ?_
    repeat (first | refine then_normal ?_ | refine then_exit ?_ | refine then_ret ?_ | refine block_normal ?_ | refine block_ret ?_ | refine block_exit ?_ | refine block_pass rfl ?_)
    refine c_seq ?_
    refine c_seq ?_
    refine c_region ?_
    refine o_s (.t (.d (.lit (.bool x4.2)))) (g0 rfl) rfl rfl rfl ?_
    refine o_s (.t (.d (.lit (.bool (!x4.2))))) (g0 rfl) rfl rfl rfl ?_
    refine o_nil ?_
    repeat (first | refine then_normal ?_ | refine then_exit ?_ | refine then_ret ?_ | refine block_normal ?_ | refine block_ret ?_ | refine block_exit ?_ | refine block_pass rfl ?_)
    rcases bif_some h with ⟨h6, h⟩ | ⟨h6, h⟩
    · refine c_t h6 rfl ?_
      refine c_seq ?_
      refine c_region ?_
      refine o_s (.t (.agg [.lit (.int .i64 0), .lit (.string ⟨⟨[]⟩⟩), .lit (.string ⟨⟨[]⟩⟩), .lit (.string ⟨⟨[]⟩⟩), .lit (.string ⟨⟨[]⟩⟩), .lit (.int .i64 0), .lit (.int .i64 0), .lit (.slice none 0 0)])) (g0 rfl) rfl rfl rfl ?_
      refine o_st (.box [.d (.lit (.int .i64 0)), .d (.lit (.string ⟨⟨[]⟩⟩)), .d (.lit (.string ⟨⟨[]⟩⟩)), .d (.lit (.string ⟨⟨[]⟩⟩)), .d (.lit (.string ⟨⟨[]⟩⟩)), .d (.lit (.int .i64 0)), .d (.lit (.int .i64 0)), .d (.lit (.slice none 0 0))]) (g0 rfl) rfl rfl rfl ?_
      refine o_s (.t (.d (.lit (.int .i64 13)))) (g0 rfl) rfl rfl rfl ?_
      refine o_nil ?_
      repeat (first | refine then_normal ?_ | refine then_exit ?_ | refine then_ret ?_ | refine block_normal ?_ | refine block_ret ?_ | refine block_exit ?_ | refine block_pass rfl ?_)
      refine c_ret ?_
      repeat (first | refine then_normal ?_ | refine then_exit ?_ | refine then_ret ?_ | refine block_normal ?_ | refine block_ret ?_ | refine block_exit ?_ | refine block_pass rfl ?_)
      obtain rfl := Option.some.inj h
      exact end0 rfl (.tup (.cons (.agg (.cons (.refl _) (.cons (.refl _) (.cons (.refl _) (.cons (.refl _) (.cons (.refl _) (.cons (.refl _) (.cons (.refl _) (.cons (.nil _) .nil))))))))) (.cons (.refl _) .nil)))
    · refine c_f h6 rfl ?_
      refine c_skip ?_
      repeat (first | refine then_normal ?_ | refine then_exit ?_ | refine then_ret ?_ | refine block_normal ?_ | refine block_ret ?_ | refine block_exit ?_ | refine block_pass rfl ?_)
      refine c_seq ?_
      refine c_draw mixed (by kernel_rfl) ?_
      refine d_s (.t (.d (.seq 4 (List.map V.cells x4.1)))) rfl (dg0 rfl) rfl rfl rfl rfl ?_
      obtain ⟨x7, h8, h⟩ := bind_some h
      refine d_c rfl (dg0 rfl) rfl rfl rfl rfl (idxE' V.cells_eq h8) (idxC h8) ?_
      refine d_s (.imm [.lit (.int .i64 x7.n), .seq 1 (bytesD x7.b), .seq 4 (List.map V.cells x7.l)]) rfl (dg0 rfl) rfl rfl rfl rfl ?_
      refine d_s (.t (.d (.lit (.int .i64 x7.n)))) rfl (dg0 rfl) rfl rfl rfl rfl ?_
      refine d_s (.t (.d (.seq 4 (List.map V.cells x4.1)))) rfl (dg0 rfl) rfl rfl rfl rfl ?_
      obtain ⟨x9, h10, h⟩ := bind_some h
      refine d_c rfl (dg0 rfl) rfl rfl rfl rfl (idxE' V.cells_eq h10) (idxC h10) ?_
      refine d_s (.imm [.seq 1 (bytesD x9.b), .seq 4 (List.map V.cells x9.l)]) rfl (dg0 rfl) rfl rfl rfl rfl ?_
      refine d_s (.t (.d (.seq 1 (bytesD x9.b)))) rfl (dg0 rfl) rfl rfl rfl rfl ?_
      refine d_c rfl (dg0 rfl) rfl rfl rfl rfl (strE _) (isB_bytes _) ?_
      refine d_s (.t (.d (.seq 4 (List.map V.cells x4.1)))) rfl (dg0 rfl) rfl rfl rfl rfl ?_
      obtain ⟨x11, h12, h⟩ := bind_some h
      refine d_c rfl (dg0 rfl) rfl rfl rfl rfl (idxE' V.cells_eq h12) (idxC h12) ?_
      refine d_s (.imm [.seq 1 (bytesD x11.b), .seq 4 (List.map V.cells x11.l)]) rfl (dg0 rfl) rfl rfl rfl rfl ?_
      refine d_s (.t (.d (.seq 1 (bytesD x11.b)))) rfl (dg0 rfl) rfl rfl rfl rfl ?_
      refine d_c rfl (dg0 rfl) rfl rfl rfl rfl (strE _) (isB_bytes _) ?_
      refine d_s (.t (.d (.seq 4 (List.map V.cells x4.1)))) rfl (dg0 rfl) rfl rfl rfl rfl ?_
      obtain ⟨x13, h14, h⟩ := bind_some h
      refine d_c rfl (dg0 rfl) rfl rfl rfl rfl (idxE' V.cells_eq h14) (idxC h14) ?_
      refine d_s (.imm [.seq 1 (bytesD x13.b), .seq 4 (List.map V.cells x13.l)]) rfl (dg0 rfl) rfl rfl rfl rfl ?_
      refine d_s (.t (.d (.seq 1 (bytesD x13.b)))) rfl (dg0 rfl) rfl rfl rfl rfl ?_
      refine d_c rfl (dg0 rfl) rfl rfl rfl rfl (strE _) (isB_bytes _) ?_
      refine d_s (.t (.d (.seq 4 (List.map V.cells x4.1)))) rfl (dg0 rfl) rfl rfl rfl rfl ?_
      obtain ⟨x15, h16, h⟩ := bind_some h
      refine d_c rfl (dg0 rfl) rfl rfl rfl rfl (idxE' V.cells_eq h16) (idxC h16) ?_
      refine d_s (.imm [.seq 1 (bytesD x15.b), .seq 4 (List.map V.cells x15.l)]) rfl (dg0 rfl) rfl rfl rfl rfl ?_
      refine d_s (.t (.d (.seq 1 (bytesD x15.b)))) rfl (dg0 rfl) rfl rfl rfl rfl ?_
      refine d_c rfl (dg0 rfl) rfl rfl rfl rfl (strE _) (isB_bytes _) ?_
      refine d_s (.t (.d (.seq 4 (List.map V.cells x4.1)))) rfl (dg0 rfl) rfl rfl rfl rfl ?_
      obtain ⟨x17, h18, h⟩ := bind_some h
      refine d_c rfl (dg0 rfl) rfl rfl rfl rfl (idxE' V.cells_eq h18) (idxC h18) ?_
      refine d_s (.imm [.lit (.int .i64 x17.n), .seq 1 (bytesD x17.b), .seq 4 (List.map V.cells x17.l)]) rfl (dg0 rfl) rfl rfl rfl rfl ?_
      refine d_s (.t (.d (.lit (.int .i64 x17.n)))) rfl (dg0 rfl) rfl rfl rfl rfl ?_
      refine d_s (.t (.d (.seq 4 (List.map V.cells x4.1)))) rfl (dg0 rfl) rfl rfl rfl rfl ?_
      obtain ⟨x19, h20, h⟩ := bind_some h
      refine d_c rfl (dg0 rfl) rfl rfl rfl rfl (idxE' V.cells_eq h20) (idxC h20) ?_
      refine d_s (.imm [.lit (.int .i64 x19.n), .seq 1 (bytesD x19.b), .seq 4 (List.map V.cells x19.l)]) rfl (dg0 rfl) rfl rfl rfl rfl ?_
      refine d_s (.t (.d (.lit (.int .i64 x19.n)))) rfl (dg0 rfl) rfl rfl rfl rfl ?_
      refine d_s (.t (.d (.seq 4 (List.map V.cells x4.1)))) rfl (dg0 rfl) rfl rfl rfl rfl ?_
      obtain ⟨x21, h22, h⟩ := bind_some h
      refine d_c rfl (dg0 rfl) rfl rfl rfl rfl (idxE' V.cells_eq h22) (idxC h22) ?_
      refine d_s (.imm [.seq 1 (bytesD x21.b), .seq 4 (List.map V.cells x21.l)]) rfl (dg0 rfl) rfl rfl rfl rfl ?_
      refine d_s (.t (.d (.seq 1 (bytesD x21.b)))) rfl (dg0 rfl) rfl rfl rfl rfl ?_
      refine d_s (.t (.agg [.lit (.int .i64 x7.n), .lit (.string ⟨⟨x9.b⟩⟩), .lit (.string ⟨⟨x11.b⟩⟩), .lit (.string ⟨⟨x13.b⟩⟩), .lit (.string ⟨⟨x15.b⟩⟩), .lit (.int .i64 x17.n), .lit (.int .i64 x19.n), .seq 1 (bytesD x21.b)])) rfl (dg0 rfl) rfl rfl rfl rfl ?_
      refine d_s (.box [.d (.lit (.int .i64 0)), .d (.lit (.string ⟨⟨[]⟩⟩)), .d (.lit (.string ⟨⟨[]⟩⟩)), .d (.lit (.string ⟨⟨[]⟩⟩)), .d (.lit (.string ⟨⟨[]⟩⟩)), .d (.lit (.int .i64 0)), .d (.lit (.int .i64 0)), .d (.lit (.slice none 0 0))]) rfl (dg0 rfl) rfl rfl rfl rfl ?_
      refine d_st (.box [.d (.lit (.int .i64 x7.n)), .d (.lit (.string ⟨⟨x9.b⟩⟩)), .d (.lit (.string ⟨⟨x11.b⟩⟩)), .d (.lit (.string ⟨⟨x13.b⟩⟩)), .d (.lit (.string ⟨⟨x15.b⟩⟩)), .d (.lit (.int .i64 x17.n)), .d (.lit (.int .i64 x19.n)), .d (.seq 1 (bytesD x21.b))]) rfl (dg0 rfl) rfl rfl rfl rfl ?_
      refine d_nil (by kernel_rfl) ?_
      repeat (first | refine then_normal ?_ | refine then_exit ?_ | refine then_ret ?_ | refine block_normal ?_ | refine block_ret ?_ | refine block_exit ?_ | refine block_pass rfl ?_)
      refine c_seq ?_
      refine c_seq ?_
      refine c_region ?_
      refine o_s (.t (.agg [.lit (.int .i64 x7.n), .lit (.string ⟨⟨x9.b⟩⟩), .lit (.string ⟨⟨x11.b⟩⟩), .lit (.string ⟨⟨x13.b⟩⟩), .lit (.string ⟨⟨x15.b⟩⟩), .lit (.int .i64 x17.n), .lit (.int .i64 x19.n), .seq 1 (bytesD x21.b)])) (g0 rfl) rfl rfl rfl ?_
      obtain ⟨x23, h24, h⟩ := bind_some h
      refine o_ca (fc_call_May _ _ h24) (g0 rfl) rfl rfl rfl rfl rfl rfl rfl (.cons (.refl _) .nil) rfl rfl ?_
      refine o_s (.t (.d (.lit (.bool (!x23))))) (g0 rfl) rfl rfl rfl ?_
      refine o_nil ?_
      repeat (first | refine then_normal ?_ | refine then_exit ?_ | refine then_ret ?_ | refine block_normal ?_ | refine block_ret ?_ | refine block_exit ?_ | refine block_pass rfl ?_)
      rcases bif_some h with ⟨h25, h⟩ | ⟨h25, h⟩
      · refine c_t h25 rfl ?_
        refine c_seq ?_
        refine c_region ?_
        refine o_s (.t (.agg [.lit (.int .i64 0), .lit (.string ⟨⟨[]⟩⟩), .lit (.string ⟨⟨[]⟩⟩), .lit (.string ⟨⟨[]⟩⟩), .lit (.string ⟨⟨[]⟩⟩), .lit (.int .i64 0), .lit (.int .i64 0), .lit (.slice none 0 0)])) (g0 rfl) rfl rfl rfl ?_
        refine o_st (.box [.d (.lit (.int .i64 0)), .d (.lit (.string ⟨⟨[]⟩⟩)), .d (.lit (.string ⟨⟨[]⟩⟩)), .d (.lit (.string ⟨⟨[]⟩⟩)), .d (.lit (.string ⟨⟨[]⟩⟩)), .d (.lit (.int .i64 0)), .d (.lit (.int .i64 0)), .d (.lit (.slice none 0 0))]) (g0 rfl) rfl rfl rfl ?_
        refine o_s (.t (.d (.lit (.int .i64 13)))) (g0 rfl) rfl rfl rfl ?_
        refine o_nil ?_
        repeat (first | refine then_normal ?_ | refine then_exit ?_ | refine then_ret ?_ | refine block_normal ?_ | refine block_ret ?_ | refine block_exit ?_ | refine block_pass rfl ?_)
        refine c_ret ?_
        repeat (first | refine then_normal ?_ | refine then_exit ?_ | refine then_ret ?_ | refine block_normal ?_ | refine block_ret ?_ | refine block_exit ?_ | refine block_pass rfl ?_)
        obtain rfl := Option.some.inj h
        exact end0 rfl (.tup (.cons (.agg (.cons (.refl _) (.cons (.refl _) (.cons (.refl _) (.cons (.refl _) (.cons (.refl _) (.cons (.refl _) (.cons (.refl _) (.cons (.nil _) .nil))))))))) (.cons (.refl _) .nil)))
      · refine c_f h25 rfl ?_
        refine c_skip ?_
        repeat (first | refine then_normal ?_ | refine then_exit ?_ | refine then_ret ?_ | refine block_normal ?_ | refine block_ret ?_ | refine block_exit ?_ | refine block_pass rfl ?_)
        refine c_seq ?_
        refine c_region ?_
        refine o_s (.t (.agg [.lit (.int .i64 x7.n), .lit (.string ⟨⟨x9.b⟩⟩), .lit (.string ⟨⟨x11.b⟩⟩), .lit (.string ⟨⟨x13.b⟩⟩), .lit (.string ⟨⟨x15.b⟩⟩), .lit (.int .i64 x17.n), .lit (.int .i64 x19.n), .seq 1 (bytesD x21.b)])) (g0 rfl) rfl rfl rfl ?_
        refine o_st (.box [.d (.lit (.int .i64 x7.n)), .d (.lit (.string ⟨⟨x9.b⟩⟩)), .d (.lit (.string ⟨⟨x11.b⟩⟩)), .d (.lit (.string ⟨⟨x13.b⟩⟩)), .d (.lit (.string ⟨⟨x15.b⟩⟩)), .d (.lit (.int .i64 x17.n)), .d (.lit (.int .i64 x19.n)), .d (.seq 1 (bytesD x21.b))]) (g0 rfl) rfl rfl rfl ?_
        refine o_s (.t (.d (.lit (.int .i64 0)))) (g0 rfl) rfl rfl rfl ?_
        refine o_nil ?_
        repeat (first | refine then_normal ?_ | refine then_exit ?_ | refine then_ret ?_ | refine block_normal ?_ | refine block_ret ?_ | refine block_exit ?_ | refine block_pass rfl ?_)
        refine c_ret ?_
        repeat (first | refine then_normal ?_ | refine then_exit ?_ | refine then_ret ?_ | refine block_normal ?_ | refine block_ret ?_ | refine block_exit ?_ | refine block_pass rfl ?_)
        obtain rfl := Option.some.inj h
        exact end0 rfl (.tup (.cons (.refl _) (.cons (.refl _) .nil)))

theorem fc_L30_CallBack (p0 : S_api_Call) (r : Bool) (h : m_L30_CallBack p0 = some r) : FC Tryd.prog 5 [.t (.agg [.lit (.int .i64 p0.Kind), .lit (.string ⟨⟨p0.User⟩⟩), .lit (.string ⟨⟨p0.Folder⟩⟩), .lit (.string ⟨⟨p0.Name⟩⟩), .lit (.string ⟨⟨p0.Other⟩⟩), .lit (.int .i64 p0.Role), .lit (.int .i64 p0.Version), .seq 1 (bytesD p0.Data)])] [] (.t (.d (.lit (.bool r)))) := by
  refine fc_mk (rs := [.tmp 2]) (n := 58) Tryd.func5 rfl rfl (Nat.le_of_ble_eq_true rfl) rfl (pins := []) rfl (L := [(0, .t (.agg [.lit (.int .i64 p0.Kind), .lit (.string ⟨⟨p0.User⟩⟩), .lit (.string ⟨⟨p0.Folder⟩⟩), .lit (.string ⟨⟨p0.Name⟩⟩), .lit (.string ⟨⟨p0.Other⟩⟩), .lit (.int .i64 p0.Role), .lit (.int .i64 p0.Version), .seq 1 (bytesD p0.Data)]))]) rfl ?_
  refine c_seq ?_
  refine c_region ?_
  refine o_s (.box [.d (.lit (.int .i64 p0.Kind)), .d (.lit (.string ⟨⟨p0.User⟩⟩)), .d (.lit (.string ⟨⟨p0.Folder⟩⟩)), .d (.lit (.string ⟨⟨p0.Name⟩⟩)), .d (.lit (.string ⟨⟨p0.Other⟩⟩)), .d (.lit (.int .i64 p0.Role)), .d (.lit (.int .i64 p0.Version)), .d (.seq 1 (bytesD p0.Data))]) (g0 rfl) rfl rfl rfl ?_
  refine o_s (.t (.d (.lit (.bool false)))) (g0 rfl) rfl rfl rfl ?_
  refine o_nil ?_
  repeat (first | refine then_normal ?_ | refine then_exit ?_ | refine then_ret ?_ | refine block_normal ?_ | refine block_ret ?_ | refine block_exit ?_ | refine block_pass rfl ?_)
  refine c_seq ?_
  refine c_seq ?_
  refine c_region ?_
  obtain ⟨x1, h2, h⟩ := bind_some h
  refine o_ca (fc_L30_awake _ h2) (g0 rfl) rfl rfl rfl rfl rfl rfl rfl .nil rfl rfl ?_
  refine o_s (.t (.d (.lit (.bool (!x1))))) (g0 rfl) rfl rfl rfl ?_
  refine o_nil ?_
  repeat (first | refine then_normal ?_ | refine then_exit ?_ | refine then_ret ?_ | refine block_normal ?_ | refine block_ret ?_ | refine block_exit ?_ | refine block_pass rfl ?_)
  rcases bif_some h with ⟨h3, h⟩ | ⟨h3, h⟩
  · refine c_t h3 rfl ?_
    refine c_seq ?_
    refine c_region ?_
    refine o_s (.t (.d (.lit (.bool false)))) (g0 rfl) rfl rfl rfl ?_
    refine o_nil ?_
    repeat (first | refine then_normal ?_ | refine then_exit ?_ | refine then_ret ?_ | refine block_normal ?_ | refine block_ret ?_ | refine block_exit ?_ | refine block_pass rfl ?_)
    refine c_ret ?_
    repeat (first | refine then_normal ?_ | refine then_exit ?_ | refine then_ret ?_ | refine block_normal ?_ | refine block_ret ?_ | refine block_exit ?_ | refine block_pass rfl ?_)
    obtain rfl := Option.some.inj h
    exact end0 rfl (.refl _)
  · refine c_f h3 rfl ?_
    refine c_skip ?_
    repeat (first | refine then_normal ?_ | refine then_exit ?_ | refine then_ret ?_ | refine block_normal ?_ | refine block_ret ?_ | refine block_exit ?_ | refine block_pass rfl ?_)
    refine c_seq ?_
    refine c_seq ?_
    refine c_region ?_
    refine o_s (.t (.agg [.lit (.int .i64 p0.Kind), .lit (.string ⟨⟨p0.User⟩⟩), .lit (.string ⟨⟨p0.Folder⟩⟩), .lit (.string ⟨⟨p0.Name⟩⟩), .lit (.string ⟨⟨p0.Other⟩⟩), .lit (.int .i64 p0.Role), .lit (.int .i64 p0.Version), .seq 1 (bytesD p0.Data)])) (g0 rfl) rfl rfl rfl ?_
    obtain ⟨x4, h5, h⟩ := bind_some h
    refine o_ca (fc_L30_Few _ _ h5) (g0 rfl) rfl rfl rfl rfl rfl rfl rfl (.cons (.refl _) .nil) rfl rfl ?_
    refine o_s (.t (.d (.lit (.bool (!x4))))) (g0 rfl) rfl rfl rfl ?_
    refine o_nil ?_
    repeat (first | refine then_normal ?_ | refine then_exit ?_ | refine then_ret ?_ | refine block_normal ?_ | refine block_ret ?_ | refine block_exit ?_ | refine block_pass rfl ?_)
    rcases bif_some h with ⟨h6, h⟩ | ⟨h6, h⟩
    · refine c_t h6 rfl ?_
      refine c_seq ?_
      refine c_region ?_
      refine o_s (.t (.d (.lit (.bool true)))) (g0 rfl) rfl rfl rfl ?_
      refine o_nil ?_
      repeat (first | refine then_normal ?_ | refine then_exit ?_ | refine then_ret ?_ | refine block_normal ?_ | refine block_ret ?_ | refine block_exit ?_ | refine block_pass rfl ?_)
      refine c_ret ?_
      repeat (first | refine then_normal ?_ | refine then_exit ?_ | refine then_ret ?_ | refine block_normal ?_ | refine block_ret ?_ | refine block_exit ?_ | refine block_pass rfl ?_)
      obtain rfl := Option.some.inj h
      exact end0 rfl (.refl _)
    · refine c_f h6 rfl ?_
      refine c_skip ?_
      repeat (first | refine then_normal ?_ | refine then_exit ?_ | refine then_ret ?_ | refine block_normal ?_ | refine block_ret ?_ | refine block_exit ?_ | refine block_pass rfl ?_)
      refine c_seq ?_
      refine c_region ?_
      refine o_s (.t (.agg [.lit (.int .i64 p0.Kind), .lit (.string ⟨⟨p0.User⟩⟩), .lit (.string ⟨⟨p0.Folder⟩⟩), .lit (.string ⟨⟨p0.Name⟩⟩), .lit (.string ⟨⟨p0.Other⟩⟩), .lit (.int .i64 p0.Role), .lit (.int .i64 p0.Version), .seq 1 (bytesD p0.Data)])) (g0 rfl) rfl rfl rfl ?_
      obtain ⟨x7, h8, h⟩ := bind_some h
      refine o_ca (fc_call_Write _ _ h8) (g0 rfl) rfl rfl rfl rfl rfl rfl rfl (.cons (.refl _) .nil) rfl rfl ?_
      refine o_s (.tup [.d (.seq 1 (bytesD x7.1)), .d (.lit (.int .i64 x7.2))]) (g0 rfl) rfl rfl rfl ?_
      refine o_s (.t (.d (.seq 1 (bytesD x7.1)))) (g0 rfl) rfl rfl rfl ?_
      refine o_s (.t (.d (.lit (.int .i64 x7.2)))) (g0 rfl) rfl rfl rfl ?_
      refine o_s (.t (.d (.seq 1 (bytesD x7.1)))) (g0 rfl) rfl rfl rfl ?_
      refine o_s (.t (.d (.lit (.int .i64 x7.2)))) (g0 rfl) rfl rfl rfl ?_
      refine o_nil ?_
      repeat (first | refine then_normal ?_ | refine then_exit ?_ | refine then_ret ?_ | refine block_normal ?_ | refine block_ret ?_ | refine block_exit ?_ | refine block_pass rfl ?_)
      refine c_seq ?_
      refine c_seq ?_
      refine c_region ?_
      refine o_s (.t (.agg [.lit (.int .i64 p0.Kind), .lit (.string ⟨⟨p0.User⟩⟩), .lit (.string ⟨⟨p0.Folder⟩⟩), .lit (.string ⟨⟨p0.Name⟩⟩), .lit (.string ⟨⟨p0.Other⟩⟩), .lit (.int .i64 p0.Role), .lit (.int .i64 p0.Version), .seq 1 (bytesD p0.Data)])) (g0 rfl) rfl rfl rfl ?_
      obtain ⟨x9, h10, h⟩ := bind_some h
      refine o_ca (fc_R30_May _ _ h10) (g0 rfl) rfl rfl rfl rfl rfl rfl rfl (.cons (.refl _) .nil) rfl rfl ?_
      refine o_s (.t (.d (.lit (.bool (!x9))))) (g0 rfl) rfl rfl rfl ?_
      refine o_nil ?_
      repeat (first | refine then_normal ?_ | refine then_exit ?_ | refine then_ret ?_ | refine block_normal ?_ | refine block_ret ?_ | refine block_exit ?_ | refine block_pass rfl ?_)
      rcases bif_some h with ⟨h11, h⟩ | ⟨h11, h⟩
      · refine c_t h11 rfl ?_
        refine c_seq ?_
        refine c_region ?_
        refine o_s (.t (.d (.lit (.int .i64 x7.2)))) (g0 rfl) rfl rfl rfl ?_
        refine o_s (.t (.d (.lit (.bool (x7.2 == 13))))) (g0 rfl) rfl rfl rfl ?_
        refine o_s (.t (.d (.lit (.bool (x7.2 == 13))))) (g0 rfl) rfl rfl rfl ?_
        rcases bif_some h with ⟨h12, h⟩ | ⟨h12, h⟩
        · refine o_s (.t (.d (.seq 1 (bytesD x7.1)))) (gy rfl rfl rfl h12) rfl rfl rfl ?_
          refine o_c (gy rfl rfl rfl h12) rfl rfl rfl (lenE _ _) trivial ?_
          refine o_s (.t (.d (.lit (.bool ((x7.1.length : Int) == 0))))) (gy rfl rfl rfl h12) rfl rfl rfl ?_
          refine o_pk (.t (.d (.lit (.bool ((x7.1.length : Int) == 0))))) (b := true) h12 (g0 rfl) rfl rfl rfl rfl rfl ?_
          refine o_s (.t (.d (.lit (.bool ((x7.1.length : Int) == 0))))) (g0 rfl) rfl rfl rfl ?_
          rcases bif_some h with ⟨h13, h⟩ | ⟨h13, h⟩
          · refine o_s (.t (.agg [.lit (.int .i64 p0.Kind), .lit (.string ⟨⟨p0.User⟩⟩), .lit (.string ⟨⟨p0.Folder⟩⟩), .lit (.string ⟨⟨p0.Name⟩⟩), .lit (.string ⟨⟨p0.Other⟩⟩), .lit (.int .i64 p0.Role), .lit (.int .i64 p0.Version), .seq 1 (bytesD p0.Data)])) (gy rfl rfl rfl h13) rfl rfl rfl ?_
            obtain ⟨x14, h15, h⟩ := bind_some h
            refine o_ca (fc_call_May _ _ h15) (gy rfl rfl rfl h13) rfl rfl rfl rfl rfl rfl rfl (.cons (.refl _) .nil) rfl rfl ?_
            refine o_s (.t (.d (.lit (.bool (!x14))))) (gy rfl rfl rfl h13) rfl rfl rfl ?_
            refine o_pk (.t (.d (.lit (.bool (!x14))))) (b := true) h13 (g0 rfl) rfl rfl rfl rfl rfl ?_
            refine o_s (.t (.d (.lit (.bool (!x14))))) (g0 rfl) rfl rfl rfl ?_
            refine o_nil ?_
            repeat (first | refine then_normal ?_ | refine then_exit ?_ | refine then_ret ?_ | refine block_normal ?_ | refine block_ret ?_ | refine block_exit ?_ | refine block_pass rfl ?_)
            refine c_ret ?_
            repeat (first | refine then_normal ?_ | refine then_exit ?_ | refine then_ret ?_ | refine block_normal ?_ | refine block_ret ?_ | refine block_exit ?_ | refine block_pass rfl ?_)
            obtain rfl := Option.some.inj h
            exact end0 rfl (.refl _)
          · refine o_skip rfl rfl rfl h13 rfl rfl ?_
            refine o_skip rfl rfl rfl h13 rfl rfl ?_
            refine o_skip rfl rfl rfl h13 rfl rfl ?_
            refine o_pk (.t (.d (.lit (.bool false)))) (b := false) h13 (g0 rfl) rfl rfl rfl rfl rfl ?_
            refine o_s (.t (.d (.lit (.bool false)))) (g0 rfl) rfl rfl rfl ?_
            refine o_nil ?_
            repeat (first | refine then_normal ?_ | refine then_exit ?_ | refine then_ret ?_ | refine block_normal ?_ | refine block_ret ?_ | refine block_exit ?_ | refine block_pass rfl ?_)
            refine c_ret ?_
            repeat (first | refine then_normal ?_ | refine then_exit ?_ | refine then_ret ?_ | refine block_normal ?_ | refine block_ret ?_ | refine block_exit ?_ | refine block_pass rfl ?_)
            obtain rfl := Option.some.inj h
            exact end0 rfl (.refl _)
        · refine o_skip rfl rfl rfl h12 rfl rfl ?_
          refine o_skip rfl rfl rfl h12 rfl rfl ?_
          refine o_skip rfl rfl rfl h12 rfl rfl ?_
          refine o_pk (.t (.d (.lit (.bool false)))) (b := false) h12 (g0 rfl) rfl rfl rfl rfl rfl ?_
          refine o_s (.t (.d (.lit (.bool false)))) (g0 rfl) rfl rfl rfl ?_
          refine o_skip rfl rfl rfl rfl rfl rfl ?_
          refine o_skip rfl rfl rfl rfl rfl rfl ?_
          refine o_skip rfl rfl rfl rfl rfl rfl ?_
          refine o_pk (.t (.d (.lit (.bool false)))) (b := false) rfl (g0 rfl) rfl rfl rfl rfl rfl ?_
          refine o_s (.t (.d (.lit (.bool false)))) (g0 rfl) rfl rfl rfl ?_
          refine o_nil ?_
          repeat (first | refine then_normal ?_ | refine then_exit ?_ | refine then_ret ?_ | refine block_normal ?_ | refine block_ret ?_ | refine block_exit ?_ | refine block_pass rfl ?_)
          refine c_ret ?_
          repeat (first | refine then_normal ?_ | refine then_exit ?_ | refine then_ret ?_ | refine block_normal ?_ | refine block_ret ?_ | refine block_exit ?_ | refine block_pass rfl ?_)
          obtain rfl := Option.some.inj h
          exact end0 rfl (.refl _)
      · refine c_f h11 rfl ?_
        refine c_skip ?_
        repeat (first | refine then_normal ?_ | refine then_exit ?_ | refine then_ret ?_ | refine block_normal ?_ | refine block_ret ?_ | refine block_exit ?_ | refine block_pass rfl ?_)
        refine c_seq ?_
        refine c_region ?_
        refine o_s (.t (.d (.seq 1 (bytesD x7.1)))) (g0 rfl) rfl rfl rfl ?_
        obtain ⟨x16, h17, h⟩ := bind_some h
        refine o_ca (fc_call_Read _ _ h17) (g0 rfl) rfl rfl rfl rfl rfl rfl rfl (.cons (.refl _) .nil) rfl rfl ?_
        refine o_s (.tup [.agg [.lit (.int .i64 x16.1.Kind), .lit (.string ⟨⟨x16.1.User⟩⟩), .lit (.string ⟨⟨x16.1.Folder⟩⟩), .lit (.string ⟨⟨x16.1.Name⟩⟩), .lit (.string ⟨⟨x16.1.Other⟩⟩), .lit (.int .i64 x16.1.Role), .lit (.int .i64 x16.1.Version), .seq 1 (bytesD x16.1.Data)], .d (.lit (.int .i64 x16.2))]) (g0 rfl) rfl rfl rfl ?_
        refine o_s (.t (.agg [.lit (.int .i64 x16.1.Kind), .lit (.string ⟨⟨x16.1.User⟩⟩), .lit (.string ⟨⟨x16.1.Folder⟩⟩), .lit (.string ⟨⟨x16.1.Name⟩⟩), .lit (.string ⟨⟨x16.1.Other⟩⟩), .lit (.int .i64 x16.1.Role), .lit (.int .i64 x16.1.Version), .seq 1 (bytesD x16.1.Data)])) (g0 rfl) rfl rfl rfl ?_
        refine o_s (.t (.d (.lit (.int .i64 x16.2)))) (g0 rfl) rfl rfl rfl ?_
        refine o_s (.box [.d (.lit (.int .i64 0)), .d (.lit (.string ⟨⟨[]⟩⟩)), .d (.lit (.string ⟨⟨[]⟩⟩)), .d (.lit (.string ⟨⟨[]⟩⟩)), .d (.lit (.string ⟨⟨[]⟩⟩)), .d (.lit (.int .i64 0)), .d (.lit (.int .i64 0)), .d (.lit (.slice none 0 0))]) (g0 rfl) rfl rfl rfl ?_
        refine o_st (.box [.d (.lit (.int .i64 x16.1.Kind)), .d (.lit (.string ⟨⟨x16.1.User⟩⟩)), .d (.lit (.string ⟨⟨x16.1.Folder⟩⟩)), .d (.lit (.string ⟨⟨x16.1.Name⟩⟩)), .d (.lit (.string ⟨⟨x16.1.Other⟩⟩)), .d (.lit (.int .i64 x16.1.Role)), .d (.lit (.int .i64 x16.1.Version)), .d (.seq 1 (bytesD x16.1.Data))]) (g0 rfl) rfl rfl rfl ?_
        refine o_s (.t (.d (.lit (.int .i64 x16.2)))) (g0 rfl) rfl rfl rfl ?_
        refine o_nil ?_
        repeat (first | refine then_normal ?_ | refine then_exit ?_ | refine then_ret ?_ | refine block_normal ?_ | refine block_ret ?_ | refine block_exit ?_ | refine block_pass rfl ?_)
        refine c_seq ?_
        refine c_region ?_
        refine o_s (.t (.agg [.lit (.int .i64 p0.Kind), .lit (.string ⟨⟨p0.User⟩⟩), .lit (.string ⟨⟨p0.Folder⟩⟩), .lit (.string ⟨⟨p0.Name⟩⟩), .lit (.string ⟨⟨p0.Other⟩⟩), .lit (.int .i64 p0.Role), .lit (.int .i64 p0.Version), .seq 1 (bytesD p0.Data)])) (g0 rfl) rfl rfl rfl ?_
        obtain ⟨x18, h19, h⟩ := bind_some h
        refine o_ca (fc_call_May _ _ h19) (g0 rfl) rfl rfl rfl rfl rfl rfl rfl (.cons (.refl _) .nil) rfl rfl ?_
        refine o_s (.t (.d (.lit (.bool x18)))) (g0 rfl) rfl rfl rfl ?_
        rcases bif_some h with ⟨h20, h⟩ | ⟨h20, h⟩
        · refine o_s (.t (.d (.lit (.int .i64 x7.2)))) (gy rfl rfl rfl h20) rfl rfl rfl ?_
          refine o_s (.t (.d (.lit (.bool (x7.2 == 0))))) (gy rfl rfl rfl h20) rfl rfl rfl ?_
          refine o_pk (.t (.d (.lit (.bool (x7.2 == 0))))) (b := true) h20 (g0 rfl) rfl rfl rfl rfl rfl ?_
          refine o_s (.t (.d (.lit (.bool (x7.2 == 0))))) (g0 rfl) rfl rfl rfl ?_
          rcases bif_some h with ⟨h21, h⟩ | ⟨h21, h⟩
          · refine o_s (.t (.d (.seq 1 (bytesD x7.1)))) (gy rfl rfl rfl h21) rfl rfl rfl ?_
            refine o_s (.t (.agg [.lit (.int .i64 p0.Kind), .lit (.string ⟨⟨p0.User⟩⟩), .lit (.string ⟨⟨p0.Folder⟩⟩), .lit (.string ⟨⟨p0.Name⟩⟩), .lit (.string ⟨⟨p0.Other⟩⟩), .lit (.int .i64 p0.Role), .lit (.int .i64 p0.Version), .seq 1 (bytesD p0.Data)])) (gy rfl rfl rfl h21) rfl rfl rfl ?_
            obtain ⟨x22, h23, h⟩ := bind_some h
            refine o_ca (fc_R30_Bytes _ _ h23) (gy rfl rfl rfl h21) rfl rfl rfl rfl rfl rfl rfl (.cons (.refl _) .nil) rfl rfl ?_
            obtain ⟨x24, h25, h⟩ := bind_some h
            refine o_ca (fc_R01_Same _ _ _ h25) (gy rfl rfl rfl h21) rfl rfl rfl rfl rfl rfl rfl (.cons (.refl _) (.cons (.refl _) .nil)) rfl rfl ?_
            refine o_pk (.t (.d (.lit (.bool x24)))) (b := true) h21 (g0 rfl) rfl rfl rfl rfl rfl ?_
            refine o_s (.t (.d (.lit (.bool x24)))) (g0 rfl) rfl rfl rfl ?_
            rcases bif_some h with ⟨h26, h⟩ | ⟨h26, h⟩
            · refine o_s (.t (.d (.lit (.int .i64 x16.2)))) (gy rfl rfl rfl h26) rfl rfl rfl ?_
              refine o_s (.t (.d (.lit (.bool (x16.2 == 0))))) (gy rfl rfl rfl h26) rfl rfl rfl ?_
              refine o_pk (.t (.d (.lit (.bool (x16.2 == 0))))) (b := true) h26 (g0 rfl) rfl rfl rfl rfl rfl ?_
              refine o_s (.t (.d (.lit (.bool (x16.2 == 0))))) (g0 rfl) rfl rfl rfl ?_
              rcases bif_some h with ⟨h27, h⟩ | ⟨h27, h⟩
              · refine o_s (.t (.agg [.lit (.int .i64 p0.Kind), .lit (.string ⟨⟨p0.User⟩⟩), .lit (.string ⟨⟨p0.Folder⟩⟩), .lit (.string ⟨⟨p0.Name⟩⟩), .lit (.string ⟨⟨p0.Other⟩⟩), .lit (.int .i64 p0.Role), .lit (.int .i64 p0.Version), .seq 1 (bytesD p0.Data)])) (gy rfl rfl rfl h27) rfl rfl rfl ?_
                refine o_s (.t (.agg [.lit (.int .i64 x16.1.Kind), .lit (.string ⟨⟨x16.1.User⟩⟩), .lit (.string ⟨⟨x16.1.Folder⟩⟩), .lit (.string ⟨⟨x16.1.Name⟩⟩), .lit (.string ⟨⟨x16.1.Other⟩⟩), .lit (.int .i64 x16.1.Role), .lit (.int .i64 x16.1.Version), .seq 1 (bytesD x16.1.Data)])) (gy rfl rfl rfl h27) rfl rfl rfl ?_
                obtain ⟨x28, h29, h⟩ := bind_some h
                refine o_ca (fc_R30_Same _ _ _ h29) (gy rfl rfl rfl h27) rfl rfl rfl rfl rfl rfl rfl (.cons (.refl _) (.cons (.refl _) .nil)) rfl rfl ?_
                refine o_pk (.t (.d (.lit (.bool x28)))) (b := true) h27 (g0 rfl) rfl rfl rfl rfl rfl ?_
                refine o_s (.t (.d (.lit (.bool x28)))) (g0 rfl) rfl rfl rfl ?_
                refine o_nil ?_
                repeat (first | refine then_normal ?_ | refine then_exit ?_ | refine then_ret ?_ | refine block_normal ?_ | refine block_ret ?_ | refine block_exit ?_ | refine block_pass rfl ?_)
                refine c_ret ?_
                repeat (first | refine then_normal ?_ | refine then_exit ?_ | refine then_ret ?_ | refine block_normal ?_ | refine block_ret ?_ | refine block_exit ?_ | refine block_pass rfl ?_)
                obtain rfl := Option.some.inj h
                exact end0 rfl (.refl _)
              · refine o_skip rfl rfl rfl h27 rfl rfl ?_
                refine o_skip rfl rfl rfl h27 rfl rfl ?_
                refine o_skip rfl rfl rfl h27 rfl rfl ?_
                refine o_pk (.t (.d (.lit (.bool false)))) (b := false) h27 (g0 rfl) rfl rfl rfl rfl rfl ?_
                refine o_s (.t (.d (.lit (.bool false)))) (g0 rfl) rfl rfl rfl ?_
                refine o_nil ?_
                repeat (first | refine then_normal ?_ | refine then_exit ?_ | refine then_ret ?_ | refine block_normal ?_ | refine block_ret ?_ | refine block_exit ?_ | refine block_pass rfl ?_)
                refine c_ret ?_
                repeat (first | refine then_normal ?_ | refine then_exit ?_ | refine then_ret ?_ | refine block_normal ?_ | refine block_ret ?_ | refine block_exit ?_ | refine block_pass rfl ?_)
                obtain rfl := Option.some.inj h
                exact end0 rfl (.refl _)
            · refine o_skip rfl rfl rfl h26 rfl rfl ?_
              refine o_skip rfl rfl rfl h26 rfl rfl ?_
              refine o_pk (.t (.d (.lit (.bool false)))) (b := false) h26 (g0 rfl) rfl rfl rfl rfl rfl ?_
              refine o_s (.t (.d (.lit (.bool false)))) (g0 rfl) rfl rfl rfl ?_
              refine o_skip rfl rfl rfl rfl rfl rfl ?_
              refine o_skip rfl rfl rfl rfl rfl rfl ?_
              refine o_skip rfl rfl rfl rfl rfl rfl ?_
              refine o_pk (.t (.d (.lit (.bool false)))) (b := false) rfl (g0 rfl) rfl rfl rfl rfl rfl ?_
              refine o_s (.t (.d (.lit (.bool false)))) (g0 rfl) rfl rfl rfl ?_
              refine o_nil ?_
              repeat (first | refine then_normal ?_ | refine then_exit ?_ | refine then_ret ?_ | refine block_normal ?_ | refine block_ret ?_ | refine block_exit ?_ | refine block_pass rfl ?_)
              refine c_ret ?_
              repeat (first | refine then_normal ?_ | refine then_exit ?_ | refine then_ret ?_ | refine block_normal ?_ | refine block_ret ?_ | refine block_exit ?_ | refine block_pass rfl ?_)
              obtain rfl := Option.some.inj h
              exact end0 rfl (.refl _)
          · refine o_skip rfl rfl rfl h21 rfl rfl ?_
            refine o_skip rfl rfl rfl h21 rfl rfl ?_
            refine o_skip rfl rfl rfl h21 rfl rfl ?_
            refine o_skip rfl rfl rfl h21 rfl rfl ?_
            refine o_pk (.t (.d (.lit (.bool false)))) (b := false) h21 (g0 rfl) rfl rfl rfl rfl rfl ?_
            refine o_s (.t (.d (.lit (.bool false)))) (g0 rfl) rfl rfl rfl ?_
            refine o_skip rfl rfl rfl rfl rfl rfl ?_
            refine o_skip rfl rfl rfl rfl rfl rfl ?_
            refine o_pk (.t (.d (.lit (.bool false)))) (b := false) rfl (g0 rfl) rfl rfl rfl rfl rfl ?_
            refine o_s (.t (.d (.lit (.bool false)))) (g0 rfl) rfl rfl rfl ?_
            refine o_skip rfl rfl rfl rfl rfl rfl ?_
            refine o_skip rfl rfl rfl rfl rfl rfl ?_
            refine o_skip rfl rfl rfl rfl rfl rfl ?_
            refine o_pk (.t (.d (.lit (.bool false)))) (b := false) rfl (g0 rfl) rfl rfl rfl rfl rfl ?_
            refine o_s (.t (.d (.lit (.bool false)))) (g0 rfl) rfl rfl rfl ?_
            refine o_nil ?_
            repeat (first | refine then_normal ?_ | refine then_exit ?_ | refine then_ret ?_ | refine block_normal ?_ | refine block_ret ?_ | refine block_exit ?_ | refine block_pass rfl ?_)
            refine c_ret ?_
            repeat (first | refine then_normal ?_ | refine then_exit ?_ | refine then_ret ?_ | refine block_normal ?_ | refine block_ret ?_ | refine block_exit ?_ | refine block_pass rfl ?_)
            obtain rfl := Option.some.inj h
            exact end0 rfl (.refl _)
        · refine o_skip rfl rfl rfl h20 rfl rfl ?_
          refine o_skip rfl rfl rfl h20 rfl rfl ?_
          refine o_pk (.t (.d (.lit (.bool false)))) (b := false) h20 (g0 rfl) rfl rfl rfl rfl rfl ?_
          refine o_s (.t (.d (.lit (.bool false)))) (g0 rfl) rfl rfl rfl ?_
          refine o_skip rfl rfl rfl rfl rfl rfl ?_
          refine o_skip rfl rfl rfl rfl rfl rfl ?_
          refine o_skip rfl rfl rfl rfl rfl rfl ?_
          refine o_skip rfl rfl rfl rfl rfl rfl ?_
          refine o_pk (.t (.d (.lit (.bool false)))) (b := false) rfl (g0 rfl) rfl rfl rfl rfl rfl ?_
          refine o_s (.t (.d (.lit (.bool false)))) (g0 rfl) rfl rfl rfl ?_
          refine o_skip rfl rfl rfl rfl rfl rfl ?_
          refine o_skip rfl rfl rfl rfl rfl rfl ?_
          refine o_pk (.t (.d (.lit (.bool false)))) (b := false) rfl (g0 rfl) rfl rfl rfl rfl rfl ?_
          refine o_s (.t (.d (.lit (.bool false)))) (g0 rfl) rfl rfl rfl ?_
          refine o_skip rfl rfl rfl rfl rfl rfl ?_
          refine o_skip rfl rfl rfl rfl rfl rfl ?_
          refine o_skip rfl rfl rfl rfl rfl rfl ?_
          refine o_pk (.t (.d (.lit (.bool false)))) (b := false) rfl (g0 rfl) rfl rfl rfl rfl rfl ?_
          refine o_s (.t (.d (.lit (.bool false)))) (g0 rfl) rfl rfl rfl ?_
          refine o_nil ?_
          repeat (first | refine then_normal ?_ | refine then_exit ?_ | refine then_ret ?_ | refine block_normal ?_ | refine block_ret ?_ | refine block_exit ?_ | refine block_pass rfl ?_)
          refine c_ret ?_
          repeat (first | refine then_normal ?_ | refine then_exit ?_ | refine then_ret ?_ | refine block_normal ?_ | refine block_ret ?_ | refine block_exit ?_ | refine block_pass rfl ?_)
          obtain rfl := Option.some.inj h
          exact end0 rfl (.refl _)

theorem fc_R30_Read (p0 : (List UInt8)) (r : (S_api_Call × Int)) (h : m_R30_Read p0 = some r) : FC Tryd.prog 25 [.t (.d (.seq 1 (bytesD p0)))] [] (.tup [.agg [.lit (.int .i64 r.1.Kind), .lit (.string ⟨⟨r.1.User⟩⟩), .lit (.string ⟨⟨r.1.Folder⟩⟩), .lit (.string ⟨⟨r.1.Name⟩⟩), .lit (.string ⟨⟨r.1.Other⟩⟩), .lit (.int .i64 r.1.Role), .lit (.int .i64 r.1.Version), .seq 1 (bytesD r.1.Data)], .d (.lit (.int .i64 r.2))]) := by
  refine fc_mk (rs := [.cell 2 24, .tmp 3]) (n := 66) Tryd.func25 rfl rfl (Nat.le_of_ble_eq_true rfl) rfl (pins := []) rfl (L := [(0, .t (.d (.seq 1 (bytesD p0))))]) rfl ?_
  refine c_seq ?_
  refine c_region ?_
  refine o_s (.box [.d (.lit (.int .i64 0)), .d (.lit (.string ⟨⟨[]⟩⟩)), .d (.lit (.string ⟨⟨[]⟩⟩)), .d (.lit (.string ⟨⟨[]⟩⟩)), .d (.lit (.string ⟨⟨[]⟩⟩)), .d (.lit (.int .i64 0)), .d (.lit (.int .i64 0)), .d (.lit (.slice none 0 0))]) (g0 rfl) rfl rfl rfl ?_
  refine o_s (.t (.d (.lit (.int .i64 0)))) (g0 rfl) rfl rfl rfl ?_
  refine o_nil ?_
  repeat (first | refine then_normal ?_ | refine then_exit ?_ | refine then_ret ?_ | refine block_normal ?_ | refine block_ret ?_ | refine block_exit ?_ | refine block_pass rfl ?_)
  refine c_seq ?_
  refine c_region ?_
  refine o_s (.t (.d (.seq 1 (bytesD p0)))) (g0 rfl) rfl rfl rfl ?_
  obtain ⟨x1, h2, h⟩ := bind_some h
  refine o_ca (fc_R02_Decode _ _ h2) (g0 rfl) rfl rfl rfl rfl rfl rfl rfl (.cons (.refl _) .nil) rfl rfl ?_
  refine o_s (.tup [.agg [.lit (.int .i64 x1.1.k), .lit (.int .i64 x1.1.n), .seq 1 (bytesD x1.1.b), .seq 4 (List.map V.cells x1.1.l)], .d (.lit (.int .i64 x1.2))]) (g0 rfl) rfl rfl rfl ?_
  refine o_s (.t (.agg [.lit (.int .i64 x1.1.k), .lit (.int .i64 x1.1.n), .seq 1 (bytesD x1.1.b), .seq 4 (List.map V.cells x1.1.l)])) (g0 rfl) rfl rfl rfl ?_
  refine o_s (.t (.d (.lit (.int .i64 x1.2)))) (g0 rfl) rfl rfl rfl ?_
  refine o_s (.box [.d (.lit (.int .i64 0)), .d (.lit (.int .i64 0)), .d (.lit (.slice none 0 0)), .d (.lit (.slice none 0 0))]) (g0 rfl) rfl rfl rfl ?_
  refine o_st (.box [.d (.lit (.int .i64 x1.1.k)), .d (.lit (.int .i64 x1.1.n)), .d (.seq 1 (bytesD x1.1.b)), .d (.seq 4 (List.map V.cells x1.1.l))]) (g0 rfl) rfl rfl rfl ?_
  refine o_s (.t (.d (.lit (.int .i64 x1.2)))) (g0 rfl) rfl rfl rfl ?_
  refine o_nil ?_
  repeat (first | refine then_normal ?_ | refine then_exit ?_ | refine then_ret ?_ | refine block_normal ?_ | refine block_ret ?_ | refine block_exit ?_ | refine block_pass rfl ?_)
  refine c_seq ?_
  refine c_seq ?_
  refine c_region ?_
  refine o_s (.t (.d (.lit (.int .i64 x1.2)))) (g0 rfl) rfl rfl rfl ?_
  refine o_s (.t (.d (.lit (.bool (x1.2 != 0))))) (g0 rfl) rfl rfl rfl ?_
  refine o_s (.t (.d (.lit (.bool (x1.2 != 0))))) (g0 rfl) rfl rfl rfl ?_
  rcases bif_some h with ⟨h3, h⟩ | ⟨h3, h⟩
  · refine o_skip rfl rfl rfl h3 rfl rfl ?_
    refine o_skip rfl rfl rfl h3 rfl rfl ?_
    refine o_skip rfl rfl rfl h3 rfl rfl ?_
    refine o_skip rfl rfl rfl h3 rfl rfl ?_
    refine o_pk (.t (.d (.lit (.bool true)))) (b := true) h3 (g0 rfl) rfl rfl rfl rfl rfl ?_
    refine o_nil ?_
    repeat (first | refine then_normal ?_ | refine then_exit ?_ | refine then_ret ?_ | refine block_normal ?_ | refine block_ret ?_ | refine block_exit ?_ | refine block_pass rfl ?_)
    refine c_t rfl rfl ?_
    refine c_seq ?_
    refine c_region ?_
    refine o_s (.t (.agg [.lit (.int .i64 0), .lit (.string ⟨⟨[]⟩⟩), .lit (.string ⟨⟨[]⟩⟩), .lit (.string ⟨⟨[]⟩⟩), .lit (.string ⟨⟨[]⟩⟩), .lit (.int .i64 0), .lit (.int .i64 0), .lit (.slice none 0 0)])) (g0 rfl) rfl rfl rfl ?_
    refine o_st (.box [.d (.lit (.int .i64 0)), .d (.lit (.string ⟨⟨[]⟩⟩)), .d (.lit (.string ⟨⟨[]⟩⟩)), .d (.lit (.string ⟨⟨[]⟩⟩)), .d (.lit (.string ⟨⟨[]⟩⟩)), .d (.lit (.int .i64 0)), .d (.lit (.int .i64 0)), .d (.lit (.slice none 0 0))]) (g0 rfl) rfl rfl rfl ?_
    refine o_s (.t (.d (.lit (.int .i64 13)))) (g0 rfl) rfl rfl rfl ?_
    refine o_nil ?_
    repeat (first | refine then_normal ?_ | refine then_exit ?_ | refine then_ret ?_ | refine block_normal ?_ | refine block_ret ?_ | refine block_exit ?_ | refine block_pass rfl ?_)
    refine c_ret ?_
    repeat (first | refine then_normal ?_ | refine then_exit ?_ | refine then_ret ?_ | refine block_normal ?_ | refine block_ret ?_ | refine block_exit ?_ | refine block_pass rfl ?_)
    obtain rfl := Option.some.inj h
    exact end0 rfl (.tup (.cons (.agg (.cons (.refl _) (.cons (.refl _) (.cons (.refl _) (.cons (.refl _) (.cons (.refl _) (.cons (.refl _) (.cons (.refl _) (.cons (.nil _) .nil))))))))) (.cons (.refl _) .nil)))
  · refine o_s (.t (.agg [.lit (.int .i64 x1.1.k), .lit (.int .i64 x1.1.n), .seq 1 (bytesD x1.1.b), .seq 4 (List.map V.cells x1.1.l)])) (gy rfl rfl rfl h3) rfl rfl rfl ?_
    refine o_s (.t (.own 3 1 (List.map cI64 [1, 2, 2, 2, 2, 1, 1, 2]))) (gy rfl rfl rfl h3) rfl rfl rfl ?_
    obtain ⟨x4, h5, h⟩ := bind_some h
    refine o_ca (fc_R28_Kinds _ _ _ h5) (gy rfl rfl rfl h3) rfl rfl rfl rfl rfl rfl rfl (.cons (.refl _) (.cons (.refl _) .nil)) rfl rfl ?_
    refine o_s (.t (.d (.lit (.bool (!x4))))) (gy rfl rfl rfl h3) rfl rfl rfl ?_
    refine o_pk (.t (.d (.lit (.bool (!x4))))) (b := false) h3 (g0 rfl) rfl rfl rfl rfl rfl ?_
    refine o_nil ?_
    repeat (first | refine then_normal ?_ | refine then_exit ?_ | refine then_ret ?_ | refine block_normal ?_ | refine block_ret ?_ | refine block_exit ?_ | refine block_pass rfl ?_)
    rcases bif_some h with ⟨h6, h⟩ | ⟨h6, h⟩
    · refine c_t h6 rfl ?_
      refine c_seq ?_
      refine c_region ?_
      refine o_s (.t (.agg [.lit (.int .i64 0), .lit (.string ⟨⟨[]⟩⟩), .lit (.string ⟨⟨[]⟩⟩), .lit (.string ⟨⟨[]⟩⟩), .lit (.string ⟨⟨[]⟩⟩), .lit (.int .i64 0), .lit (.int .i64 0), .lit (.slice none 0 0)])) (g0 rfl) rfl rfl rfl ?_
      refine o_st (.box [.d (.lit (.int .i64 0)), .d (.lit (.string ⟨⟨[]⟩⟩)), .d (.lit (.string ⟨⟨[]⟩⟩)), .d (.lit (.string ⟨⟨[]⟩⟩)), .d (.lit (.string ⟨⟨[]⟩⟩)), .d (.lit (.int .i64 0)), .d (.lit (.int .i64 0)), .d (.lit (.slice none 0 0))]) (g0 rfl) rfl rfl rfl ?_
      refine o_s (.t (.d (.lit (.int .i64 13)))) (g0 rfl) rfl rfl rfl ?_
      refine o_nil ?_
      repeat (first | refine then_normal ?_ | refine then_exit ?_ | refine then_ret ?_ | refine block_normal ?_ | refine block_ret ?_ | refine block_exit ?_ | refine block_pass rfl ?_)
      refine c_ret ?_
      repeat (first | refine then_normal ?_ | refine then_exit ?_ | refine then_ret ?_ | refine block_normal ?_ | refine block_ret ?_ | refine block_exit ?_ | refine block_pass rfl ?_)
      obtain rfl := Option.some.inj h
      exact end0 rfl (.tup (.cons (.agg (.cons (.refl _) (.cons (.refl _) (.cons (.refl _) (.cons (.refl _) (.cons (.refl _) (.cons (.refl _) (.cons (.refl _) (.cons (.nil _) .nil))))))))) (.cons (.refl _) .nil)))
    · refine c_f h6 rfl ?_
      refine c_skip ?_
      repeat (first | refine then_normal ?_ | refine then_exit ?_ | refine then_ret ?_ | refine block_normal ?_ | refine block_ret ?_ | refine block_exit ?_ | refine block_pass rfl ?_)
      refine c_seq ?_
      refine c_region ?_
      refine o_s (.ref 4 3) (g0 rfl) rfl rfl rfl ?_
      refine o_s (.t (.d (.seq 4 (List.map V.cells x1.1.l)))) (g0 rfl) rfl rfl rfl ?_
      refine o_s (.t (.d (.seq 4 (List.map V.cells x1.1.l)))) (g0 rfl) rfl rfl rfl ?_
      refine o_nil ?_
      repeat (first | refine then_normal ?_ | refine then_exit ?_ | refine then_ret ?_ | refine block_normal ?_ | refine block_ret ?_ | refine block_exit ?_ | refine block_pass rfl ?_)
      refine c_seq ?_
      refine c_draw mixed (by kernel_rfl) ?_
      refine d_s (.t (.d (.seq 4 (List.map V.cells x1.1.l)))) rfl (dg0 rfl) rfl rfl rfl rfl ?_
      obtain ⟨x7, h8, h⟩ := bind_some h
      refine d_c rfl (dg0 rfl) rfl rfl rfl rfl (idxE' V.cells_eq h8) (idxC h8) ?_
      refine d_s (.imm [.lit (.int .i64 x7.n), .seq 1 (bytesD x7.b), .seq 4 (List.map V.cells x7.l)]) rfl (dg0 rfl) rfl rfl rfl rfl ?_
      refine d_s (.t (.d (.lit (.int .i64 x7.n)))) rfl (dg0 rfl) rfl rfl rfl rfl ?_
      refine d_s (.t (.d (.seq 4 (List.map V.cells x1.1.l)))) rfl (dg0 rfl) rfl rfl rfl rfl ?_
      obtain ⟨x9, h10, h⟩ := bind_some h
      refine d_c rfl (dg0 rfl) rfl rfl rfl rfl (idxE' V.cells_eq h10) (idxC h10) ?_
      refine d_s (.imm [.seq 1 (bytesD x9.b), .seq 4 (List.map V.cells x9.l)]) rfl (dg0 rfl) rfl rfl rfl rfl ?_
      refine d_s (.t (.d (.seq 1 (bytesD x9.b)))) rfl (dg0 rfl) rfl rfl rfl rfl ?_
      refine d_c rfl (dg0 rfl) rfl rfl rfl rfl (strE _) (isB_bytes _) ?_
      refine d_s (.t (.d (.seq 4 (List.map V.cells x1.1.l)))) rfl (dg0 rfl) rfl rfl rfl rfl ?_
      obtain ⟨x11, h12, h⟩ := bind_some h
      refine d_c rfl (dg0 rfl) rfl rfl rfl rfl (idxE' V.cells_eq h12) (idxC h12) ?_
      refine d_s (.imm [.seq 1 (bytesD x11.b), .seq 4 (List.map V.cells x11.l)]) rfl (dg0 rfl) rfl rfl rfl rfl ?_
      refine d_s (.t (.d (.seq 1 (bytesD x11.b)))) rfl (dg0 rfl) rfl rfl rfl rfl ?_
      refine d_c rfl (dg0 rfl) rfl rfl rfl rfl (strE _) (isB_bytes _) ?_
      refine d_s (.t (.d (.seq 4 (List.map V.cells x1.1.l)))) rfl (dg0 rfl) rfl rfl rfl rfl ?_
      obtain ⟨x13, h14, h⟩ := bind_some h
      refine d_c rfl (dg0 rfl) rfl rfl rfl rfl (idxE' V.cells_eq h14) (idxC h14) ?_
      refine d_s (.imm [.seq 1 (bytesD x13.b), .seq 4 (List.map V.cells x13.l)]) rfl (dg0 rfl) rfl rfl rfl rfl ?_
      refine d_s (.t (.d (.seq 1 (bytesD x13.b)))) rfl (dg0 rfl) rfl rfl rfl rfl ?_
      refine d_c rfl (dg0 rfl) rfl rfl rfl rfl (strE _) (isB_bytes _) ?_
      refine d_s (.t (.d (.seq 4 (List.map V.cells x1.1.l)))) rfl (dg0 rfl) rfl rfl rfl rfl ?_
      obtain ⟨x15, h16, h⟩ := bind_some h
      refine d_c rfl (dg0 rfl) rfl rfl rfl rfl (idxE' V.cells_eq h16) (idxC h16) ?_
      refine d_s (.imm [.seq 1 (bytesD x15.b), .seq 4 (List.map V.cells x15.l)]) rfl (dg0 rfl) rfl rfl rfl rfl ?_
      refine d_s (.t (.d (.seq 1 (bytesD x15.b)))) rfl (dg0 rfl) rfl rfl rfl rfl ?_
      refine d_c rfl (dg0 rfl) rfl rfl rfl rfl (strE _) (isB_bytes _) ?_
      refine d_s (.t (.d (.seq 4 (List.map V.cells x1.1.l)))) rfl (dg0 rfl) rfl rfl rfl rfl ?_
      obtain ⟨x17, h18, h⟩ := bind_some h
      refine d_c rfl (dg0 rfl) rfl rfl rfl rfl (idxE' V.cells_eq h18) (idxC h18) ?_
      refine d_s (.imm [.lit (.int .i64 x17.n), .seq 1 (bytesD x17.b), .seq 4 (List.map V.cells x17.l)]) rfl (dg0 rfl) rfl rfl rfl rfl ?_
      refine d_s (.t (.d (.lit (.int .i64 x17.n)))) rfl (dg0 rfl) rfl rfl rfl rfl ?_
      refine d_s (.t (.d (.seq 4 (List.map V.cells x1.1.l)))) rfl (dg0 rfl) rfl rfl rfl rfl ?_
      obtain ⟨x19, h20, h⟩ := bind_some h
      refine d_c rfl (dg0 rfl) rfl rfl rfl rfl (idxE' V.cells_eq h20) (idxC h20) ?_
      refine d_s (.imm [.lit (.int .i64 x19.n), .seq 1 (bytesD x19.b), .seq 4 (List.map V.cells x19.l)]) rfl (dg0 rfl) rfl rfl rfl rfl ?_
      refine d_s (.t (.d (.lit (.int .i64 x19.n)))) rfl (dg0 rfl) rfl rfl rfl rfl ?_
      refine d_s (.t (.d (.seq 4 (List.map V.cells x1.1.l)))) rfl (dg0 rfl) rfl rfl rfl rfl ?_
      obtain ⟨x21, h22, h⟩ := bind_some h
      refine d_c rfl (dg0 rfl) rfl rfl rfl rfl (idxE' V.cells_eq h22) (idxC h22) ?_
      refine d_s (.imm [.seq 1 (bytesD x21.b), .seq 4 (List.map V.cells x21.l)]) rfl (dg0 rfl) rfl rfl rfl rfl ?_
      refine d_s (.t (.d (.seq 1 (bytesD x21.b)))) rfl (dg0 rfl) rfl rfl rfl rfl ?_
      refine d_s (.t (.agg [.lit (.int .i64 x7.n), .lit (.string ⟨⟨x9.b⟩⟩), .lit (.string ⟨⟨x11.b⟩⟩), .lit (.string ⟨⟨x13.b⟩⟩), .lit (.string ⟨⟨x15.b⟩⟩), .lit (.int .i64 x17.n), .lit (.int .i64 x19.n), .seq 1 (bytesD x21.b)])) rfl (dg0 rfl) rfl rfl rfl rfl ?_
      refine d_s (.box [.d (.lit (.int .i64 0)), .d (.lit (.string ⟨⟨[]⟩⟩)), .d (.lit (.string ⟨⟨[]⟩⟩)), .d (.lit (.string ⟨⟨[]⟩⟩)), .d (.lit (.string ⟨⟨[]⟩⟩)), .d (.lit (.int .i64 0)), .d (.lit (.int .i64 0)), .d (.lit (.slice none 0 0))]) rfl (dg0 rfl) rfl rfl rfl rfl ?_
      refine d_st (.box [.d (.lit (.int .i64 x7.n)), .d (.lit (.string ⟨⟨x9.b⟩⟩)), .d (.lit (.string ⟨⟨x11.b⟩⟩)), .d (.lit (.string ⟨⟨x13.b⟩⟩)), .d (.lit (.string ⟨⟨x15.b⟩⟩)), .d (.lit (.int .i64 x17.n)), .d (.lit (.int .i64 x19.n)), .d (.seq 1 (bytesD x21.b))]) rfl (dg0 rfl) rfl rfl rfl rfl ?_
      refine d_nil (by kernel_rfl) ?_
      repeat (first | refine then_normal ?_ | refine then_exit ?_ | refine then_ret ?_ | refine block_normal ?_ | refine block_ret ?_ | refine block_exit ?_ | refine block_pass rfl ?_)
      refine c_seq ?_
      refine c_seq ?_
      refine c_region ?_
      refine o_s (.t (.agg [.lit (.int .i64 x7.n), .lit (.string ⟨⟨x9.b⟩⟩), .lit (.string ⟨⟨x11.b⟩⟩), .lit (.string ⟨⟨x13.b⟩⟩), .lit (.string ⟨⟨x15.b⟩⟩), .lit (.int .i64 x17.n), .lit (.int .i64 x19.n), .seq 1 (bytesD x21.b)])) (g0 rfl) rfl rfl rfl ?_
      obtain ⟨x23, h24, h⟩ := bind_some h
      refine o_ca (fc_R30_May _ _ h24) (g0 rfl) rfl rfl rfl rfl rfl rfl rfl (.cons (.refl _) .nil) rfl rfl ?_
      refine o_s (.t (.d (.lit (.bool (!x23))))) (g0 rfl) rfl rfl rfl ?_
      refine o_nil ?_
      repeat (first | refine then_normal ?_ | refine then_exit ?_ | refine then_ret ?_ | refine block_normal ?_ | refine block_ret ?_ | refine block_exit ?_ | refine block_pass rfl ?_)
      rcases bif_some h with ⟨h25, h⟩ | ⟨h25, h⟩
      · refine c_t h25 rfl ?_
        refine c_seq ?_
        refine c_region ?_
        refine o_s (.t (.agg [.lit (.int .i64 0), .lit (.string ⟨⟨[]⟩⟩), .lit (.string ⟨⟨[]⟩⟩), .lit (.string ⟨⟨[]⟩⟩), .lit (.string ⟨⟨[]⟩⟩), .lit (.int .i64 0), .lit (.int .i64 0), .lit (.slice none 0 0)])) (g0 rfl) rfl rfl rfl ?_
        refine o_st (.box [.d (.lit (.int .i64 0)), .d (.lit (.string ⟨⟨[]⟩⟩)), .d (.lit (.string ⟨⟨[]⟩⟩)), .d (.lit (.string ⟨⟨[]⟩⟩)), .d (.lit (.string ⟨⟨[]⟩⟩)), .d (.lit (.int .i64 0)), .d (.lit (.int .i64 0)), .d (.lit (.slice none 0 0))]) (g0 rfl) rfl rfl rfl ?_
        refine o_s (.t (.d (.lit (.int .i64 13)))) (g0 rfl) rfl rfl rfl ?_
        refine o_nil ?_
        repeat (first | refine then_normal ?_ | refine then_exit ?_ | refine then_ret ?_ | refine block_normal ?_ | refine block_ret ?_ | refine block_exit ?_ | refine block_pass rfl ?_)
        refine c_ret ?_
        repeat (first | refine then_normal ?_ | refine then_exit ?_ | refine then_ret ?_ | refine block_normal ?_ | refine block_ret ?_ | refine block_exit ?_ | refine block_pass rfl ?_)
        obtain rfl := Option.some.inj h
        exact end0 rfl (.tup (.cons (.agg (.cons (.refl _) (.cons (.refl _) (.cons (.refl _) (.cons (.refl _) (.cons (.refl _) (.cons (.refl _) (.cons (.refl _) (.cons (.nil _) .nil))))))))) (.cons (.refl _) .nil)))
      · refine c_f h25 rfl ?_
        refine c_skip ?_
        repeat (first | refine then_normal ?_ | refine then_exit ?_ | refine then_ret ?_ | refine block_normal ?_ | refine block_ret ?_ | refine block_exit ?_ | refine block_pass rfl ?_)
        refine c_seq ?_
        refine c_region ?_
        refine o_s (.t (.agg [.lit (.int .i64 x7.n), .lit (.string ⟨⟨x9.b⟩⟩), .lit (.string ⟨⟨x11.b⟩⟩), .lit (.string ⟨⟨x13.b⟩⟩), .lit (.string ⟨⟨x15.b⟩⟩), .lit (.int .i64 x17.n), .lit (.int .i64 x19.n), .seq 1 (bytesD x21.b)])) (g0 rfl) rfl rfl rfl ?_
        refine o_st (.box [.d (.lit (.int .i64 x7.n)), .d (.lit (.string ⟨⟨x9.b⟩⟩)), .d (.lit (.string ⟨⟨x11.b⟩⟩)), .d (.lit (.string ⟨⟨x13.b⟩⟩)), .d (.lit (.string ⟨⟨x15.b⟩⟩)), .d (.lit (.int .i64 x17.n)), .d (.lit (.int .i64 x19.n)), .d (.seq 1 (bytesD x21.b))]) (g0 rfl) rfl rfl rfl ?_
        refine o_s (.t (.d (.lit (.int .i64 0)))) (g0 rfl) rfl rfl rfl ?_
        refine o_nil ?_
        repeat (first | refine then_normal ?_ | refine then_exit ?_ | refine then_ret ?_ | refine block_normal ?_ | refine block_ret ?_ | refine block_exit ?_ | refine block_pass rfl ?_)
        refine c_ret ?_
        repeat (first | refine then_normal ?_ | refine then_exit ?_ | refine then_ret ?_ | refine block_normal ?_ | refine block_ret ?_ | refine block_exit ?_ | refine block_pass rfl ?_)
        obtain rfl := Option.some.inj h
        exact end0 rfl (.tup (.cons (.refl _) (.cons (.refl _) .nil)))

theorem fc_L30_CallReads (p0 : (List UInt8)) (r : Bool) (h : m_L30_CallReads p0 = some r) : FC Tryd.prog 6 [.t (.d (.seq 1 (bytesD p0)))] [] (.t (.d (.lit (.bool r)))) := by
  refine fc_mk (rs := [.tmp 2]) (n := 49) Tryd.func6 rfl rfl (Nat.le_of_ble_eq_true rfl) rfl (pins := []) rfl (L := [(0, .t (.d (.seq 1 (bytesD p0))))]) rfl ?_
  refine c_seq ?_
  refine c_region ?_
  refine o_s (.t (.d (.lit (.bool false)))) (g0 rfl) rfl rfl rfl ?_
  refine o_nil ?_
  repeat (first | refine then_normal ?_ | refine then_exit ?_ | refine then_ret ?_ | refine block_normal ?_ | refine block_ret ?_ | refine block_exit ?_ | refine block_pass rfl ?_)
  refine c_seq ?_
  refine c_seq ?_
  refine c_region ?_
  obtain ⟨x1, h2, h⟩ := bind_some h
  refine o_ca (fc_L30_awake _ h2) (g0 rfl) rfl rfl rfl rfl rfl rfl rfl .nil rfl rfl ?_
  refine o_s (.t (.d (.lit (.bool (!x1))))) (g0 rfl) rfl rfl rfl ?_
  refine o_nil ?_
  repeat (first | refine then_normal ?_ | refine then_exit ?_ | refine then_ret ?_ | refine block_normal ?_ | refine block_ret ?_ | refine block_exit ?_ | refine block_pass rfl ?_)
  rcases bif_some h with ⟨h3, h⟩ | ⟨h3, h⟩
  · refine c_t h3 rfl ?_
    refine c_seq ?_
    refine c_region ?_
    refine o_s (.t (.d (.lit (.bool false)))) (g0 rfl) rfl rfl rfl ?_
    refine o_nil ?_
    repeat (first | refine then_normal ?_ | refine then_exit ?_ | refine then_ret ?_ | refine block_normal ?_ | refine block_ret ?_ | refine block_exit ?_ | refine block_pass rfl ?_)
    refine c_ret ?_
    repeat (first | refine then_normal ?_ | refine then_exit ?_ | refine then_ret ?_ | refine block_normal ?_ | refine block_ret ?_ | refine block_exit ?_ | refine block_pass rfl ?_)
    obtain rfl := Option.some.inj h
    exact end0 rfl (.refl _)
  · refine c_f h3 rfl ?_
    refine c_skip ?_
    repeat (first | refine then_normal ?_ | refine then_exit ?_ | refine then_ret ?_ | refine block_normal ?_ | refine block_ret ?_ | refine block_exit ?_ | refine block_pass rfl ?_)
    refine c_seq ?_
    refine c_seq ?_
    refine c_region ?_
    refine o_s (.t (.d (.seq 1 (bytesD p0)))) (g0 rfl) rfl rfl rfl ?_
    refine o_c (g0 rfl) rfl rfl rfl (lenE _ _) trivial ?_
    refine o_s (.t (.d (.lit (.bool (decide ((p0.length : Int) > 2000)))))) (g0 rfl) rfl rfl rfl ?_
    refine o_nil ?_
    repeat (first | refine then_normal ?_ | refine then_exit ?_ | refine then_ret ?_ | refine block_normal ?_ | refine block_ret ?_ | refine block_exit ?_ | refine block_pass rfl ?_)
    rcases bif_some h with ⟨h4, h⟩ | ⟨h4, h⟩
    · refine c_t h4 rfl ?_
      refine c_seq ?_
      refine c_region ?_
      refine o_s (.t (.d (.lit (.bool true)))) (g0 rfl) rfl rfl rfl ?_
      refine o_nil ?_
      repeat (first | refine then_normal ?_ | refine then_exit ?_ | refine then_ret ?_ | refine block_normal ?_ | refine block_ret ?_ | refine block_exit ?_ | refine block_pass rfl ?_)
      refine c_ret ?_
      repeat (first | refine then_normal ?_ | refine then_exit ?_ | refine then_ret ?_ | refine block_normal ?_ | refine block_ret ?_ | refine block_exit ?_ | refine block_pass rfl ?_)
      obtain rfl := Option.some.inj h
      exact end0 rfl (.refl _)
    · refine c_f h4 rfl ?_
      refine c_skip ?_
      repeat (first | refine then_normal ?_ | refine then_exit ?_ | refine then_ret ?_ | refine block_normal ?_ | refine block_ret ?_ | refine block_exit ?_ | refine block_pass rfl ?_)
      refine c_seq ?_
      refine c_region ?_
      refine o_s (.t (.d (.seq 1 (bytesD p0)))) (g0 rfl) rfl rfl rfl ?_
      obtain ⟨x5, h6, h⟩ := bind_some h
      refine o_ca (fc_call_Read _ _ h6) (g0 rfl) rfl rfl rfl rfl rfl rfl rfl (.cons (.refl _) .nil) rfl rfl ?_
      refine o_s (.tup [.agg [.lit (.int .i64 x5.1.Kind), .lit (.string ⟨⟨x5.1.User⟩⟩), .lit (.string ⟨⟨x5.1.Folder⟩⟩), .lit (.string ⟨⟨x5.1.Name⟩⟩), .lit (.string ⟨⟨x5.1.Other⟩⟩), .lit (.int .i64 x5.1.Role), .lit (.int .i64 x5.1.Version), .seq 1 (bytesD x5.1.Data)], .d (.lit (.int .i64 x5.2))]) (g0 rfl) rfl rfl rfl ?_
      refine o_s (.t (.agg [.lit (.int .i64 x5.1.Kind), .lit (.string ⟨⟨x5.1.User⟩⟩), .lit (.string ⟨⟨x5.1.Folder⟩⟩), .lit (.string ⟨⟨x5.1.Name⟩⟩), .lit (.string ⟨⟨x5.1.Other⟩⟩), .lit (.int .i64 x5.1.Role), .lit (.int .i64 x5.1.Version), .seq 1 (bytesD x5.1.Data)])) (g0 rfl) rfl rfl rfl ?_
      refine o_s (.t (.d (.lit (.int .i64 x5.2)))) (g0 rfl) rfl rfl rfl ?_
      refine o_s (.box [.d (.lit (.int .i64 0)), .d (.lit (.string ⟨⟨[]⟩⟩)), .d (.lit (.string ⟨⟨[]⟩⟩)), .d (.lit (.string ⟨⟨[]⟩⟩)), .d (.lit (.string ⟨⟨[]⟩⟩)), .d (.lit (.int .i64 0)), .d (.lit (.int .i64 0)), .d (.lit (.slice none 0 0))]) (g0 rfl) rfl rfl rfl ?_
      refine o_st (.box [.d (.lit (.int .i64 x5.1.Kind)), .d (.lit (.string ⟨⟨x5.1.User⟩⟩)), .d (.lit (.string ⟨⟨x5.1.Folder⟩⟩)), .d (.lit (.string ⟨⟨x5.1.Name⟩⟩)), .d (.lit (.string ⟨⟨x5.1.Other⟩⟩)), .d (.lit (.int .i64 x5.1.Role)), .d (.lit (.int .i64 x5.1.Version)), .d (.seq 1 (bytesD x5.1.Data))]) (g0 rfl) rfl rfl rfl ?_
      refine o_s (.t (.d (.lit (.int .i64 x5.2)))) (g0 rfl) rfl rfl rfl ?_
      refine o_nil ?_
      repeat (first | refine then_normal ?_ | refine then_exit ?_ | refine then_ret ?_ | refine block_normal ?_ | refine block_ret ?_ | refine block_exit ?_ | refine block_pass rfl ?_)
      refine c_seq ?_
      refine c_region ?_
      refine o_s (.t (.d (.seq 1 (bytesD p0)))) (g0 rfl) rfl rfl rfl ?_
      obtain ⟨x7, h8, h⟩ := bind_some h
      refine o_ca (fc_R30_Read _ _ h8) (g0 rfl) rfl rfl rfl rfl rfl rfl rfl (.cons (.refl _) .nil) rfl rfl ?_
      refine o_s (.tup [.agg [.lit (.int .i64 x7.1.Kind), .lit (.string ⟨⟨x7.1.User⟩⟩), .lit (.string ⟨⟨x7.1.Folder⟩⟩), .lit (.string ⟨⟨x7.1.Name⟩⟩), .lit (.string ⟨⟨x7.1.Other⟩⟩), .lit (.int .i64 x7.1.Role), .lit (.int .i64 x7.1.Version), .seq 1 (bytesD x7.1.Data)], .d (.lit (.int .i64 x7.2))]) (g0 rfl) rfl rfl rfl ?_
      refine o_s (.t (.agg [.lit (.int .i64 x7.1.Kind), .lit (.string ⟨⟨x7.1.User⟩⟩), .lit (.string ⟨⟨x7.1.Folder⟩⟩), .lit (.string ⟨⟨x7.1.Name⟩⟩), .lit (.string ⟨⟨x7.1.Other⟩⟩), .lit (.int .i64 x7.1.Role), .lit (.int .i64 x7.1.Version), .seq 1 (bytesD x7.1.Data)])) (g0 rfl) rfl rfl rfl ?_
      refine o_s (.t (.d (.lit (.int .i64 x7.2)))) (g0 rfl) rfl rfl rfl ?_
      refine o_s (.box [.d (.lit (.int .i64 0)), .d (.lit (.string ⟨⟨[]⟩⟩)), .d (.lit (.string ⟨⟨[]⟩⟩)), .d (.lit (.string ⟨⟨[]⟩⟩)), .d (.lit (.string ⟨⟨[]⟩⟩)), .d (.lit (.int .i64 0)), .d (.lit (.int .i64 0)), .d (.lit (.slice none 0 0))]) (g0 rfl) rfl rfl rfl ?_
      refine o_st (.box [.d (.lit (.int .i64 x7.1.Kind)), .d (.lit (.string ⟨⟨x7.1.User⟩⟩)), .d (.lit (.string ⟨⟨x7.1.Folder⟩⟩)), .d (.lit (.string ⟨⟨x7.1.Name⟩⟩)), .d (.lit (.string ⟨⟨x7.1.Other⟩⟩)), .d (.lit (.int .i64 x7.1.Role)), .d (.lit (.int .i64 x7.1.Version)), .d (.seq 1 (bytesD x7.1.Data))]) (g0 rfl) rfl rfl rfl ?_
      refine o_s (.t (.d (.lit (.int .i64 x7.2)))) (g0 rfl) rfl rfl rfl ?_
      refine o_nil ?_
      repeat (first | refine then_normal ?_ | refine then_exit ?_ | refine then_ret ?_ | refine block_normal ?_ | refine block_ret ?_ | refine block_exit ?_ | refine block_pass rfl ?_)
      refine c_seq ?_
      refine c_seq ?_
      refine c_region ?_
      refine o_s (.t (.d (.lit (.int .i64 x5.2)))) (g0 rfl) rfl rfl rfl ?_
      refine o_s (.t (.d (.lit (.int .i64 x7.2)))) (g0 rfl) rfl rfl rfl ?_
      refine o_s (.t (.d (.lit (.bool (x5.2 != x7.2))))) (g0 rfl) rfl rfl rfl ?_
      refine o_s (.t (.d (.lit (.bool (x5.2 != x7.2))))) (g0 rfl) rfl rfl rfl ?_
      rcases bif_some h with ⟨h9, h⟩ | ⟨h9, h⟩
      · refine o_skip rfl rfl rfl h9 rfl rfl ?_
        refine o_skip rfl rfl rfl h9 rfl rfl ?_
        refine o_skip rfl rfl rfl h9 rfl rfl ?_
        refine o_skip rfl rfl rfl h9 rfl rfl ?_
        refine o_pk (.t (.d (.lit (.bool true)))) (b := true) h9 (g0 rfl) rfl rfl rfl rfl rfl ?_
        refine o_nil ?_
        repeat (first | refine then_normal ?_ | refine then_exit ?_ | refine then_ret ?_ | refine block_normal ?_ | refine block_ret ?_ | refine block_exit ?_ | refine block_pass rfl ?_)
        refine c_t rfl rfl ?_
        refine c_seq ?_
        refine c_region ?_
        refine o_s (.t (.d (.lit (.bool false)))) (g0 rfl) rfl rfl rfl ?_
        refine o_nil ?_
        repeat (first | refine then_normal ?_ | refine then_exit ?_ | refine then_ret ?_ | refine block_normal ?_ | refine block_ret ?_ | refine block_exit ?_ | refine block_pass rfl ?_)
        refine c_ret ?_
        repeat (first | refine then_normal ?_ | refine then_exit ?_ | refine then_ret ?_ | refine block_normal ?_ | refine block_ret ?_ | refine block_exit ?_ | refine block_pass rfl ?_)
        obtain rfl := Option.some.inj h
        exact end0 rfl (.refl _)
      · refine o_s (.t (.agg [.lit (.int .i64 x5.1.Kind), .lit (.string ⟨⟨x5.1.User⟩⟩), .lit (.string ⟨⟨x5.1.Folder⟩⟩), .lit (.string ⟨⟨x5.1.Name⟩⟩), .lit (.string ⟨⟨x5.1.Other⟩⟩), .lit (.int .i64 x5.1.Role), .lit (.int .i64 x5.1.Version), .seq 1 (bytesD x5.1.Data)])) (gy rfl rfl rfl h9) rfl rfl rfl ?_
        refine o_s (.t (.agg [.lit (.int .i64 x7.1.Kind), .lit (.string ⟨⟨x7.1.User⟩⟩), .lit (.string ⟨⟨x7.1.Folder⟩⟩), .lit (.string ⟨⟨x7.1.Name⟩⟩), .lit (.string ⟨⟨x7.1.Other⟩⟩), .lit (.int .i64 x7.1.Role), .lit (.int .i64 x7.1.Version), .seq 1 (bytesD x7.1.Data)])) (gy rfl rfl rfl h9) rfl rfl rfl ?_
        obtain ⟨x10, h11, h⟩ := bind_some h
        refine o_ca (fc_R30_Same _ _ _ h11) (gy rfl rfl rfl h9) rfl rfl rfl rfl rfl rfl rfl (.cons (.refl _) (.cons (.refl _) .nil)) rfl rfl ?_
        refine o_s (.t (.d (.lit (.bool (!x10))))) (gy rfl rfl rfl h9) rfl rfl rfl ?_
        refine o_pk (.t (.d (.lit (.bool (!x10))))) (b := false) h9 (g0 rfl) rfl rfl rfl rfl rfl ?_
        refine o_nil ?_
        repeat (first | refine then_normal ?_ | refine then_exit ?_ | refine then_ret ?_ | refine block_normal ?_ | refine block_ret ?_ | refine block_exit ?_ | refine block_pass rfl ?_)
        rcases bif_some h with ⟨h12, h⟩ | ⟨h12, h⟩
        · refine c_t h12 rfl ?_
          refine c_seq ?_
          refine c_region ?_
          refine o_s (.t (.d (.lit (.bool false)))) (g0 rfl) rfl rfl rfl ?_
          refine o_nil ?_
          repeat (first | refine then_normal ?_ | refine then_exit ?_ | refine then_ret ?_ | refine block_normal ?_ | refine block_ret ?_ | refine block_exit ?_ | refine block_pass rfl ?_)
          refine c_ret ?_
          repeat (first | refine then_normal ?_ | refine then_exit ?_ | refine then_ret ?_ | refine block_normal ?_ | refine block_ret ?_ | refine block_exit ?_ | refine block_pass rfl ?_)
          obtain rfl := Option.some.inj h
          exact end0 rfl (.refl _)
        · refine c_f h12 rfl ?_
          refine c_skip ?_
          repeat (first | refine then_normal ?_ | refine then_exit ?_ | refine then_ret ?_ | refine block_normal ?_ | refine block_ret ?_ | refine block_exit ?_ | refine block_pass rfl ?_)
          refine c_seq ?_
          refine c_region ?_
          refine o_s (.t (.agg [.lit (.int .i64 x5.1.Kind), .lit (.string ⟨⟨x5.1.User⟩⟩), .lit (.string ⟨⟨x5.1.Folder⟩⟩), .lit (.string ⟨⟨x5.1.Name⟩⟩), .lit (.string ⟨⟨x5.1.Other⟩⟩), .lit (.int .i64 x5.1.Role), .lit (.int .i64 x5.1.Version), .seq 1 (bytesD x5.1.Data)])) (g0 rfl) rfl rfl rfl ?_
          obtain ⟨x13, h14, h⟩ := bind_some h
          refine o_ca (fc_call_Write _ _ h14) (g0 rfl) rfl rfl rfl rfl rfl rfl rfl (.cons (.refl _) .nil) rfl rfl ?_
          refine o_s (.tup [.d (.seq 1 (bytesD x13.1)), .d (.lit (.int .i64 x13.2))]) (g0 rfl) rfl rfl rfl ?_
          refine o_s (.t (.d (.seq 1 (bytesD x13.1)))) (g0 rfl) rfl rfl rfl ?_
          refine o_s (.t (.d (.lit (.int .i64 x13.2)))) (g0 rfl) rfl rfl rfl ?_
          refine o_s (.t (.d (.seq 1 (bytesD x13.1)))) (g0 rfl) rfl rfl rfl ?_
          refine o_s (.t (.d (.lit (.int .i64 x13.2)))) (g0 rfl) rfl rfl rfl ?_
          refine o_nil ?_
          repeat (first | refine then_normal ?_ | refine then_exit ?_ | refine then_ret ?_ | refine block_normal ?_ | refine block_ret ?_ | refine block_exit ?_ | refine block_pass rfl ?_)
          refine c_seq ?_
          refine c_region ?_
          refine o_s (.t (.d (.lit (.int .i64 x5.2)))) (g0 rfl) rfl rfl rfl ?_
          refine o_s (.t (.d (.lit (.bool (x5.2 != 0))))) (g0 rfl) rfl rfl rfl ?_
          refine o_s (.t (.d (.lit (.bool (x5.2 != 0))))) (g0 rfl) rfl rfl rfl ?_
          rcases bif_some h with ⟨h15, h⟩ | ⟨h15, h⟩
          · refine o_skip rfl rfl rfl h15 rfl rfl ?_
            refine o_skip rfl rfl rfl h15 rfl rfl ?_
            refine o_skip rfl rfl rfl h15 rfl rfl ?_
            refine o_un rfl rfl rfl rfl rfl ?_
            refine o_un rfl rfl rfl rfl rfl ?_
            refine o_un rfl rfl rfl rfl rfl ?_
            refine o_skip rfl rfl rfl h15 rfl rfl ?_
            refine o_pk (.t (.d (.lit (.bool true)))) (b := true) h15 (g0 rfl) rfl rfl rfl rfl rfl ?_
            refine o_s (.t (.d (.lit (.bool true)))) (g0 rfl) rfl rfl rfl ?_
            refine o_nil ?_
            repeat (first | refine then_normal ?_ | refine then_exit ?_ | refine then_ret ?_ | refine block_normal ?_ | refine block_ret ?_ | refine block_exit ?_ | refine block_pass rfl ?_)
            refine c_ret ?_
            repeat (first | refine then_normal ?_ | refine then_exit ?_ | refine then_ret ?_ | refine block_normal ?_ | refine block_ret ?_ | refine block_exit ?_ | refine block_pass rfl ?_)
            obtain rfl := Option.some.inj h
            exact end0 rfl (.refl _)
          · refine o_s (.t (.d (.lit (.int .i64 x13.2)))) (gy rfl rfl rfl h15) rfl rfl rfl ?_
            refine o_s (.t (.d (.lit (.bool (x13.2 == 0))))) (gy rfl rfl rfl h15) rfl rfl rfl ?_
            refine o_s (.t (.d (.lit (.bool (x13.2 == 0))))) (gy rfl rfl rfl h15) rfl rfl rfl ?_
            rcases bif_some h with ⟨h16, h⟩ | ⟨h16, h⟩
            · refine o_s (.t (.d (.seq 1 (bytesD x13.1)))) (gy rfl rfl rfl h16) rfl rfl rfl ?_
              refine o_s (.t (.d (.seq 1 (bytesD p0)))) (gy rfl rfl rfl h16) rfl rfl rfl ?_
              obtain ⟨x17, h18, h⟩ := bind_some h
              refine o_ca (fc_R01_Same _ _ _ h18) (gy rfl rfl rfl h16) rfl rfl rfl rfl rfl rfl rfl (.cons (.refl _) (.cons (.refl _) .nil)) rfl rfl ?_
              refine o_pk (.t (.d (.lit (.bool x17)))) (b := true) h16 (gy rfl rfl rfl h15) rfl rfl rfl rfl rfl ?_
              refine o_pk (.t (.d (.lit (.bool x17)))) (b := false) h15 (g0 rfl) rfl rfl rfl rfl rfl ?_
              refine o_s (.t (.d (.lit (.bool x17)))) (g0 rfl) rfl rfl rfl ?_
              refine o_nil ?_
              repeat (first | refine then_normal ?_ | refine then_exit ?_ | refine then_ret ?_ | refine block_normal ?_ | refine block_ret ?_ | refine block_exit ?_ | refine block_pass rfl ?_)
              refine c_ret ?_
              repeat (first | refine then_normal ?_ | refine then_exit ?_ | refine then_ret ?_ | refine block_normal ?_ | refine block_ret ?_ | refine block_exit ?_ | refine block_pass rfl ?_)
              obtain rfl := Option.some.inj h
              exact end0 rfl (.refl _)
            · refine o_skip rfl rfl rfl h16 rfl rfl ?_
              refine o_skip rfl rfl rfl h16 rfl rfl ?_
              refine o_skip rfl rfl rfl h16 rfl rfl ?_
              refine o_pk (.t (.d (.lit (.bool false)))) (b := false) h16 (gy rfl rfl rfl h15) rfl rfl rfl rfl rfl ?_
              refine o_pk (.t (.d (.lit (.bool false)))) (b := false) h15 (g0 rfl) rfl rfl rfl rfl rfl ?_
              refine o_s (.t (.d (.lit (.bool false)))) (g0 rfl) rfl rfl rfl ?_
              refine o_nil ?_
              repeat (first | refine then_normal ?_ | refine then_exit ?_ | refine then_ret ?_ | refine block_normal ?_ | refine block_ret ?_ | refine block_exit ?_ | refine block_pass rfl ?_)
              refine c_ret ?_
              repeat (first | refine then_normal ?_ | refine then_exit ?_ | refine then_ret ?_ | refine block_normal ?_ | refine block_ret ?_ | refine block_exit ?_ | refine block_pass rfl ?_)
              obtain rfl := Option.some.inj h
              exact end0 rfl (.refl _)

end Go.Proofs.YtimdogdplphmoabDoor
