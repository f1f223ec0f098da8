/-
  Walks of functions: each function does what its model tells. Printed by a program of this claim's own (gen.py) off the given translation.
-/
import Derived.Test.YtimdogdplphmoacAkM
import Derived.Test.YtimdogdplphmoacCbW
import Derived.Test.YtimdogdplphmoacClo
import Derived.Test.YtimdogdplphmoacAkWa
namespace Go.Proofs.Ytimdogdplphmoac
open Go Go.RowKit
set_option linter.unusedVariables false
set_option maxHeartbeats 4000000
set_option maxRecDepth 20000
theorem fc_R31_May (p0 : S_api_Answer) (r : Bool) (h : m_R31_May p0 = some r) : FC Try.prog 21 [.t (.agg [.lit (.int .i64 p0.Err), .lit (.int .i64 p0.Number), .lit (.string ⟨⟨p0.By⟩⟩), .seq 1 (bytesD p0.Data), .seq 1 (List.map cStr p0.Names), .seq 2 (List.map cS_api_Member p0.Members), .seq 4 (List.map cS_api_Past p0.History)])] [] (.t (.d (.lit (.bool r)))) := by
  refine fc_mk (rs := [.tmp 2]) (n := 178) Try.func21 rfl rfl (Nat.le_of_ble_eq_true rfl) rfl (pins := []) rfl (L := [(0, .t (.agg [.lit (.int .i64 p0.Err), .lit (.int .i64 p0.Number), .lit (.string ⟨⟨p0.By⟩⟩), .seq 1 (bytesD p0.Data), .seq 1 (List.map cStr p0.Names), .seq 2 (List.map cS_api_Member p0.Members), .seq 4 (List.map cS_api_Past p0.History)]))]) rfl ?_
  refine c_seq ?_
  refine c_region ?_
  refine o_s (.box [.d (.lit (.int .i64 p0.Err)), .d (.lit (.int .i64 p0.Number)), .d (.lit (.string ⟨⟨p0.By⟩⟩)), .d (.seq 1 (bytesD p0.Data)), .d (.seq 1 (List.map cStr p0.Names)), .d (.seq 2 (List.map cS_api_Member p0.Members)), .d (.seq 4 (List.map cS_api_Past p0.History))]) (g0 rfl) rfl rfl rfl ?_
  refine o_s (.t (.d (.lit (.bool false)))) (g0 rfl) rfl rfl rfl ?_
  refine o_nil ?_
  repeat (first | refine then_normal ?_ | refine then_exit ?_ | refine then_ret ?_ | refine block_normal ?_ | refine block_ret ?_ | refine block_exit ?_ | refine block_pass rfl ?_)
  refine c_cut (fun (_ : Unit) => [(1, .box [.d (.lit (.int .i64 p0.Err)), .d (.lit (.int .i64 p0.Number)), .d (.lit (.string ⟨⟨p0.By⟩⟩)), .d (.seq 1 (bytesD p0.Data)), .d (.seq 1 (List.map cStr p0.Names)), .d (.seq 2 (List.map cS_api_Member p0.Members)), .d (.seq 4 (List.map cS_api_Past p0.History))])]) (fun (_ : Unit) => m_R31_May_j1 p0 = some r) ?_ ?_
  · refine c_seq ?_
    refine c_region ?_
    refine o_s (.ref 1 0) (g0 rfl) rfl rfl rfl ?_
    refine o_s (.t (.d (.lit (.int .i64 p0.Err)))) (g0 rfl) rfl rfl rfl ?_
    refine o_s (.t (.d (.lit (.bool (decide (p0.Err < 0)))))) (g0 rfl) rfl rfl rfl ?_
    refine o_s (.t (.d (.lit (.bool (decide (p0.Err < 0)))))) (g0 rfl) rfl rfl rfl ?_
    rcases bif_some h with ⟨h42, h⟩ | ⟨h42, h⟩
    · refine o_skip rfl rfl rfl h42 rfl rfl ?_
      refine o_skip rfl rfl rfl h42 rfl rfl ?_
      refine o_skip rfl rfl rfl h42 rfl rfl ?_
      refine o_pk (.t (.d (.lit (.bool true)))) (b := true) h42 (g0 rfl) rfl rfl rfl rfl rfl ?_
      refine o_s (.t (.d (.lit (.bool true)))) (g0 rfl) rfl rfl rfl ?_
      refine o_skip rfl rfl rfl rfl rfl rfl ?_
      refine o_skip rfl rfl rfl rfl rfl rfl ?_
      refine o_skip rfl rfl rfl rfl rfl rfl ?_
      refine o_pk (.t (.d (.lit (.bool true)))) (b := true) rfl (g0 rfl) rfl rfl rfl rfl rfl ?_
      refine o_s (.t (.d (.lit (.bool true)))) (g0 rfl) rfl rfl rfl ?_
      refine o_skip rfl rfl rfl rfl rfl rfl ?_
      refine o_skip rfl rfl rfl rfl rfl rfl ?_
      refine o_skip rfl rfl rfl rfl rfl rfl ?_
      refine o_pk (.t (.d (.lit (.bool true)))) (b := true) rfl (g0 rfl) rfl rfl rfl rfl rfl ?_
      refine o_s (.t (.d (.lit (.bool true)))) (g0 rfl) rfl rfl rfl ?_
      refine o_skip rfl rfl rfl rfl rfl rfl ?_
      refine o_skip rfl rfl rfl rfl rfl rfl ?_
      refine o_skip rfl rfl rfl rfl rfl rfl ?_
      refine o_skip rfl rfl rfl rfl rfl rfl ?_
      refine o_un rfl rfl rfl rfl rfl ?_
      refine o_un rfl rfl rfl rfl rfl ?_
      refine o_un rfl rfl rfl rfl rfl ?_
      refine o_un rfl rfl rfl rfl rfl ?_
      refine o_skip rfl rfl rfl rfl rfl rfl ?_
      refine o_pk (.t (.d (.lit (.bool true)))) (b := true) rfl (g0 rfl) rfl rfl rfl rfl rfl ?_
      refine o_nil ?_
      repeat (first | refine then_normal ?_ | refine then_exit ?_ | refine then_ret ?_ | refine block_normal ?_ | refine block_ret ?_ | refine block_exit ?_ | refine block_pass rfl ?_)
      refine c_t rfl rfl ?_
      refine c_seq ?_
      refine c_region ?_
      refine o_s (.t (.d (.lit (.bool false)))) (g0 rfl) rfl rfl rfl ?_
      refine o_nil ?_
      repeat (first | refine then_normal ?_ | refine then_exit ?_ | refine then_ret ?_ | refine block_normal ?_ | refine block_ret ?_ | refine block_exit ?_ | refine block_pass rfl ?_)
      refine c_ret ?_
      repeat (first | refine then_normal ?_ | refine then_exit ?_ | refine then_ret ?_ | refine block_normal ?_ | refine block_ret ?_ | refine block_exit ?_ | refine block_pass rfl ?_)
      obtain rfl := Option.some.inj h
      exact end0 rfl (.refl _)
    · refine o_s (.ref 1 0) (gy rfl rfl rfl h42) rfl rfl rfl ?_
      refine o_s (.t (.d (.lit (.int .i64 p0.Err)))) (gy rfl rfl rfl h42) rfl rfl rfl ?_
      refine o_s (.t (.d (.lit (.bool (decide (p0.Err > 255)))))) (gy rfl rfl rfl h42) rfl rfl rfl ?_
      refine o_pk (.t (.d (.lit (.bool (decide (p0.Err > 255)))))) (b := false) h42 (g0 rfl) rfl rfl rfl rfl rfl ?_
      refine o_s (.t (.d (.lit (.bool (decide (p0.Err > 255)))))) (g0 rfl) rfl rfl rfl ?_
      rcases bif_some h with ⟨h43, h⟩ | ⟨h43, h⟩
      · refine o_skip rfl rfl rfl h43 rfl rfl ?_
        refine o_skip rfl rfl rfl h43 rfl rfl ?_
        refine o_skip rfl rfl rfl h43 rfl rfl ?_
        refine o_pk (.t (.d (.lit (.bool true)))) (b := true) h43 (g0 rfl) rfl rfl rfl rfl rfl ?_
        refine o_s (.t (.d (.lit (.bool true)))) (g0 rfl) rfl rfl rfl ?_
        refine o_skip rfl rfl rfl rfl rfl rfl ?_
        refine o_skip rfl rfl rfl rfl rfl rfl ?_
        refine o_skip rfl rfl rfl rfl rfl rfl ?_
        refine o_pk (.t (.d (.lit (.bool true)))) (b := true) rfl (g0 rfl) rfl rfl rfl rfl rfl ?_
        refine o_s (.t (.d (.lit (.bool true)))) (g0 rfl) rfl rfl rfl ?_
        refine o_skip rfl rfl rfl rfl rfl rfl ?_
        refine o_skip rfl rfl rfl rfl rfl rfl ?_
        refine o_skip rfl rfl rfl rfl rfl rfl ?_
        refine o_skip rfl rfl rfl rfl rfl rfl ?_
        refine o_un rfl rfl rfl rfl rfl ?_
        refine o_un rfl rfl rfl rfl rfl ?_
        refine o_un rfl rfl rfl rfl rfl ?_
        refine o_un rfl rfl rfl rfl rfl ?_
        refine o_skip rfl rfl rfl rfl rfl rfl ?_
        refine o_pk (.t (.d (.lit (.bool true)))) (b := true) rfl (g0 rfl) rfl rfl rfl rfl rfl ?_
        refine o_nil ?_
        repeat (first | refine then_normal ?_ | refine then_exit ?_ | refine then_ret ?_ | refine block_normal ?_ | refine block_ret ?_ | refine block_exit ?_ | refine block_pass rfl ?_)
        refine c_t rfl rfl ?_
        refine c_seq ?_
        refine c_region ?_
        refine o_s (.t (.d (.lit (.bool false)))) (g0 rfl) rfl rfl rfl ?_
        refine o_nil ?_
        repeat (first | refine then_normal ?_ | refine then_exit ?_ | refine then_ret ?_ | refine block_normal ?_ | refine block_ret ?_ | refine block_exit ?_ | refine block_pass rfl ?_)
        refine c_ret ?_
        repeat (first | refine then_normal ?_ | refine then_exit ?_ | refine then_ret ?_ | refine block_normal ?_ | refine block_ret ?_ | refine block_exit ?_ | refine block_pass rfl ?_)
        obtain rfl := Option.some.inj h
        exact end0 rfl (.refl _)
      · refine o_s (.ref 1 1) (gy rfl rfl rfl h43) rfl rfl rfl ?_
        refine o_s (.t (.d (.lit (.int .i64 p0.Number)))) (gy rfl rfl rfl h43) rfl rfl rfl ?_
        refine o_s (.t (.d (.lit (.bool (decide (p0.Number < 0)))))) (gy rfl rfl rfl h43) rfl rfl rfl ?_
        refine o_pk (.t (.d (.lit (.bool (decide (p0.Number < 0)))))) (b := false) h43 (g0 rfl) rfl rfl rfl rfl rfl ?_
        refine o_s (.t (.d (.lit (.bool (decide (p0.Number < 0)))))) (g0 rfl) rfl rfl rfl ?_
        rcases bif_some h with ⟨h44, h⟩ | ⟨h44, h⟩
        · refine o_skip rfl rfl rfl h44 rfl rfl ?_
          refine o_skip rfl rfl rfl h44 rfl rfl ?_
          refine o_skip rfl rfl rfl h44 rfl rfl ?_
          refine o_pk (.t (.d (.lit (.bool true)))) (b := true) h44 (g0 rfl) rfl rfl rfl rfl rfl ?_
          refine o_s (.t (.d (.lit (.bool true)))) (g0 rfl) rfl rfl rfl ?_
          refine o_skip rfl rfl rfl rfl rfl rfl ?_
          refine o_skip rfl rfl rfl rfl rfl rfl ?_
          refine o_skip rfl rfl rfl rfl rfl rfl ?_
          refine o_skip rfl rfl rfl rfl rfl rfl ?_
          refine o_un rfl rfl rfl rfl rfl ?_
          refine o_un rfl rfl rfl rfl rfl ?_
          refine o_un rfl rfl rfl rfl rfl ?_
          refine o_un rfl rfl rfl rfl rfl ?_
          refine o_skip rfl rfl rfl rfl rfl rfl ?_
          refine o_pk (.t (.d (.lit (.bool true)))) (b := true) rfl (g0 rfl) rfl rfl rfl rfl rfl ?_
          refine o_nil ?_
          repeat (first | refine then_normal ?_ | refine then_exit ?_ | refine then_ret ?_ | refine block_normal ?_ | refine block_ret ?_ | refine block_exit ?_ | refine block_pass rfl ?_)
          refine c_t rfl rfl ?_
          refine c_seq ?_
          refine c_region ?_
          refine o_s (.t (.d (.lit (.bool false)))) (g0 rfl) rfl rfl rfl ?_
          refine o_nil ?_
          repeat (first | refine then_normal ?_ | refine then_exit ?_ | refine then_ret ?_ | refine block_normal ?_ | refine block_ret ?_ | refine block_exit ?_ | refine block_pass rfl ?_)
          refine c_ret ?_
          repeat (first | refine then_normal ?_ | refine then_exit ?_ | refine then_ret ?_ | refine block_normal ?_ | refine block_ret ?_ | refine block_exit ?_ | refine block_pass rfl ?_)
          obtain rfl := Option.some.inj h
          exact end0 rfl (.refl _)
        · refine o_s (.ref 1 1) (gy rfl rfl rfl h44) rfl rfl rfl ?_
          refine o_s (.t (.d (.lit (.int .i64 p0.Number)))) (gy rfl rfl rfl h44) rfl rfl rfl ?_
          refine o_s (.t (.d (.lit (.bool (decide (p0.Number > 1099511627776)))))) (gy rfl rfl rfl h44) rfl rfl rfl ?_
          refine o_pk (.t (.d (.lit (.bool (decide (p0.Number > 1099511627776)))))) (b := false) h44 (g0 rfl) rfl rfl rfl rfl rfl ?_
          refine o_s (.t (.d (.lit (.bool (decide (p0.Number > 1099511627776)))))) (g0 rfl) rfl rfl rfl ?_
          rcases bif_some h with ⟨h45, h⟩ | ⟨h45, h⟩
          · refine o_skip rfl rfl rfl h45 rfl rfl ?_
            refine o_skip rfl rfl rfl h45 rfl rfl ?_
            refine o_skip rfl rfl rfl h45 rfl rfl ?_
            refine o_skip rfl rfl rfl h45 rfl rfl ?_
            refine o_un rfl rfl rfl rfl rfl ?_
            refine o_un rfl rfl rfl rfl rfl ?_
            refine o_un rfl rfl rfl rfl rfl ?_
            refine o_un rfl rfl rfl rfl rfl ?_
            refine o_skip rfl rfl rfl h45 rfl rfl ?_
            refine o_pk (.t (.d (.lit (.bool true)))) (b := true) h45 (g0 rfl) rfl rfl rfl rfl rfl ?_
            refine o_nil ?_
            repeat (first | refine then_normal ?_ | refine then_exit ?_ | refine then_ret ?_ | refine block_normal ?_ | refine block_ret ?_ | refine block_exit ?_ | refine block_pass rfl ?_)
            refine c_t rfl rfl ?_
            refine c_seq ?_
            refine c_region ?_
            refine o_s (.t (.d (.lit (.bool false)))) (g0 rfl) rfl rfl rfl ?_
            refine o_nil ?_
            repeat (first | refine then_normal ?_ | refine then_exit ?_ | refine then_ret ?_ | refine block_normal ?_ | refine block_ret ?_ | refine block_exit ?_ | refine block_pass rfl ?_)
            refine c_ret ?_
            repeat (first | refine then_normal ?_ | refine then_exit ?_ | refine then_ret ?_ | refine block_normal ?_ | refine block_ret ?_ | refine block_exit ?_ | refine block_pass rfl ?_)
            obtain rfl := Option.some.inj h
            exact end0 rfl (.refl _)
          · refine o_s (.ref 1 2) (gy rfl rfl rfl h45) rfl rfl rfl ?_
            refine o_s (.t (.d (.lit (.string ⟨⟨p0.By⟩⟩)))) (gy rfl rfl rfl h45) rfl rfl rfl ?_
            refine o_c (gy rfl rfl rfl h45) rfl rfl rfl (congrArg (fun z => A.t (.d (.lit (.bool (!z))))) (str_beqL _ _)) trivial ?_
            refine o_s (.t (.d (.lit (.bool (!(p0.By == [])))))) (gy rfl rfl rfl h45) rfl rfl rfl ?_
            rcases bif_some h with ⟨h46, h⟩ | ⟨h46, h⟩
            · refine o_s (.ref 1 2) (gy rfl rfl rfl h46) rfl rfl rfl ?_
              refine o_s (.t (.d (.lit (.string ⟨⟨p0.By⟩⟩)))) (gy rfl rfl rfl h46) rfl rfl rfl ?_
              obtain ⟨x47, h48, h⟩ := bind_some h
              refine o_ca (fc_R25_Name _ _ h48) (gy rfl rfl rfl h46) rfl rfl rfl rfl rfl rfl rfl (.cons (.refl _) .nil) rfl rfl ?_
              refine o_s (.t (.d (.lit (.bool (!x47))))) (gy rfl rfl rfl h46) rfl rfl rfl ?_
              refine o_pk (.t (.d (.lit (.bool (!x47))))) (b := true) h46 (gy rfl rfl rfl h45) rfl rfl rfl rfl rfl ?_
              refine o_pk (.t (.d (.lit (.bool (!x47))))) (b := false) h45 (g0 rfl) rfl rfl rfl rfl rfl ?_
              refine o_nil ?_
              repeat (first | refine then_normal ?_ | refine then_exit ?_ | refine then_ret ?_ | refine block_normal ?_ | refine block_ret ?_ | refine block_exit ?_ | refine block_pass rfl ?_)
              rcases bif_some h with ⟨h49, h⟩ | ⟨h49, h⟩
              · refine c_t h49 rfl ?_
                refine c_seq ?_
                refine c_region ?_
                refine o_s (.t (.d (.lit (.bool false)))) (g0 rfl) rfl rfl rfl ?_
                refine o_nil ?_
                repeat (first | refine then_normal ?_ | refine then_exit ?_ | refine then_ret ?_ | refine block_normal ?_ | refine block_ret ?_ | refine block_exit ?_ | refine block_pass rfl ?_)
                refine c_ret ?_
                repeat (first | refine then_normal ?_ | refine then_exit ?_ | refine then_ret ?_ | refine block_normal ?_ | refine block_ret ?_ | refine block_exit ?_ | refine block_pass rfl ?_)
                obtain rfl := Option.some.inj h
                exact end0 rfl (.refl _)
              · refine c_f h49 rfl ?_
                refine c_skip ?_
                repeat (first | refine then_normal ?_ | refine then_exit ?_ | refine then_ret ?_ | refine block_normal ?_ | refine block_ret ?_ | refine block_exit ?_ | refine block_pass rfl ?_)
                exact ⟨(), h, ⟨(.refl _), trivial⟩, rfl⟩
            · refine o_skip rfl rfl rfl h46 rfl rfl ?_
              refine o_skip rfl rfl rfl h46 rfl rfl ?_
              refine o_skip rfl rfl rfl h46 rfl rfl ?_
              refine o_skip rfl rfl rfl h46 rfl rfl ?_
              refine o_pk (.t (.d (.lit (.bool false)))) (b := false) h46 (gy rfl rfl rfl h45) rfl rfl rfl rfl rfl ?_
              refine o_pk (.t (.d (.lit (.bool false)))) (b := false) h45 (g0 rfl) rfl rfl rfl rfl rfl ?_
              refine o_nil ?_
              repeat (first | refine then_normal ?_ | refine then_exit ?_ | refine then_ret ?_ | refine block_normal ?_ | refine block_ret ?_ | refine block_exit ?_ | refine block_pass rfl ?_)
              refine c_f rfl rfl ?_
              refine c_skip ?_
              repeat (first | refine then_normal ?_ | refine then_exit ?_ | refine then_ret ?_ | refine block_normal ?_ | refine block_ret ?_ | refine block_exit ?_ | refine block_pass rfl ?_)
              exact ⟨(), h, ⟨(.refl _), trivial⟩, rfl⟩
  · rintro ⟨⟩ h
    refine c_seq ?_
    refine c_region ?_
    refine o_s (.ref 1 4) (g0 rfl) rfl rfl rfl ?_
    refine o_s (.t (.d (.seq 1 (List.map cStr p0.Names)))) (g0 rfl) rfl rfl rfl ?_
    refine o_c (g0 rfl) rfl rfl rfl (lenE _ _) trivial ?_
    refine o_s (.ref 1 5) (g0 rfl) rfl rfl rfl ?_
    refine o_s (.t (.d (.seq 2 (List.map cS_api_Member p0.Members)))) (g0 rfl) rfl rfl rfl ?_
    refine o_c (g0 rfl) rfl rfl rfl (lenE _ _) trivial ?_
    refine o_s (.t (.d (.lit (.int .i64 (wi ((p0.Names.length : Int) + (p0.Members.length : Int))))))) (g0 rfl) rfl rfl rfl ?_
    refine o_s (.ref 1 6) (g0 rfl) rfl rfl rfl ?_
    refine o_s (.t (.d (.seq 4 (List.map cS_api_Past p0.History)))) (g0 rfl) rfl rfl rfl ?_
    refine o_c (g0 rfl) rfl rfl rfl (lenE _ _) trivial ?_
    refine o_s (.t (.d (.lit (.int .i64 (wi ((wi ((p0.Names.length : Int) + (p0.Members.length : Int))) + (p0.History.length : Int))))))) (g0 rfl) rfl rfl rfl ?_
    refine o_s (.t (.d (.lit (.int .i64 (wi ((wi ((p0.Names.length : Int) + (p0.Members.length : Int))) + (p0.History.length : Int))))))) (g0 rfl) rfl rfl rfl ?_
    refine o_nil ?_
    repeat (first | refine then_normal ?_ | refine then_exit ?_ | refine then_ret ?_ | refine block_normal ?_ | refine block_ret ?_ | refine block_exit ?_ | refine block_pass rfl ?_)
    refine c_seq ?_
    refine c_seq ?_
    refine c_region ?_
    refine o_s (.ref 1 0) (g0 rfl) rfl rfl rfl ?_
    refine o_s (.t (.d (.lit (.int .i64 p0.Err)))) (g0 rfl) rfl rfl rfl ?_
    refine o_s (.t (.d (.lit (.bool (p0.Err != 0))))) (g0 rfl) rfl rfl rfl ?_
    refine o_nil ?_
    repeat (first | refine then_normal ?_ | refine then_exit ?_ | refine then_ret ?_ | refine block_normal ?_ | refine block_ret ?_ | refine block_exit ?_ | refine block_pass rfl ?_)
    rcases bif_some h with ⟨h1, h⟩ | ⟨h1, h⟩
    · refine c_t h1 rfl ?_
      refine c_seq ?_
      refine c_region ?_
      refine o_s (.ref 1 1) (g0 rfl) rfl rfl rfl ?_
      refine o_s (.t (.d (.lit (.int .i64 p0.Number)))) (g0 rfl) rfl rfl rfl ?_
      refine o_s (.t (.d (.lit (.bool (p0.Number == 0))))) (g0 rfl) rfl rfl rfl ?_
      refine o_s (.t (.d (.lit (.bool (p0.Number == 0))))) (g0 rfl) rfl rfl rfl ?_
      rcases bif_some h with ⟨h2, h⟩ | ⟨h2, h⟩
      · refine o_s (.ref 1 2) (gy rfl rfl rfl h2) rfl rfl rfl ?_
        refine o_s (.t (.d (.lit (.string ⟨⟨p0.By⟩⟩)))) (gy rfl rfl rfl h2) rfl rfl rfl ?_
        refine o_c (gy rfl rfl rfl h2) rfl rfl rfl (congrArg (fun z => A.t (.d (.lit (.bool z)))) (str_beqL _ _)) trivial ?_
        refine o_pk (.t (.d (.lit (.bool (p0.By == []))))) (b := true) h2 (g0 rfl) rfl rfl rfl rfl rfl ?_
        refine o_s (.t (.d (.lit (.bool (p0.By == []))))) (g0 rfl) rfl rfl rfl ?_
        rcases bif_some h with ⟨h3, h⟩ | ⟨h3, h⟩
        · refine o_s (.ref 1 3) (gy rfl rfl rfl h3) rfl rfl rfl ?_
          refine o_s (.t (.d (.seq 1 (bytesD p0.Data)))) (gy rfl rfl rfl h3) rfl rfl rfl ?_
          refine o_c (gy rfl rfl rfl h3) rfl rfl rfl (lenE _ _) trivial ?_
          refine o_s (.t (.d (.lit (.bool ((p0.Data.length : Int) == 0))))) (gy rfl rfl rfl h3) rfl rfl rfl ?_
          refine o_pk (.t (.d (.lit (.bool ((p0.Data.length : Int) == 0))))) (b := true) h3 (g0 rfl) rfl rfl rfl rfl rfl ?_
          refine o_s (.t (.d (.lit (.bool ((p0.Data.length : Int) == 0))))) (g0 rfl) rfl rfl rfl ?_
          rcases bif_some h with ⟨h4, h⟩ | ⟨h4, h⟩
          · refine o_s (.t (.d (.lit (.int .i64 (wi ((wi ((p0.Names.length : Int) + (p0.Members.length : Int))) + (p0.History.length : Int))))))) (gy rfl rfl rfl h4) rfl rfl rfl ?_
            refine o_s (.t (.d (.lit (.bool ((wi ((wi ((p0.Names.length : Int) + (p0.Members.length : Int))) + (p0.History.length : Int))) == 0))))) (gy rfl rfl rfl h4) rfl rfl rfl ?_
            refine o_pk (.t (.d (.lit (.bool ((wi ((wi ((p0.Names.length : Int) + (p0.Members.length : Int))) + (p0.History.length : Int))) == 0))))) (b := true) h4 (g0 rfl) rfl rfl rfl rfl rfl ?_
            refine o_s (.t (.d (.lit (.bool ((wi ((wi ((p0.Names.length : Int) + (p0.Members.length : Int))) + (p0.History.length : Int))) == 0))))) (g0 rfl) rfl rfl rfl ?_
            refine o_nil ?_
            repeat (first | refine then_normal ?_ | refine then_exit ?_ | refine then_ret ?_ | refine block_normal ?_ | refine block_ret ?_ | refine block_exit ?_ | refine block_pass rfl ?_)
            refine c_ret ?_
            repeat (first | refine then_normal ?_ | refine then_exit ?_ | refine then_ret ?_ | refine block_normal ?_ | refine block_ret ?_ | refine block_exit ?_ | refine block_pass rfl ?_)
            obtain rfl := Option.some.inj h
            exact end0 rfl (.refl _)
          · refine o_skip rfl rfl rfl h4 rfl rfl ?_
            refine o_skip rfl rfl rfl h4 rfl rfl ?_
            refine o_pk (.t (.d (.lit (.bool false)))) (b := false) h4 (g0 rfl) rfl rfl rfl rfl rfl ?_
            refine o_s (.t (.d (.lit (.bool false)))) (g0 rfl) rfl rfl rfl ?_
            refine o_nil ?_
            repeat (first | refine then_normal ?_ | refine then_exit ?_ | refine then_ret ?_ | refine block_normal ?_ | refine block_ret ?_ | refine block_exit ?_ | refine block_pass rfl ?_)
            refine c_ret ?_
            repeat (first | refine then_normal ?_ | refine then_exit ?_ | refine then_ret ?_ | refine block_normal ?_ | refine block_ret ?_ | refine block_exit ?_ | refine block_pass rfl ?_)
            obtain rfl := Option.some.inj h
            exact end0 rfl (.refl _)
        · refine o_skip rfl rfl rfl h3 rfl rfl ?_
          refine o_skip rfl rfl rfl h3 rfl rfl ?_
          refine o_skip rfl rfl rfl h3 rfl rfl ?_
          refine o_skip rfl rfl rfl h3 rfl rfl ?_
          refine o_pk (.t (.d (.lit (.bool false)))) (b := false) h3 (g0 rfl) rfl rfl rfl rfl rfl ?_
          refine o_s (.t (.d (.lit (.bool false)))) (g0 rfl) rfl rfl rfl ?_
          refine o_skip rfl rfl rfl rfl rfl rfl ?_
          refine o_skip rfl rfl rfl rfl rfl rfl ?_
          refine o_pk (.t (.d (.lit (.bool false)))) (b := false) rfl (g0 rfl) rfl rfl rfl rfl rfl ?_
          refine o_s (.t (.d (.lit (.bool false)))) (g0 rfl) rfl rfl rfl ?_
          refine o_nil ?_
          repeat (first | refine then_normal ?_ | refine then_exit ?_ | refine then_ret ?_ | refine block_normal ?_ | refine block_ret ?_ | refine block_exit ?_ | refine block_pass rfl ?_)
          refine c_ret ?_
          repeat (first | refine then_normal ?_ | refine then_exit ?_ | refine then_ret ?_ | refine block_normal ?_ | refine block_ret ?_ | refine block_exit ?_ | refine block_pass rfl ?_)
          obtain rfl := Option.some.inj h
          exact end0 rfl (.refl _)
      · refine o_skip rfl rfl rfl h2 rfl rfl ?_
        refine o_skip rfl rfl rfl h2 rfl rfl ?_
        refine o_skip rfl rfl rfl h2 rfl rfl ?_
        refine o_pk (.t (.d (.lit (.bool false)))) (b := false) h2 (g0 rfl) rfl rfl rfl rfl rfl ?_
        refine o_s (.t (.d (.lit (.bool false)))) (g0 rfl) rfl rfl rfl ?_
        refine o_skip rfl rfl rfl rfl rfl rfl ?_
        refine o_skip rfl rfl rfl rfl rfl rfl ?_
        refine o_skip rfl rfl rfl rfl rfl rfl ?_
        refine o_skip rfl rfl rfl rfl rfl rfl ?_
        refine o_pk (.t (.d (.lit (.bool false)))) (b := false) rfl (g0 rfl) rfl rfl rfl rfl rfl ?_
        refine o_s (.t (.d (.lit (.bool false)))) (g0 rfl) rfl rfl rfl ?_
        refine o_skip rfl rfl rfl rfl rfl rfl ?_
        refine o_skip rfl rfl rfl rfl rfl rfl ?_
        refine o_pk (.t (.d (.lit (.bool false)))) (b := false) rfl (g0 rfl) rfl rfl rfl rfl rfl ?_
        refine o_s (.t (.d (.lit (.bool false)))) (g0 rfl) rfl rfl rfl ?_
        refine o_nil ?_
        repeat (first | refine then_normal ?_ | refine then_exit ?_ | refine then_ret ?_ | refine block_normal ?_ | refine block_ret ?_ | refine block_exit ?_ | refine block_pass rfl ?_)
        refine c_ret ?_
        repeat (first | refine then_normal ?_ | refine then_exit ?_ | refine then_ret ?_ | refine block_normal ?_ | refine block_ret ?_ | refine block_exit ?_ | refine block_pass rfl ?_)
        obtain rfl := Option.some.inj h
        exact end0 rfl (.refl _)
    · refine c_f h1 rfl ?_
      refine c_skip ?_
      repeat (first | refine then_normal ?_ | refine then_exit ?_ | refine then_ret ?_ | refine block_normal ?_ | refine block_ret ?_ | refine block_exit ?_ | refine block_pass rfl ?_)
      refine c_seq ?_
      refine c_seq ?_
      refine c_region ?_
      refine o_s (.ref 1 4) (g0 rfl) rfl rfl rfl ?_
      refine o_s (.t (.d (.seq 1 (List.map cStr p0.Names)))) (g0 rfl) rfl rfl rfl ?_
      refine o_c (g0 rfl) rfl rfl rfl (lenE _ _) trivial ?_
      refine o_s (.t (.d (.lit (.bool (decide ((p0.Names.length : Int) > 4096)))))) (g0 rfl) rfl rfl rfl ?_
      refine o_s (.t (.d (.lit (.bool (decide ((p0.Names.length : Int) > 4096)))))) (g0 rfl) rfl rfl rfl ?_
      rcases bif_some h with ⟨h5, h⟩ | ⟨h5, h⟩
      · refine o_skip rfl rfl rfl h5 rfl rfl ?_
        refine o_skip rfl rfl rfl h5 rfl rfl ?_
        refine o_skip rfl rfl rfl h5 rfl rfl ?_
        refine o_skip rfl rfl rfl h5 rfl rfl ?_
        refine o_pk (.t (.d (.lit (.bool true)))) (b := true) h5 (g0 rfl) rfl rfl rfl rfl rfl ?_
        refine o_s (.t (.d (.lit (.bool true)))) (g0 rfl) rfl rfl rfl ?_
        refine o_skip rfl rfl rfl rfl rfl rfl ?_
        refine o_skip rfl rfl rfl rfl rfl rfl ?_
        refine o_skip rfl rfl rfl rfl rfl rfl ?_
        refine o_skip rfl rfl rfl rfl rfl rfl ?_
        refine o_pk (.t (.d (.lit (.bool true)))) (b := true) rfl (g0 rfl) rfl rfl rfl rfl rfl ?_
        refine o_s (.t (.d (.lit (.bool true)))) (g0 rfl) rfl rfl rfl ?_
        refine o_skip rfl rfl rfl rfl rfl rfl ?_
        refine o_skip rfl rfl rfl rfl rfl rfl ?_
        refine o_skip rfl rfl rfl rfl rfl rfl ?_
        refine o_skip rfl rfl rfl rfl rfl rfl ?_
        refine o_pk (.t (.d (.lit (.bool true)))) (b := true) rfl (g0 rfl) rfl rfl rfl rfl rfl ?_
        refine o_nil ?_
        repeat (first | refine then_normal ?_ | refine then_exit ?_ | refine then_ret ?_ | refine block_normal ?_ | refine block_ret ?_ | refine block_exit ?_ | refine block_pass rfl ?_)
        refine c_t rfl rfl ?_
        refine c_seq ?_
        refine c_region ?_
        refine o_s (.t (.d (.lit (.bool false)))) (g0 rfl) rfl rfl rfl ?_
        refine o_nil ?_
        repeat (first | refine then_normal ?_ | refine then_exit ?_ | refine then_ret ?_ | refine block_normal ?_ | refine block_ret ?_ | refine block_exit ?_ | refine block_pass rfl ?_)
        refine c_ret ?_
        repeat (first | refine then_normal ?_ | refine then_exit ?_ | refine then_ret ?_ | refine block_normal ?_ | refine block_ret ?_ | refine block_exit ?_ | refine block_pass rfl ?_)
        obtain rfl := Option.some.inj h
        exact end0 rfl (.refl _)
      · refine o_s (.ref 1 5) (gy rfl rfl rfl h5) rfl rfl rfl ?_
        refine o_s (.t (.d (.seq 2 (List.map cS_api_Member p0.Members)))) (gy rfl rfl rfl h5) rfl rfl rfl ?_
        refine o_c (gy rfl rfl rfl h5) rfl rfl rfl (lenE _ _) trivial ?_
        refine o_s (.t (.d (.lit (.bool (decide ((p0.Members.length : Int) > 4096)))))) (gy rfl rfl rfl h5) rfl rfl rfl ?_
        refine o_pk (.t (.d (.lit (.bool (decide ((p0.Members.length : Int) > 4096)))))) (b := false) h5 (g0 rfl) rfl rfl rfl rfl rfl ?_
        refine o_s (.t (.d (.lit (.bool (decide ((p0.Members.length : Int) > 4096)))))) (g0 rfl) rfl rfl rfl ?_
        rcases bif_some h with ⟨h6, h⟩ | ⟨h6, h⟩
        · refine o_skip rfl rfl rfl h6 rfl rfl ?_
          refine o_skip rfl rfl rfl h6 rfl rfl ?_
          refine o_skip rfl rfl rfl h6 rfl rfl ?_
          refine o_skip rfl rfl rfl h6 rfl rfl ?_
          refine o_pk (.t (.d (.lit (.bool true)))) (b := true) h6 (g0 rfl) rfl rfl rfl rfl rfl ?_
          refine o_s (.t (.d (.lit (.bool true)))) (g0 rfl) rfl rfl rfl ?_
          refine o_skip rfl rfl rfl rfl rfl rfl ?_
          refine o_skip rfl rfl rfl rfl rfl rfl ?_
          refine o_skip rfl rfl rfl rfl rfl rfl ?_
          refine o_skip rfl rfl rfl rfl rfl rfl ?_
          refine o_pk (.t (.d (.lit (.bool true)))) (b := true) rfl (g0 rfl) rfl rfl rfl rfl rfl ?_
          refine o_nil ?_
          repeat (first | refine then_normal ?_ | refine then_exit ?_ | refine then_ret ?_ | refine block_normal ?_ | refine block_ret ?_ | refine block_exit ?_ | refine block_pass rfl ?_)
          refine c_t rfl rfl ?_
          refine c_seq ?_
          refine c_region ?_
          refine o_s (.t (.d (.lit (.bool false)))) (g0 rfl) rfl rfl rfl ?_
          refine o_nil ?_
          repeat (first | refine then_normal ?_ | refine then_exit ?_ | refine then_ret ?_ | refine block_normal ?_ | refine block_ret ?_ | refine block_exit ?_ | refine block_pass rfl ?_)
          refine c_ret ?_
          repeat (first | refine then_normal ?_ | refine then_exit ?_ | refine then_ret ?_ | refine block_normal ?_ | refine block_ret ?_ | refine block_exit ?_ | refine block_pass rfl ?_)
          obtain rfl := Option.some.inj h
          exact end0 rfl (.refl _)
        · refine o_s (.ref 1 6) (gy rfl rfl rfl h6) rfl rfl rfl ?_
          refine o_s (.t (.d (.seq 4 (List.map cS_api_Past p0.History)))) (gy rfl rfl rfl h6) rfl rfl rfl ?_
          refine o_c (gy rfl rfl rfl h6) rfl rfl rfl (lenE _ _) trivial ?_
          refine o_s (.t (.d (.lit (.bool (decide ((p0.History.length : Int) > 4096)))))) (gy rfl rfl rfl h6) rfl rfl rfl ?_
          refine o_pk (.t (.d (.lit (.bool (decide ((p0.History.length : Int) > 4096)))))) (b := false) h6 (g0 rfl) rfl rfl rfl rfl rfl ?_
          refine o_s (.t (.d (.lit (.bool (decide ((p0.History.length : Int) > 4096)))))) (g0 rfl) rfl rfl rfl ?_
          rcases bif_some h with ⟨h7, h⟩ | ⟨h7, h⟩
          · refine o_skip rfl rfl rfl h7 rfl rfl ?_
            refine o_skip rfl rfl rfl h7 rfl rfl ?_
            refine o_skip rfl rfl rfl h7 rfl rfl ?_
            refine o_skip rfl rfl rfl h7 rfl rfl ?_
            refine o_pk (.t (.d (.lit (.bool true)))) (b := true) h7 (g0 rfl) rfl rfl rfl rfl rfl ?_
            refine o_nil ?_
            repeat (first | refine then_normal ?_ | refine then_exit ?_ | refine then_ret ?_ | refine block_normal ?_ | refine block_ret ?_ | refine block_exit ?_ | refine block_pass rfl ?_)
            refine c_t rfl rfl ?_
            refine c_seq ?_
            refine c_region ?_
            refine o_s (.t (.d (.lit (.bool false)))) (g0 rfl) rfl rfl rfl ?_
            refine o_nil ?_
            repeat (first | refine then_normal ?_ | refine then_exit ?_ | refine then_ret ?_ | refine block_normal ?_ | refine block_ret ?_ | refine block_exit ?_ | refine block_pass rfl ?_)
            refine c_ret ?_
            repeat (first | refine then_normal ?_ | refine then_exit ?_ | refine then_ret ?_ | refine block_normal ?_ | refine block_ret ?_ | refine block_exit ?_ | refine block_pass rfl ?_)
            obtain rfl := Option.some.inj h
            exact end0 rfl (.refl _)
          · refine o_s (.ref 1 3) (gy rfl rfl rfl h7) rfl rfl rfl ?_
            refine o_s (.t (.d (.seq 1 (bytesD p0.Data)))) (gy rfl rfl rfl h7) rfl rfl rfl ?_
            refine o_c (gy rfl rfl rfl h7) rfl rfl rfl (lenE _ _) trivial ?_
            refine o_s (.t (.d (.lit (.bool (decide ((p0.Data.length : Int) > 1048576)))))) (gy rfl rfl rfl h7) rfl rfl rfl ?_
            refine o_pk (.t (.d (.lit (.bool (decide ((p0.Data.length : Int) > 1048576)))))) (b := false) h7 (g0 rfl) rfl rfl rfl rfl rfl ?_
            refine o_nil ?_
            repeat (first | refine then_normal ?_ | refine then_exit ?_ | refine then_ret ?_ | refine block_normal ?_ | refine block_ret ?_ | refine block_exit ?_ | refine block_pass rfl ?_)
            rcases bif_some h with ⟨h8, h⟩ | ⟨h8, h⟩
            · refine c_t h8 rfl ?_
              refine c_seq ?_
              refine c_region ?_
              refine o_s (.t (.d (.lit (.bool false)))) (g0 rfl) rfl rfl rfl ?_
              refine o_nil ?_
              repeat (first | refine then_normal ?_ | refine then_exit ?_ | refine then_ret ?_ | refine block_normal ?_ | refine block_ret ?_ | refine block_exit ?_ | refine block_pass rfl ?_)
              refine c_ret ?_
              repeat (first | refine then_normal ?_ | refine then_exit ?_ | refine then_ret ?_ | refine block_normal ?_ | refine block_ret ?_ | refine block_exit ?_ | refine block_pass rfl ?_)
              obtain rfl := Option.some.inj h
              exact end0 rfl (.refl _)
            · refine c_f h8 rfl ?_
              refine c_skip ?_
              repeat (first | refine then_normal ?_ | refine then_exit ?_ | refine then_ret ?_ | refine block_normal ?_ | refine block_ret ?_ | refine block_exit ?_ | refine block_pass rfl ?_)
              refine c_cut (fun (_ : Unit) => [(1, .box [.d (.lit (.int .i64 p0.Err)), .d (.lit (.int .i64 p0.Number)), .d (.lit (.string ⟨⟨p0.By⟩⟩)), .d (.seq 1 (bytesD p0.Data)), .d (.seq 1 (List.map cStr p0.Names)), .d (.seq 2 (List.map cS_api_Member p0.Members)), .d (.seq 4 (List.map cS_api_Past p0.History))])]) (fun (_ : Unit) => m_R31_May_j2 p0 = some r) ?_ ?_
              · refine c_seq ?_
                refine c_region ?_
                refine o_s (.t (.d (.lit (.int .i64 0)))) (g0 rfl) rfl rfl rfl ?_
                refine o_nil ?_
                repeat (first | refine then_normal ?_ | refine then_exit ?_ | refine then_ret ?_ | refine block_normal ?_ | refine block_ret ?_ | refine block_exit ?_ | refine block_pass rfl ?_)
                refine c_block ?_
                refine c_fuel (fun (z35 : Int) => [(1, .box [.d (.lit (.int .i64 p0.Err)), .d (.lit (.int .i64 p0.Number)), .d (.lit (.string ⟨⟨p0.By⟩⟩)), .d (.seq 1 (bytesD p0.Data)), .d (.seq 1 (List.map cStr p0.Names)), .d (.seq 2 (List.map cS_api_Member p0.Members)), .d (.seq 4 (List.map cS_api_Past p0.History))]), (4, .t (.d (.lit (.int .i64 z35))))]) (fun nl7 => (fun (z35 : Int) => m_R31_May_l7 p0 nl7 z35 = some r)) (p0.Names.length + 1) 0 h ⟨(.refl _), ⟨(.refl _), trivial⟩⟩ rfl ?_
                rintro nl7 z35 h
                cases nl7 with
                | zero => exact none_ne h
                | succ nl7 =>
                  refine c_seq ?_
                  refine c_seq ?_
                  refine c_region ?_
                  refine o_s (.t (.d (.lit (.int .i64 z35)))) (g0 rfl) rfl rfl rfl ?_
                  refine o_s (.ref 1 4) (g0 rfl) rfl rfl rfl ?_
                  refine o_s (.t (.d (.seq 1 (List.map cStr p0.Names)))) (g0 rfl) rfl rfl rfl ?_
                  refine o_c (g0 rfl) rfl rfl rfl (lenE _ _) trivial ?_
                  refine o_s (.t (.d (.lit (.bool (decide (z35 < (p0.Names.length : Int))))))) (g0 rfl) rfl rfl rfl ?_
                  refine o_nil ?_
                  repeat (first | refine then_normal ?_ | refine then_exit ?_ | refine then_ret ?_ | refine block_normal ?_ | refine block_ret ?_ | refine block_exit ?_ | refine block_pass rfl ?_)
                  rcases bif_some h with ⟨h36, h⟩ | ⟨h36, h⟩
                  · refine c_t h36 rfl ?_
                    refine c_skip ?_
                    repeat (first | refine then_normal ?_ | refine then_exit ?_ | refine then_ret ?_ | refine block_normal ?_ | refine block_ret ?_ | refine block_exit ?_ | refine block_pass rfl ?_)
                    refine c_seq ?_
                    refine c_block ?_
                    refine c_seq ?_
                    refine c_region ?_
                    refine o_s (.ref 1 4) (g0 rfl) rfl rfl rfl ?_
                    refine o_s (.t (.d (.seq 1 (List.map cStr p0.Names)))) (g0 rfl) rfl rfl rfl ?_
                    refine o_s (.t (.d (.lit (.int .i64 z35)))) (g0 rfl) rfl rfl rfl ?_
                    obtain ⟨x37, h38, h⟩ := bind_some h
                    refine o_c (g0 rfl) rfl rfl rfl (idxE h38) (idxC h38) ?_
                    refine o_s (.t (.d (.lit (.string ⟨⟨x37⟩⟩)))) (g0 rfl) rfl rfl rfl ?_
                    obtain ⟨x39, h40, h⟩ := bind_some h
                    refine o_ca (fc_R25_Name _ _ h40) (g0 rfl) rfl rfl rfl rfl rfl rfl rfl (.cons (.refl _) .nil) rfl rfl ?_
                    refine o_s (.t (.d (.lit (.bool (!x39))))) (g0 rfl) rfl rfl rfl ?_
                    refine o_nil ?_
                    repeat (first | refine then_normal ?_ | refine then_exit ?_ | refine then_ret ?_ | refine block_normal ?_ | refine block_ret ?_ | refine block_exit ?_ | refine block_pass rfl ?_)
                    rcases bif_some h with ⟨h41, h⟩ | ⟨h41, h⟩
                    · refine c_t h41 rfl ?_
                      refine c_seq ?_
                      refine c_region ?_
                      refine o_s (.t (.d (.lit (.bool false)))) (g0 rfl) rfl rfl rfl ?_
                      refine o_nil ?_
                      repeat (first | refine then_normal ?_ | refine then_exit ?_ | refine then_ret ?_ | refine block_normal ?_ | refine block_ret ?_ | refine block_exit ?_ | refine block_pass rfl ?_)
                      refine c_ret ?_
                      repeat (first | refine then_normal ?_ | refine then_exit ?_ | refine then_ret ?_ | refine block_normal ?_ | refine block_ret ?_ | refine block_exit ?_ | refine block_pass rfl ?_)
                      obtain rfl := Option.some.inj h
                      exact end0 rfl (.refl _)
                    · refine c_f h41 rfl ?_
                      refine c_skip ?_
                      repeat (first | refine then_normal ?_ | refine then_exit ?_ | refine then_ret ?_ | refine block_normal ?_ | refine block_ret ?_ | refine block_exit ?_ | refine block_pass rfl ?_)
                      refine c_region ?_
                      refine o_s (.t (.d (.lit (.int .i64 z35)))) (g0 rfl) rfl rfl rfl ?_
                      refine o_s (.t (.d (.lit (.int .i64 (wi (z35 + 1)))))) (g0 rfl) rfl rfl rfl ?_
                      refine o_s (.t (.d (.lit (.int .i64 (wi (z35 + 1)))))) (g0 rfl) rfl rfl rfl ?_
                      refine o_nil ?_
                      repeat (first | refine then_normal ?_ | refine then_exit ?_ | refine then_ret ?_ | refine block_normal ?_ | refine block_ret ?_ | refine block_exit ?_ | refine block_pass rfl ?_)
                      exact ⟨nl7, (wi (z35 + 1)), Nat.lt_succ_self nl7, h, ⟨(.refl _), ⟨(.refl _), trivial⟩⟩, rfl⟩
                  · refine c_f h36 rfl ?_
                    refine c_exit ?_
                    repeat (first | refine then_normal ?_ | refine then_exit ?_ | refine then_ret ?_ | refine block_normal ?_ | refine block_ret ?_ | refine block_exit ?_ | refine block_pass rfl ?_)
                    exact ⟨(), h, ⟨(.refl _), trivial⟩, rfl⟩
              · rintro ⟨⟩ h
                refine c_cut (fun (_ : Unit) => [(1, .box [.d (.lit (.int .i64 p0.Err)), .d (.lit (.int .i64 p0.Number)), .d (.lit (.string ⟨⟨p0.By⟩⟩)), .d (.seq 1 (bytesD p0.Data)), .d (.seq 1 (List.map cStr p0.Names)), .d (.seq 2 (List.map cS_api_Member p0.Members)), .d (.seq 4 (List.map cS_api_Past p0.History))])]) (fun (_ : Unit) => m_R31_May_j3 p0 = some r) ?_ ?_
                · refine c_seq ?_
                  refine c_region ?_
                  refine o_s (.t (.d (.lit (.int .i64 0)))) (g0 rfl) rfl rfl rfl ?_
                  refine o_nil ?_
                  repeat (first | refine then_normal ?_ | refine then_exit ?_ | refine then_ret ?_ | refine block_normal ?_ | refine block_ret ?_ | refine block_exit ?_ | refine block_pass rfl ?_)
                  refine c_block ?_
                  refine c_fuel (fun (z22 : Int) => [(1, .box [.d (.lit (.int .i64 p0.Err)), .d (.lit (.int .i64 p0.Number)), .d (.lit (.string ⟨⟨p0.By⟩⟩)), .d (.seq 1 (bytesD p0.Data)), .d (.seq 1 (List.map cStr p0.Names)), .d (.seq 2 (List.map cS_api_Member p0.Members)), .d (.seq 4 (List.map cS_api_Past p0.History))]), (5, .t (.d (.lit (.int .i64 z22))))]) (fun nl6 => (fun (z22 : Int) => m_R31_May_l6 p0 nl6 z22 = some r)) (p0.Members.length + 1) 0 h ⟨(.refl _), ⟨(.refl _), trivial⟩⟩ rfl ?_
                  rintro nl6 z22 h
                  cases nl6 with
                  | zero => exact none_ne h
                  | succ nl6 =>
                    refine c_seq ?_
                    refine c_seq ?_
                    refine c_region ?_
                    refine o_s (.t (.d (.lit (.int .i64 z22)))) (g0 rfl) rfl rfl rfl ?_
                    refine o_s (.ref 1 5) (g0 rfl) rfl rfl rfl ?_
                    refine o_s (.t (.d (.seq 2 (List.map cS_api_Member p0.Members)))) (g0 rfl) rfl rfl rfl ?_
                    refine o_c (g0 rfl) rfl rfl rfl (lenE _ _) trivial ?_
                    refine o_s (.t (.d (.lit (.bool (decide (z22 < (p0.Members.length : Int))))))) (g0 rfl) rfl rfl rfl ?_
                    refine o_nil ?_
                    repeat (first | refine then_normal ?_ | refine then_exit ?_ | refine then_ret ?_ | refine block_normal ?_ | refine block_ret ?_ | refine block_exit ?_ | refine block_pass rfl ?_)
                    rcases bif_some h with ⟨h23, h⟩ | ⟨h23, h⟩
                    · refine c_t h23 rfl ?_
                      refine c_skip ?_
                      repeat (first | refine then_normal ?_ | refine then_exit ?_ | refine then_ret ?_ | refine block_normal ?_ | refine block_ret ?_ | refine block_exit ?_ | refine block_pass rfl ?_)
                      refine c_seq ?_
                      refine c_block ?_
                      refine c_seq ?_
                      refine c_region ?_
                      refine o_s (.ref 1 5) (g0 rfl) rfl rfl rfl ?_
                      refine o_s (.t (.d (.seq 2 (List.map cS_api_Member p0.Members)))) (g0 rfl) rfl rfl rfl ?_
                      refine o_s (.t (.d (.lit (.int .i64 z22)))) (g0 rfl) rfl rfl rfl ?_
                      obtain ⟨x24, h25, h⟩ := bind_some h
                      refine o_c (g0 rfl) rfl rfl rfl (idxE h25) (idxC h25) ?_
                      refine o_s (.imm [.lit (.string ⟨⟨x24.Name⟩⟩), .lit (.int .i64 x24.Role)]) (g0 rfl) rfl rfl rfl ?_
                      refine o_s (.t (.d (.lit (.string ⟨⟨x24.Name⟩⟩)))) (g0 rfl) rfl rfl rfl ?_
                      obtain ⟨x26, h27, h⟩ := bind_some h
                      refine o_ca (fc_R25_Name _ _ h27) (g0 rfl) rfl rfl rfl rfl rfl rfl rfl (.cons (.refl _) .nil) rfl rfl ?_
                      refine o_s (.t (.d (.lit (.bool (!x26))))) (g0 rfl) rfl rfl rfl ?_
                      refine o_s (.t (.d (.lit (.bool (!x26))))) (g0 rfl) rfl rfl rfl ?_
                      rcases bif_some h with ⟨h28, h⟩ | ⟨h28, h⟩
                      · refine o_skip rfl rfl rfl h28 rfl rfl ?_
                        refine o_skip rfl rfl rfl h28 rfl rfl ?_
                        refine o_skip rfl rfl rfl h28 rfl rfl ?_
                        refine o_skip rfl rfl rfl h28 rfl rfl ?_
                        refine o_skip rfl rfl rfl h28 rfl rfl ?_
                        refine o_skip rfl rfl rfl h28 rfl rfl ?_
                        refine o_skip rfl rfl rfl h28 rfl rfl ?_
                        refine o_pk (.t (.d (.lit (.bool true)))) (b := true) h28 (g0 rfl) rfl rfl rfl rfl rfl ?_
                        refine o_s (.t (.d (.lit (.bool true)))) (g0 rfl) rfl rfl rfl ?_
                        refine o_skip rfl rfl rfl rfl rfl rfl ?_
                        refine o_skip rfl rfl rfl rfl rfl rfl ?_
                        refine o_skip rfl rfl rfl rfl rfl rfl ?_
                        refine o_skip rfl rfl rfl rfl rfl rfl ?_
                        refine o_skip rfl rfl rfl rfl rfl rfl ?_
                        refine o_skip rfl rfl rfl rfl rfl rfl ?_
                        refine o_skip rfl rfl rfl rfl rfl rfl ?_
                        refine o_pk (.t (.d (.lit (.bool true)))) (b := true) rfl (g0 rfl) rfl rfl rfl rfl rfl ?_
                        refine o_nil ?_
                        repeat (first | refine then_normal ?_ | refine then_exit ?_ | refine then_ret ?_ | refine block_normal ?_ | refine block_ret ?_ | refine block_exit ?_ | refine block_pass rfl ?_)
                        refine c_t rfl rfl ?_
                        refine c_seq ?_
                        refine c_region ?_
                        refine o_s (.t (.d (.lit (.bool false)))) (g0 rfl) rfl rfl rfl ?_
                        refine o_nil ?_
                        repeat (first | refine then_normal ?_ | refine then_exit ?_ | refine then_ret ?_ | refine block_normal ?_ | refine block_ret ?_ | refine block_exit ?_ | refine block_pass rfl ?_)
                        refine c_ret ?_
                        repeat (first | refine then_normal ?_ | refine then_exit ?_ | refine then_ret ?_ | refine block_normal ?_ | refine block_ret ?_ | refine block_exit ?_ | refine block_pass rfl ?_)
                        obtain rfl := Option.some.inj h
                        exact end0 rfl (.refl _)
                      · refine o_s (.ref 1 5) (gy rfl rfl rfl h28) rfl rfl rfl ?_
                        refine o_s (.t (.d (.seq 2 (List.map cS_api_Member p0.Members)))) (gy rfl rfl rfl h28) rfl rfl rfl ?_
                        refine o_s (.t (.d (.lit (.int .i64 z22)))) (gy rfl rfl rfl h28) rfl rfl rfl ?_
                        obtain ⟨x29, h30, h⟩ := bind_some h
                        refine o_c (gy rfl rfl rfl h28) rfl rfl rfl (idxE h30) (idxC h30) ?_
                        refine o_s (.imm [.lit (.int .i64 x29.Role)]) (gy rfl rfl rfl h28) rfl rfl rfl ?_
                        refine o_s (.t (.d (.lit (.int .i64 x29.Role)))) (gy rfl rfl rfl h28) rfl rfl rfl ?_
                        refine o_s (.t (.d (.lit (.bool (decide (x29.Role < 1)))))) (gy rfl rfl rfl h28) rfl rfl rfl ?_
                        refine o_pk (.t (.d (.lit (.bool (decide (x29.Role < 1)))))) (b := false) h28 (g0 rfl) rfl rfl rfl rfl rfl ?_
                        refine o_s (.t (.d (.lit (.bool (decide (x29.Role < 1)))))) (g0 rfl) rfl rfl rfl ?_
                        rcases bif_some h with ⟨h31, h⟩ | ⟨h31, h⟩
                        · refine o_skip rfl rfl rfl h31 rfl rfl ?_
                          refine o_skip rfl rfl rfl h31 rfl rfl ?_
                          refine o_skip rfl rfl rfl h31 rfl rfl ?_
                          refine o_skip rfl rfl rfl h31 rfl rfl ?_
                          refine o_skip rfl rfl rfl h31 rfl rfl ?_
                          refine o_skip rfl rfl rfl h31 rfl rfl ?_
                          refine o_skip rfl rfl rfl h31 rfl rfl ?_
                          refine o_pk (.t (.d (.lit (.bool true)))) (b := true) h31 (g0 rfl) rfl rfl rfl rfl rfl ?_
                          refine o_nil ?_
                          repeat (first | refine then_normal ?_ | refine then_exit ?_ | refine then_ret ?_ | refine block_normal ?_ | refine block_ret ?_ | refine block_exit ?_ | refine block_pass rfl ?_)
                          refine c_t rfl rfl ?_
                          refine c_seq ?_
                          refine c_region ?_
                          refine o_s (.t (.d (.lit (.bool false)))) (g0 rfl) rfl rfl rfl ?_
                          refine o_nil ?_
                          repeat (first | refine then_normal ?_ | refine then_exit ?_ | refine then_ret ?_ | refine block_normal ?_ | refine block_ret ?_ | refine block_exit ?_ | refine block_pass rfl ?_)
                          refine c_ret ?_
                          repeat (first | refine then_normal ?_ | refine then_exit ?_ | refine then_ret ?_ | refine block_normal ?_ | refine block_ret ?_ | refine block_exit ?_ | refine block_pass rfl ?_)
                          obtain rfl := Option.some.inj h
                          exact end0 rfl (.refl _)
                        · refine o_s (.ref 1 5) (gy rfl rfl rfl h31) rfl rfl rfl ?_
                          refine o_s (.t (.d (.seq 2 (List.map cS_api_Member p0.Members)))) (gy rfl rfl rfl h31) rfl rfl rfl ?_
                          refine o_s (.t (.d (.lit (.int .i64 z22)))) (gy rfl rfl rfl h31) rfl rfl rfl ?_
                          obtain ⟨x32, h33, h⟩ := bind_some h
                          refine o_c (gy rfl rfl rfl h31) rfl rfl rfl (idxE h33) (idxC h33) ?_
                          refine o_s (.imm [.lit (.int .i64 x32.Role)]) (gy rfl rfl rfl h31) rfl rfl rfl ?_
                          refine o_s (.t (.d (.lit (.int .i64 x32.Role)))) (gy rfl rfl rfl h31) rfl rfl rfl ?_
                          refine o_s (.t (.d (.lit (.bool (decide (x32.Role > 4)))))) (gy rfl rfl rfl h31) rfl rfl rfl ?_
                          refine o_pk (.t (.d (.lit (.bool (decide (x32.Role > 4)))))) (b := false) h31 (g0 rfl) rfl rfl rfl rfl rfl ?_
                          refine o_nil ?_
                          repeat (first | refine then_normal ?_ | refine then_exit ?_ | refine then_ret ?_ | refine block_normal ?_ | refine block_ret ?_ | refine block_exit ?_ | refine block_pass rfl ?_)
                          rcases bif_some h with ⟨h34, h⟩ | ⟨h34, h⟩
                          · refine c_t h34 rfl ?_
                            refine c_seq ?_
                            refine c_region ?_
                            refine o_s (.t (.d (.lit (.bool false)))) (g0 rfl) rfl rfl rfl ?_
                            refine o_nil ?_
                            repeat (first | refine then_normal ?_ | refine then_exit ?_ | refine then_ret ?_ | refine block_normal ?_ | refine block_ret ?_ | refine block_exit ?_ | refine block_pass rfl ?_)
                            refine c_ret ?_
                            repeat (first | refine then_normal ?_ | refine then_exit ?_ | refine then_ret ?_ | refine block_normal ?_ | refine block_ret ?_ | refine block_exit ?_ | refine block_pass rfl ?_)
                            obtain rfl := Option.some.inj h
                            exact end0 rfl (.refl _)
                          · refine c_f h34 rfl ?_
                            refine c_skip ?_
                            repeat (first | refine then_normal ?_ | refine then_exit ?_ | refine then_ret ?_ | refine block_normal ?_ | refine block_ret ?_ | refine block_exit ?_ | refine block_pass rfl ?_)
                            refine c_region ?_
                            refine o_s (.t (.d (.lit (.int .i64 z22)))) (g0 rfl) rfl rfl rfl ?_
                            refine o_s (.t (.d (.lit (.int .i64 (wi (z22 + 1)))))) (g0 rfl) rfl rfl rfl ?_
                            refine o_s (.t (.d (.lit (.int .i64 (wi (z22 + 1)))))) (g0 rfl) rfl rfl rfl ?_
                            refine o_nil ?_
                            repeat (first | refine then_normal ?_ | refine then_exit ?_ | refine then_ret ?_ | refine block_normal ?_ | refine block_ret ?_ | refine block_exit ?_ | refine block_pass rfl ?_)
                            exact ⟨nl6, (wi (z22 + 1)), Nat.lt_succ_self nl6, h, ⟨(.refl _), ⟨(.refl _), trivial⟩⟩, rfl⟩
                    · refine c_f h23 rfl ?_
                      refine c_exit ?_
                      repeat (first | refine then_normal ?_ | refine then_exit ?_ | refine then_ret ?_ | refine block_normal ?_ | refine block_ret ?_ | refine block_exit ?_ | refine block_pass rfl ?_)
                      exact ⟨(), h, ⟨(.refl _), trivial⟩, rfl⟩
                · rintro ⟨⟩ h
                  refine c_cut (fun (_ : Unit) => [(1, .box [.d (.lit (.int .i64 p0.Err)), .d (.lit (.int .i64 p0.Number)), .d (.lit (.string ⟨⟨p0.By⟩⟩)), .d (.seq 1 (bytesD p0.Data)), .d (.seq 1 (List.map cStr p0.Names)), .d (.seq 2 (List.map cS_api_Member p0.Members)), .d (.seq 4 (List.map cS_api_Past p0.History))])]) (fun (_ : Unit) => m_R31_May_j4 p0 = some r) ?_ ?_
                  · refine c_seq ?_
                    refine c_region ?_
                    refine o_s (.t (.d (.lit (.int .i64 0)))) (g0 rfl) rfl rfl rfl ?_
                    refine o_nil ?_
                    repeat (first | refine then_normal ?_ | refine then_exit ?_ | refine then_ret ?_ | refine block_normal ?_ | refine block_ret ?_ | refine block_exit ?_ | refine block_pass rfl ?_)
                    refine c_block ?_
                    refine c_fuel (fun (z11 : Int) => [(1, .box [.d (.lit (.int .i64 p0.Err)), .d (.lit (.int .i64 p0.Number)), .d (.lit (.string ⟨⟨p0.By⟩⟩)), .d (.seq 1 (bytesD p0.Data)), .d (.seq 1 (List.map cStr p0.Names)), .d (.seq 2 (List.map cS_api_Member p0.Members)), .d (.seq 4 (List.map cS_api_Past p0.History))]), (6, .t (.d (.lit (.int .i64 z11))))]) (fun nl5 => (fun (z11 : Int) => m_R31_May_l5 p0 nl5 z11 = some r)) (p0.History.length + 1) 0 h ⟨(.refl _), ⟨(.refl _), trivial⟩⟩ rfl ?_
                    rintro nl5 z11 h
                    cases nl5 with
                    | zero => exact none_ne h
                    | succ nl5 =>
                      refine c_seq ?_
                      refine c_seq ?_
                      refine c_region ?_
                      refine o_s (.t (.d (.lit (.int .i64 z11)))) (g0 rfl) rfl rfl rfl ?_
                      refine o_s (.ref 1 6) (g0 rfl) rfl rfl rfl ?_
                      refine o_s (.t (.d (.seq 4 (List.map cS_api_Past p0.History)))) (g0 rfl) rfl rfl rfl ?_
                      refine o_c (g0 rfl) rfl rfl rfl (lenE _ _) trivial ?_
                      refine o_s (.t (.d (.lit (.bool (decide (z11 < (p0.History.length : Int))))))) (g0 rfl) rfl rfl rfl ?_
                      refine o_nil ?_
                      repeat (first | refine then_normal ?_ | refine then_exit ?_ | refine then_ret ?_ | refine block_normal ?_ | refine block_ret ?_ | refine block_exit ?_ | refine block_pass rfl ?_)
                      rcases bif_some h with ⟨h12, h⟩ | ⟨h12, h⟩
                      · refine c_t h12 rfl ?_
                        refine c_skip ?_
                        repeat (first | refine then_normal ?_ | refine then_exit ?_ | refine then_ret ?_ | refine block_normal ?_ | refine block_ret ?_ | refine block_exit ?_ | refine block_pass rfl ?_)
                        refine c_seq ?_
                        refine c_block ?_
                        refine c_seq ?_
                        refine c_region ?_
                        refine o_s (.ref 1 6) (g0 rfl) rfl rfl rfl ?_
                        refine o_s (.t (.d (.seq 4 (List.map cS_api_Past p0.History)))) (g0 rfl) rfl rfl rfl ?_
                        refine o_s (.t (.d (.lit (.int .i64 z11)))) (g0 rfl) rfl rfl rfl ?_
                        obtain ⟨x13, h14, h⟩ := bind_some h
                        refine o_c (g0 rfl) rfl rfl rfl (idxE h14) (idxC h14) ?_
                        refine o_s (.t (.agg [.lit (.int .i64 x13.Number), .lit (.int .i64 x13.Epoch), .lit (.bool x13.Gone), .lit (.string ⟨⟨x13.By⟩⟩)])) (g0 rfl) rfl rfl rfl ?_
                        refine o_s (.box [.d (.lit (.int .i64 0)), .d (.lit (.int .i64 0)), .d (.lit (.bool false)), .d (.lit (.string ⟨⟨[]⟩⟩))]) (g0 rfl) rfl rfl rfl ?_
                        refine o_st (.box [.d (.lit (.int .i64 x13.Number)), .d (.lit (.int .i64 x13.Epoch)), .d (.lit (.bool x13.Gone)), .d (.lit (.string ⟨⟨x13.By⟩⟩))]) (g0 rfl) rfl rfl rfl ?_
                        refine o_nil ?_
                        repeat (first | refine then_normal ?_ | refine then_exit ?_ | refine then_ret ?_ | refine block_normal ?_ | refine block_ret ?_ | refine block_exit ?_ | refine block_pass rfl ?_)
                        refine c_seq ?_
                        refine c_region ?_
                        refine o_s (.ref 7 0) (g0 rfl) rfl rfl rfl ?_
                        refine o_s (.t (.d (.lit (.int .i64 x13.Number)))) (g0 rfl) rfl rfl rfl ?_
                        refine o_s (.t (.d (.lit (.bool (decide (x13.Number < 1)))))) (g0 rfl) rfl rfl rfl ?_
                        refine o_s (.t (.d (.lit (.bool (decide (x13.Number < 1)))))) (g0 rfl) rfl rfl rfl ?_
                        rcases bif_some h with ⟨h15, h⟩ | ⟨h15, h⟩
                        · refine o_skip rfl rfl rfl h15 rfl rfl ?_
                          refine o_skip rfl rfl rfl h15 rfl rfl ?_
                          refine o_skip rfl rfl rfl h15 rfl rfl ?_
                          refine o_pk (.t (.d (.lit (.bool true)))) (b := true) h15 (g0 rfl) rfl rfl rfl rfl rfl ?_
                          refine o_s (.t (.d (.lit (.bool true)))) (g0 rfl) rfl rfl rfl ?_
                          refine o_skip rfl rfl rfl rfl rfl rfl ?_
                          refine o_skip rfl rfl rfl rfl rfl rfl ?_
                          refine o_skip rfl rfl rfl rfl rfl rfl ?_
                          refine o_pk (.t (.d (.lit (.bool true)))) (b := true) rfl (g0 rfl) rfl rfl rfl rfl rfl ?_
                          refine o_s (.t (.d (.lit (.bool true)))) (g0 rfl) rfl rfl rfl ?_
                          refine o_skip rfl rfl rfl rfl rfl rfl ?_
                          refine o_skip rfl rfl rfl rfl rfl rfl ?_
                          refine o_skip rfl rfl rfl rfl rfl rfl ?_
                          refine o_pk (.t (.d (.lit (.bool true)))) (b := true) rfl (g0 rfl) rfl rfl rfl rfl rfl ?_
                          refine o_s (.t (.d (.lit (.bool true)))) (g0 rfl) rfl rfl rfl ?_
                          refine o_skip rfl rfl rfl rfl rfl rfl ?_
                          refine o_skip rfl rfl rfl rfl rfl rfl ?_
                          refine o_skip rfl rfl rfl rfl rfl rfl ?_
                          refine o_skip rfl rfl rfl rfl rfl rfl ?_
                          refine o_pk (.t (.d (.lit (.bool true)))) (b := true) rfl (g0 rfl) rfl rfl rfl rfl rfl ?_
                          refine o_nil ?_
                          repeat (first | refine then_normal ?_ | refine then_exit ?_ | refine then_ret ?_ | refine block_normal ?_ | refine block_ret ?_ | refine block_exit ?_ | refine block_pass rfl ?_)
                          refine c_t rfl rfl ?_
                          refine c_seq ?_
                          refine c_region ?_
                          refine o_s (.t (.d (.lit (.bool false)))) (g0 rfl) rfl rfl rfl ?_
                          refine o_nil ?_
                          repeat (first | refine then_normal ?_ | refine then_exit ?_ | refine then_ret ?_ | refine block_normal ?_ | refine block_ret ?_ | refine block_exit ?_ | refine block_pass rfl ?_)
                          refine c_ret ?_
                          repeat (first | refine then_normal ?_ | refine then_exit ?_ | refine then_ret ?_ | refine block_normal ?_ | refine block_ret ?_ | refine block_exit ?_ | refine block_pass rfl ?_)
                          obtain rfl := Option.some.inj h
                          exact end0 rfl (.refl _)
                        · refine o_s (.ref 7 0) (gy rfl rfl rfl h15) rfl rfl rfl ?_
                          refine o_s (.t (.d (.lit (.int .i64 x13.Number)))) (gy rfl rfl rfl h15) rfl rfl rfl ?_
                          refine o_s (.t (.d (.lit (.bool (decide (x13.Number > 1099511627776)))))) (gy rfl rfl rfl h15) rfl rfl rfl ?_
                          refine o_pk (.t (.d (.lit (.bool (decide (x13.Number > 1099511627776)))))) (b := false) h15 (g0 rfl) rfl rfl rfl rfl rfl ?_
                          refine o_s (.t (.d (.lit (.bool (decide (x13.Number > 1099511627776)))))) (g0 rfl) rfl rfl rfl ?_
                          rcases bif_some h with ⟨h16, h⟩ | ⟨h16, h⟩
                          · refine o_skip rfl rfl rfl h16 rfl rfl ?_
                            refine o_skip rfl rfl rfl h16 rfl rfl ?_
                            refine o_skip rfl rfl rfl h16 rfl rfl ?_
                            refine o_pk (.t (.d (.lit (.bool true)))) (b := true) h16 (g0 rfl) rfl rfl rfl rfl rfl ?_
                            refine o_s (.t (.d (.lit (.bool true)))) (g0 rfl) rfl rfl rfl ?_
                            refine o_skip rfl rfl rfl rfl rfl rfl ?_
                            refine o_skip rfl rfl rfl rfl rfl rfl ?_
                            refine o_skip rfl rfl rfl rfl rfl rfl ?_
                            refine o_pk (.t (.d (.lit (.bool true)))) (b := true) rfl (g0 rfl) rfl rfl rfl rfl rfl ?_
                            refine o_s (.t (.d (.lit (.bool true)))) (g0 rfl) rfl rfl rfl ?_
                            refine o_skip rfl rfl rfl rfl rfl rfl ?_
                            refine o_skip rfl rfl rfl rfl rfl rfl ?_
                            refine o_skip rfl rfl rfl rfl rfl rfl ?_
                            refine o_skip rfl rfl rfl rfl rfl rfl ?_
                            refine o_pk (.t (.d (.lit (.bool true)))) (b := true) rfl (g0 rfl) rfl rfl rfl rfl rfl ?_
                            refine o_nil ?_
                            repeat (first | refine then_normal ?_ | refine then_exit ?_ | refine then_ret ?_ | refine block_normal ?_ | refine block_ret ?_ | refine block_exit ?_ | refine block_pass rfl ?_)
                            refine c_t rfl rfl ?_
                            refine c_seq ?_
                            refine c_region ?_
                            refine o_s (.t (.d (.lit (.bool false)))) (g0 rfl) rfl rfl rfl ?_
                            refine o_nil ?_
                            repeat (first | refine then_normal ?_ | refine then_exit ?_ | refine then_ret ?_ | refine block_normal ?_ | refine block_ret ?_ | refine block_exit ?_ | refine block_pass rfl ?_)
                            refine c_ret ?_
                            repeat (first | refine then_normal ?_ | refine then_exit ?_ | refine then_ret ?_ | refine block_normal ?_ | refine block_ret ?_ | refine block_exit ?_ | refine block_pass rfl ?_)
                            obtain rfl := Option.some.inj h
                            exact end0 rfl (.refl _)
                          · refine o_s (.ref 7 1) (gy rfl rfl rfl h16) rfl rfl rfl ?_
                            refine o_s (.t (.d (.lit (.int .i64 x13.Epoch)))) (gy rfl rfl rfl h16) rfl rfl rfl ?_
                            refine o_s (.t (.d (.lit (.bool (decide (x13.Epoch < 1)))))) (gy rfl rfl rfl h16) rfl rfl rfl ?_
                            refine o_pk (.t (.d (.lit (.bool (decide (x13.Epoch < 1)))))) (b := false) h16 (g0 rfl) rfl rfl rfl rfl rfl ?_
                            refine o_s (.t (.d (.lit (.bool (decide (x13.Epoch < 1)))))) (g0 rfl) rfl rfl rfl ?_
                            rcases bif_some h with ⟨h17, h⟩ | ⟨h17, h⟩
                            · refine o_skip rfl rfl rfl h17 rfl rfl ?_
                              refine o_skip rfl rfl rfl h17 rfl rfl ?_
                              refine o_skip rfl rfl rfl h17 rfl rfl ?_
                              refine o_pk (.t (.d (.lit (.bool true)))) (b := true) h17 (g0 rfl) rfl rfl rfl rfl rfl ?_
                              refine o_s (.t (.d (.lit (.bool true)))) (g0 rfl) rfl rfl rfl ?_
                              refine o_skip rfl rfl rfl rfl rfl rfl ?_
                              refine o_skip rfl rfl rfl rfl rfl rfl ?_
                              refine o_skip rfl rfl rfl rfl rfl rfl ?_
                              refine o_skip rfl rfl rfl rfl rfl rfl ?_
                              refine o_pk (.t (.d (.lit (.bool true)))) (b := true) rfl (g0 rfl) rfl rfl rfl rfl rfl ?_
                              refine o_nil ?_
                              repeat (first | refine then_normal ?_ | refine then_exit ?_ | refine then_ret ?_ | refine block_normal ?_ | refine block_ret ?_ | refine block_exit ?_ | refine block_pass rfl ?_)
                              refine c_t rfl rfl ?_
                              refine c_seq ?_
                              refine c_region ?_
                              refine o_s (.t (.d (.lit (.bool false)))) (g0 rfl) rfl rfl rfl ?_
                              refine o_nil ?_
                              repeat (first | refine then_normal ?_ | refine then_exit ?_ | refine then_ret ?_ | refine block_normal ?_ | refine block_ret ?_ | refine block_exit ?_ | refine block_pass rfl ?_)
                              refine c_ret ?_
                              repeat (first | refine then_normal ?_ | refine then_exit ?_ | refine then_ret ?_ | refine block_normal ?_ | refine block_ret ?_ | refine block_exit ?_ | refine block_pass rfl ?_)
                              obtain rfl := Option.some.inj h
                              exact end0 rfl (.refl _)
                            · refine o_s (.ref 7 1) (gy rfl rfl rfl h17) rfl rfl rfl ?_
                              refine o_s (.t (.d (.lit (.int .i64 x13.Epoch)))) (gy rfl rfl rfl h17) rfl rfl rfl ?_
                              refine o_s (.t (.d (.lit (.bool (decide (x13.Epoch > 1099511627776)))))) (gy rfl rfl rfl h17) rfl rfl rfl ?_
                              refine o_pk (.t (.d (.lit (.bool (decide (x13.Epoch > 1099511627776)))))) (b := false) h17 (g0 rfl) rfl rfl rfl rfl rfl ?_
                              refine o_s (.t (.d (.lit (.bool (decide (x13.Epoch > 1099511627776)))))) (g0 rfl) rfl rfl rfl ?_
                              rcases bif_some h with ⟨h18, h⟩ | ⟨h18, h⟩
                              · refine o_skip rfl rfl rfl h18 rfl rfl ?_
                                refine o_skip rfl rfl rfl h18 rfl rfl ?_
                                refine o_skip rfl rfl rfl h18 rfl rfl ?_
                                refine o_skip rfl rfl rfl h18 rfl rfl ?_
                                refine o_pk (.t (.d (.lit (.bool true)))) (b := true) h18 (g0 rfl) rfl rfl rfl rfl rfl ?_
                                refine o_nil ?_
                                repeat (first | refine then_normal ?_ | refine then_exit ?_ | refine then_ret ?_ | refine block_normal ?_ | refine block_ret ?_ | refine block_exit ?_ | refine block_pass rfl ?_)
                                refine c_t rfl rfl ?_
                                refine c_seq ?_
                                refine c_region ?_
                                refine o_s (.t (.d (.lit (.bool false)))) (g0 rfl) rfl rfl rfl ?_
                                refine o_nil ?_
                                repeat (first | refine then_normal ?_ | refine then_exit ?_ | refine then_ret ?_ | refine block_normal ?_ | refine block_ret ?_ | refine block_exit ?_ | refine block_pass rfl ?_)
                                refine c_ret ?_
                                repeat (first | refine then_normal ?_ | refine then_exit ?_ | refine then_ret ?_ | refine block_normal ?_ | refine block_ret ?_ | refine block_exit ?_ | refine block_pass rfl ?_)
                                obtain rfl := Option.some.inj h
                                exact end0 rfl (.refl _)
                              · refine o_s (.ref 7 3) (gy rfl rfl rfl h18) rfl rfl rfl ?_
                                refine o_s (.t (.d (.lit (.string ⟨⟨x13.By⟩⟩)))) (gy rfl rfl rfl h18) rfl rfl rfl ?_
                                obtain ⟨x19, h20, h⟩ := bind_some h
                                refine o_ca (fc_R25_Name _ _ h20) (gy rfl rfl rfl h18) rfl rfl rfl rfl rfl rfl rfl (.cons (.refl _) .nil) rfl rfl ?_
                                refine o_s (.t (.d (.lit (.bool (!x19))))) (gy rfl rfl rfl h18) rfl rfl rfl ?_
                                refine o_pk (.t (.d (.lit (.bool (!x19))))) (b := false) h18 (g0 rfl) rfl rfl rfl rfl rfl ?_
                                refine o_nil ?_
                                repeat (first | refine then_normal ?_ | refine then_exit ?_ | refine then_ret ?_ | refine block_normal ?_ | refine block_ret ?_ | refine block_exit ?_ | refine block_pass rfl ?_)
                                rcases bif_some h with ⟨h21, h⟩ | ⟨h21, h⟩
                                · refine c_t h21 rfl ?_
                                  refine c_seq ?_
                                  refine c_region ?_
                                  refine o_s (.t (.d (.lit (.bool false)))) (g0 rfl) rfl rfl rfl ?_
                                  refine o_nil ?_
                                  repeat (first | refine then_normal ?_ | refine then_exit ?_ | refine then_ret ?_ | refine block_normal ?_ | refine block_ret ?_ | refine block_exit ?_ | refine block_pass rfl ?_)
                                  refine c_ret ?_
                                  repeat (first | refine then_normal ?_ | refine then_exit ?_ | refine then_ret ?_ | refine block_normal ?_ | refine block_ret ?_ | refine block_exit ?_ | refine block_pass rfl ?_)
                                  obtain rfl := Option.some.inj h
                                  exact end0 rfl (.refl _)
                                · refine c_f h21 rfl ?_
                                  refine c_skip ?_
                                  repeat (first | refine then_normal ?_ | refine then_exit ?_ | refine then_ret ?_ | refine block_normal ?_ | refine block_ret ?_ | refine block_exit ?_ | refine block_pass rfl ?_)
                                  refine c_region ?_
                                  refine o_s (.t (.d (.lit (.int .i64 z11)))) (g0 rfl) rfl rfl rfl ?_
                                  refine o_s (.t (.d (.lit (.int .i64 (wi (z11 + 1)))))) (g0 rfl) rfl rfl rfl ?_
                                  refine o_s (.t (.d (.lit (.int .i64 (wi (z11 + 1)))))) (g0 rfl) rfl rfl rfl ?_
                                  refine o_nil ?_
                                  repeat (first | refine then_normal ?_ | refine then_exit ?_ | refine then_ret ?_ | refine block_normal ?_ | refine block_ret ?_ | refine block_exit ?_ | refine block_pass rfl ?_)
                                  exact ⟨nl5, (wi (z11 + 1)), Nat.lt_succ_self nl5, h, ⟨(.refl _), ⟨(.refl _), trivial⟩⟩, rfl⟩
                      · refine c_f h12 rfl ?_
                        refine c_exit ?_
                        repeat (first | refine then_normal ?_ | refine then_exit ?_ | refine then_ret ?_ | refine block_normal ?_ | refine block_ret ?_ | refine block_exit ?_ | refine block_pass rfl ?_)
                        exact ⟨(), h, ⟨(.refl _), trivial⟩, rfl⟩
                  · rintro ⟨⟩ h
                    refine c_seq ?_
                    refine c_region ?_
                    refine o_s (.t (.agg [.lit (.int .i64 p0.Err), .lit (.int .i64 p0.Number), .lit (.string ⟨⟨p0.By⟩⟩), .seq 1 (bytesD p0.Data), .seq 1 (List.map cStr p0.Names), .seq 2 (List.map cS_api_Member p0.Members), .seq 4 (List.map cS_api_Past p0.History)])) (g0 rfl) rfl rfl rfl ?_
                    obtain ⟨x9, h10, h⟩ := bind_some h
                    refine o_ca (fc_R31_Bytes _ _ h10) (g0 rfl) rfl rfl rfl rfl rfl rfl rfl (.cons (.refl _) .nil) rfl rfl ?_
                    refine o_c (g0 rfl) rfl rfl rfl (lenE _ _) trivial ?_
                    refine o_s (.t (.d (.lit (.bool (decide ((x9.length : Int) ≤ 1048576)))))) (g0 rfl) rfl rfl rfl ?_
                    refine o_s (.t (.d (.lit (.bool (decide ((x9.length : Int) ≤ 1048576)))))) (g0 rfl) rfl rfl rfl ?_
                    refine o_nil ?_
                    repeat (first | refine then_normal ?_ | refine then_exit ?_ | refine then_ret ?_ | refine block_normal ?_ | refine block_ret ?_ | refine block_exit ?_ | refine block_pass rfl ?_)
                    refine c_ret ?_
                    repeat (first | refine then_normal ?_ | refine then_exit ?_ | refine then_ret ?_ | refine block_normal ?_ | refine block_ret ?_ | refine block_exit ?_ | refine block_pass rfl ?_)
                    obtain rfl := Option.some.inj h
                    exact end0 rfl (.refl _)

theorem fc_answer_things_string (p0 : V) (F1 : Nat) (C1 : List (List D)) (p1 : (V → Option ((List UInt8) × Bool))) (hp1 : ∀ (a0 : V) r, p1 a0 = some r → FC Try.prog F1 ([.t (.agg [.lit (.int .i64 a0.k), .lit (.int .i64 a0.n), .seq 1 (bytesD a0.b), .seq 4 (List.map V.cells a0.l)])] ++ C1.map A.imm) [] (.tup [.d (.lit (.string ⟨⟨r.1⟩⟩)), .d (.lit (.bool r.2))])) (hf1 : ∃ fn, Try.prog.funcs[F1]? = some fn ∧ fn.body.isNone = false ∧ (fn.name == "runtime.NumGoroutine") = false) (r : ((List (List UInt8)) × Bool)) (h : m_answer_things_string p0 p1 = some r) : FC Try.prog 53 [.t (.agg [.lit (.int .i64 p0.k), .lit (.int .i64 p0.n), .seq 1 (bytesD p0.b), .seq 4 (List.map V.cells p0.l)]), .t (.d (.clo F1 C1))] [] (.tup [.d (.seq 1 (List.map cStr r.1)), .d (.lit (.bool r.2))]) := by
  refine fc_mk (rs := [.tmp 4, .tmp 5]) (n := 32) Try.func53 rfl rfl (Nat.le_of_ble_eq_true rfl) rfl (pins := []) rfl (L := [(0, .t (.agg [.lit (.int .i64 p0.k), .lit (.int .i64 p0.n), .seq 1 (bytesD p0.b), .seq 4 (List.map V.cells p0.l)])), (1, .t (.d (.clo F1 C1)))]) rfl ?_
  refine c_seq ?_
  refine c_region ?_
  refine o_s (.box [.d (.lit (.int .i64 p0.k)), .d (.lit (.int .i64 p0.n)), .d (.seq 1 (bytesD p0.b)), .d (.seq 4 (List.map V.cells p0.l))]) (g0 rfl) rfl rfl rfl ?_
  refine o_s (.t (.d (.lit (.slice none 0 0)))) (g0 rfl) rfl rfl rfl ?_
  refine o_s (.t (.d (.lit (.bool false)))) (g0 rfl) rfl rfl rfl ?_
  refine o_nil ?_
  repeat (first | refine then_normal ?_ | refine then_exit ?_ | refine then_ret ?_ | refine block_normal ?_ | refine block_ret ?_ | refine block_exit ?_ | refine block_pass rfl ?_)
  refine c_seq ?_
  refine c_region ?_
  refine o_s (.t (.d (.lit (.slice none 0 0)))) (g0 rfl) rfl rfl rfl ?_
  refine o_nil ?_
  repeat (first | refine then_normal ?_ | refine then_exit ?_ | refine then_ret ?_ | refine block_normal ?_ | refine block_ret ?_ | refine block_exit ?_ | refine block_pass rfl ?_)
  refine c_cut (fun (y1 : (List (List UInt8))) => [(6, .t (.own 9 1 (List.map cStr y1)))]) (fun (y1 : (List (List UInt8))) => m_answer_things_string_j1 y1 = some r) ?_ ?_
  · refine c_seq ?_
    refine c_region ?_
    refine o_s (.ref 2 3) (g0 rfl) rfl rfl rfl ?_
    refine o_s (.t (.d (.seq 4 (List.map V.cells p0.l)))) (g0 rfl) rfl rfl rfl ?_
    refine o_c (g0 rfl) rfl rfl rfl (lenE _ _) trivial ?_
    refine o_s (.t (.d (.lit (.int .i64 0)))) (g0 rfl) rfl rfl rfl ?_
    refine o_nil ?_
    repeat (first | refine then_normal ?_ | refine then_exit ?_ | refine then_ret ?_ | refine block_normal ?_ | refine block_ret ?_ | refine block_exit ?_ | refine block_pass rfl ?_)
    refine c_block ?_
    refine c_fuel (fun (q : (List (List UInt8)) × Int) => [(1, .t (.d (.clo F1 C1))), (6, .t (.own 9 1 (List.map cStr q.1))), (12, .t (.d (.seq 4 (List.map V.cells p0.l)))), (13, .t (.d (.lit (.int .i64 (p0.l.length : Int))))), (14, .t (.d (.lit (.int .i64 q.2))))]) (fun nl2 => (fun (q : (List (List UInt8)) × Int) => m_answer_things_string_l2 p0 p1 nl2 q.1 q.2 = some r)) (p0.l.length + 1) ([], 0) h ⟨(.refl _), ⟨(.t (.nilOwn _ _)), ⟨(.refl _), ⟨(.refl _), ⟨(.refl _), trivial⟩⟩⟩⟩⟩ rfl ?_
    rintro nl2 ⟨z2, z3⟩ h
    cases nl2 with
    | zero => exact none_ne h
    | succ nl2 =>
      refine c_seq ?_
      refine c_region ?_
      refine o_s (.t (.d (.lit (.bool (decide (z3 < (p0.l.length : Int))))))) (g0 rfl) rfl rfl rfl ?_
      refine o_nil ?_
      repeat (first | refine then_normal ?_ | refine then_exit ?_ | refine then_ret ?_ | refine block_normal ?_ | refine block_ret ?_ | refine block_exit ?_ | refine block_pass rfl ?_)
      refine c_seq ?_
      rcases bif_some h with ⟨h4, h⟩ | ⟨h4, h⟩
      · refine c_t h4 rfl ?_
        refine c_skip ?_
        repeat (first | refine then_normal ?_ | refine then_exit ?_ | refine then_ret ?_ | refine block_normal ?_ | refine block_ret ?_ | refine block_exit ?_ | refine block_pass rfl ?_)
        refine c_seq ?_
        refine c_block ?_
        refine c_seq ?_
        refine c_region ?_
        obtain ⟨x5, h6, h⟩ := bind_some h
        refine o_c (g0 rfl) rfl rfl rfl (idxE' V.cells_eq h6) (idxC h6) ?_
        refine o_s (.t (.agg [.lit (.int .i64 x5.k), .lit (.int .i64 x5.n), .seq 1 (bytesD x5.b), .seq 4 (List.map V.cells x5.l)])) (g0 rfl) rfl rfl rfl ?_
        refine o_s (.box [.d (.lit (.int .i64 0)), .d (.lit (.int .i64 0)), .d (.lit (.slice none 0 0)), .d (.lit (.slice none 0 0))]) (g0 rfl) rfl rfl rfl ?_
        refine o_st (.box [.d (.lit (.int .i64 x5.k)), .d (.lit (.int .i64 x5.n)), .d (.seq 1 (bytesD x5.b)), .d (.seq 4 (List.map V.cells x5.l))]) (g0 rfl) rfl rfl rfl ?_
        refine o_nil ?_
        repeat (first | refine then_normal ?_ | refine then_exit ?_ | refine then_ret ?_ | refine block_normal ?_ | refine block_ret ?_ | refine block_exit ?_ | refine block_pass rfl ?_)
        refine c_seq ?_
        refine c_region ?_
        refine o_s (.t (.d (.clo F1 C1))) (g0 rfl) rfl rfl rfl ?_
        refine o_s (.t (.agg [.lit (.int .i64 x5.k), .lit (.int .i64 x5.n), .seq 1 (bytesD x5.b), .seq 4 (List.map V.cells x5.l)])) (g0 rfl) rfl rfl rfl ?_
        obtain ⟨x7, h8, h⟩ := bind_some h
        refine o_cc (hp1 _ _ h8) (g0 rfl) rfl rfl rfl rfl hf1.choose_spec.1 hf1.choose_spec.2.1 hf1.choose_spec.2.2 (.cons (.refl _) .nil) rfl rfl ?_
        refine o_s (.tup [.d (.lit (.string ⟨⟨x7.1⟩⟩)), .d (.lit (.bool x7.2))]) (g0 rfl) rfl rfl rfl ?_
        refine o_s (.t (.d (.lit (.string ⟨⟨x7.1⟩⟩)))) (g0 rfl) rfl rfl rfl ?_
        refine o_s (.t (.d (.lit (.bool x7.2)))) (g0 rfl) rfl rfl rfl ?_
        refine o_s (.t (.d (.lit (.string ⟨⟨x7.1⟩⟩)))) (g0 rfl) rfl rfl rfl ?_
        refine o_s (.t (.d (.lit (.bool x7.2)))) (g0 rfl) rfl rfl rfl ?_
        refine o_nil ?_
        repeat (first | refine then_normal ?_ | refine then_exit ?_ | refine then_ret ?_ | refine block_normal ?_ | refine block_ret ?_ | refine block_exit ?_ | refine block_pass rfl ?_)
        refine c_seq ?_
        refine c_seq ?_
        refine c_region ?_
        refine o_s (.t (.d (.lit (.bool x7.2)))) (g0 rfl) rfl rfl rfl ?_
        refine o_s (.t (.d (.lit (.bool (!x7.2))))) (g0 rfl) rfl rfl rfl ?_
        refine o_nil ?_
        repeat (first | refine then_normal ?_ | refine then_exit ?_ | refine then_ret ?_ | refine block_normal ?_ | refine block_ret ?_ | refine block_exit ?_ | refine block_pass rfl ?_)
        rcases bif_some h with ⟨h9, h⟩ | ⟨h9, h⟩
        · refine c_t h9 rfl ?_
          refine c_seq ?_
          refine c_region ?_
          refine o_s (.t (.d (.lit (.slice none 0 0)))) (g0 rfl) rfl rfl rfl ?_
          refine o_s (.t (.d (.lit (.bool false)))) (g0 rfl) rfl rfl rfl ?_
          refine o_nil ?_
          repeat (first | refine then_normal ?_ | refine then_exit ?_ | refine then_ret ?_ | refine block_normal ?_ | refine block_ret ?_ | refine block_exit ?_ | refine block_pass rfl ?_)
          refine c_ret ?_
          repeat (first | refine then_normal ?_ | refine then_exit ?_ | refine then_ret ?_ | refine block_normal ?_ | refine block_ret ?_ | refine block_exit ?_ | refine block_pass rfl ?_)
          obtain rfl := Option.some.inj h
          exact end0 rfl (.tup (.cons (.d (.nil _)) (.cons (.refl _) .nil)))
        · refine c_f h9 rfl ?_
          refine c_skip ?_
          repeat (first | refine then_normal ?_ | refine then_exit ?_ | refine then_ret ?_ | refine block_normal ?_ | refine block_ret ?_ | refine block_exit ?_ | refine block_pass rfl ?_)
          refine c_region ?_
          refine o_2 (.t (.d (.seq 1 (List.map cStr z2)))) (.t (.own 9 1 (List.map cStr z2))) (g0 rfl) rfl rfl rfl ?_
          refine o_s (.t (.d (.lit (.string ⟨⟨x7.1⟩⟩)))) (g0 rfl) rfl rfl rfl ?_
          refine o_s (.t (.own 9 1 (List.map cStr [x7.1]))) (g0 rfl) rfl rfl rfl ?_
          obtain ⟨x10, h11, h⟩ := bind_some h
          refine o_2c (g0 rfl) rfl rfl rfl (appE (c := cStr) h11) (appC (c := cStr) h11) ?_
          refine o_2 (.t (.d (.seq 1 (List.map cStr x10)))) (.t (.own 9 1 (List.map cStr x10))) (g0 rfl) rfl rfl rfl ?_
          refine o_nil ?_
          repeat (first | refine then_normal ?_ | refine then_exit ?_ | refine then_ret ?_ | refine block_normal ?_ | refine block_ret ?_ | refine block_exit ?_ | refine block_pass rfl ?_)
          refine c_region ?_
          refine o_s (.t (.d (.lit (.int .i64 (wi (z3 + 1)))))) (g0 rfl) rfl rfl rfl ?_
          refine o_s (.t (.d (.lit (.int .i64 (wi (z3 + 1)))))) (g0 rfl) rfl rfl rfl ?_
          refine o_nil ?_
          repeat (first | refine then_normal ?_ | refine then_exit ?_ | refine then_ret ?_ | refine block_normal ?_ | refine block_ret ?_ | refine block_exit ?_ | refine block_pass rfl ?_)
          exact ⟨nl2, (x10, (wi (z3 + 1))), Nat.lt_succ_self nl2, h, ⟨(.refl _), ⟨(.refl _), ⟨(.refl _), ⟨(.refl _), ⟨(.refl _), trivial⟩⟩⟩⟩⟩, rfl⟩
      · refine c_f h4 rfl ?_
        refine c_exit ?_
        repeat (first | refine then_normal ?_ | refine then_exit ?_ | refine then_ret ?_ | refine block_normal ?_ | refine block_ret ?_ | refine block_exit ?_ | refine block_pass rfl ?_)
        exact ⟨z2, h, ⟨(.refl _), trivial⟩, rfl⟩
  · rintro y1 h
    refine c_seq ?_
    refine c_region ?_
    refine o_2 (.t (.d (.seq 1 (List.map cStr y1)))) (.t (.own 9 1 (List.map cStr y1))) (g0 rfl) rfl rfl rfl ?_
    refine o_2 (.t (.d (.seq 1 (List.map cStr y1)))) (.t (.own 9 1 (List.map cStr y1))) (g0 rfl) rfl rfl rfl ?_
    refine o_s (.t (.d (.lit (.bool true)))) (g0 rfl) rfl rfl rfl ?_
    refine o_nil ?_
    repeat (first | refine then_normal ?_ | refine then_exit ?_ | refine then_ret ?_ | refine block_normal ?_ | refine block_ret ?_ | refine block_exit ?_ | refine block_pass rfl ?_)
    refine c_ret ?_
    repeat (first | refine then_normal ?_ | refine then_exit ?_ | refine then_ret ?_ | refine block_normal ?_ | refine block_ret ?_ | refine block_exit ?_ | refine block_pass rfl ?_)
    obtain rfl := Option.some.inj h
    exact end0 rfl (.tup (.cons (.refl _) (.cons (.refl _) .nil)))

theorem fc_answer_name (p0 : V) (r : ((List UInt8) × Bool)) (h : m_answer_name p0 = some r) : FC Try.prog 54 [.t (.agg [.lit (.int .i64 p0.k), .lit (.int .i64 p0.n), .seq 1 (bytesD p0.b), .seq 4 (List.map V.cells p0.l)])] [] (.tup [.d (.lit (.string ⟨⟨r.1⟩⟩)), .d (.lit (.bool r.2))]) := by
  refine fc_mk (rs := [.tmp 2, .tmp 3]) (n := 10) Try.func54 rfl rfl (Nat.le_of_ble_eq_true rfl) rfl (pins := []) rfl (L := [(0, .t (.agg [.lit (.int .i64 p0.k), .lit (.int .i64 p0.n), .seq 1 (bytesD p0.b), .seq 4 (List.map V.cells p0.l)]))]) rfl ?_
  refine c_seq ?_
  refine c_region ?_
  refine o_s (.box [.d (.lit (.int .i64 p0.k)), .d (.lit (.int .i64 p0.n)), .d (.seq 1 (bytesD p0.b)), .d (.seq 4 (List.map V.cells p0.l))]) (g0 rfl) rfl rfl rfl ?_
  refine o_s (.t (.d (.lit (.string ⟨⟨[]⟩⟩)))) (g0 rfl) rfl rfl rfl ?_
  refine o_s (.t (.d (.lit (.bool false)))) (g0 rfl) rfl rfl rfl ?_
  refine o_nil ?_
  repeat (first | refine then_normal ?_ | refine then_exit ?_ | refine then_ret ?_ | refine block_normal ?_ | refine block_ret ?_ | refine block_exit ?_ | refine block_pass rfl ?_)
  refine c_seq ?_
  refine c_draw mixed (by kernel_rfl) ?_
  refine d_s (.ref 1 2) rfl (dg0 rfl) rfl rfl rfl rfl ?_
  refine d_s (.t (.d (.seq 1 (bytesD p0.b)))) rfl (dg0 rfl) rfl rfl rfl rfl ?_
  refine d_c rfl (dg0 rfl) rfl rfl rfl rfl (strE _) (isB_bytes _) ?_
  refine d_s (.ref 1 0) rfl (dg0 rfl) rfl rfl rfl rfl ?_
  refine d_s (.t (.d (.lit (.int .i64 p0.k)))) rfl (dg0 rfl) rfl rfl rfl rfl ?_
  refine d_s (.t (.d (.lit (.bool (p0.k == 2))))) rfl (dg0 rfl) rfl rfl rfl rfl ?_
  refine d_s (.t (.d (.lit (.string ⟨⟨p0.b⟩⟩)))) rfl (dg0 rfl) rfl rfl rfl rfl ?_
  refine d_s (.t (.d (.lit (.bool (p0.k == 2))))) rfl (dg0 rfl) rfl rfl rfl rfl ?_
  refine d_nil (by kernel_rfl) ?_
  repeat (first | refine then_normal ?_ | refine then_exit ?_ | refine then_ret ?_ | refine block_normal ?_ | refine block_ret ?_ | refine block_exit ?_ | refine block_pass rfl ?_)
  refine c_ret ?_
  repeat (first | refine then_normal ?_ | refine then_exit ?_ | refine then_ret ?_ | refine block_normal ?_ | refine block_ret ?_ | refine block_exit ?_ | refine block_pass rfl ?_)
  obtain rfl := Option.some.inj h
  exact end0 rfl (.tup (.cons (.refl _) (.cons (.refl _) .nil)))

theorem fc_answer_things_Member (p0 : V) (F1 : Nat) (C1 : List (List D)) (p1 : (V → Option (S_api_Member × Bool))) (hp1 : ∀ (a0 : V) r, p1 a0 = some r → FC Try.prog F1 ([.t (.agg [.lit (.int .i64 a0.k), .lit (.int .i64 a0.n), .seq 1 (bytesD a0.b), .seq 4 (List.map V.cells a0.l)])] ++ C1.map A.imm) [] (.tup [.agg [.lit (.string ⟨⟨r.1.Name⟩⟩), .lit (.int .i64 r.1.Role)], .d (.lit (.bool r.2))])) (hf1 : ∃ fn, Try.prog.funcs[F1]? = some fn ∧ fn.body.isNone = false ∧ (fn.name == "runtime.NumGoroutine") = false) (r : ((List S_api_Member) × Bool)) (h : m_answer_things_Member p0 p1 = some r) : FC Try.prog 55 [.t (.agg [.lit (.int .i64 p0.k), .lit (.int .i64 p0.n), .seq 1 (bytesD p0.b), .seq 4 (List.map V.cells p0.l)]), .t (.d (.clo F1 C1))] [] (.tup [.d (.seq 2 (List.map cS_api_Member r.1)), .d (.lit (.bool r.2))]) := by
  refine fc_mk (rs := [.tmp 4, .tmp 5]) (n := 32) Try.func55 rfl rfl (Nat.le_of_ble_eq_true rfl) rfl (pins := []) rfl (L := [(0, .t (.agg [.lit (.int .i64 p0.k), .lit (.int .i64 p0.n), .seq 1 (bytesD p0.b), .seq 4 (List.map V.cells p0.l)])), (1, .t (.d (.clo F1 C1)))]) rfl ?_
  refine c_seq ?_
  refine c_region ?_
  refine o_s (.box [.d (.lit (.int .i64 p0.k)), .d (.lit (.int .i64 p0.n)), .d (.seq 1 (bytesD p0.b)), .d (.seq 4 (List.map V.cells p0.l))]) (g0 rfl) rfl rfl rfl ?_
  refine o_s (.t (.d (.lit (.slice none 0 0)))) (g0 rfl) rfl rfl rfl ?_
  refine o_s (.t (.d (.lit (.bool false)))) (g0 rfl) rfl rfl rfl ?_
  refine o_nil ?_
  repeat (first | refine then_normal ?_ | refine then_exit ?_ | refine then_ret ?_ | refine block_normal ?_ | refine block_ret ?_ | refine block_exit ?_ | refine block_pass rfl ?_)
  refine c_seq ?_
  refine c_region ?_
  refine o_s (.t (.d (.lit (.slice none 0 0)))) (g0 rfl) rfl rfl rfl ?_
  refine o_nil ?_
  repeat (first | refine then_normal ?_ | refine then_exit ?_ | refine then_ret ?_ | refine block_normal ?_ | refine block_ret ?_ | refine block_exit ?_ | refine block_pass rfl ?_)
  refine c_cut (fun (y1 : (List S_api_Member)) => [(6, .t (.own 55 2 (List.map cS_api_Member y1)))]) (fun (y1 : (List S_api_Member)) => m_answer_things_Member_j1 y1 = some r) ?_ ?_
  · refine c_seq ?_
    refine c_region ?_
    refine o_s (.ref 2 3) (g0 rfl) rfl rfl rfl ?_
    refine o_s (.t (.d (.seq 4 (List.map V.cells p0.l)))) (g0 rfl) rfl rfl rfl ?_
    refine o_c (g0 rfl) rfl rfl rfl (lenE _ _) trivial ?_
    refine o_s (.t (.d (.lit (.int .i64 0)))) (g0 rfl) rfl rfl rfl ?_
    refine o_nil ?_
    repeat (first | refine then_normal ?_ | refine then_exit ?_ | refine then_ret ?_ | refine block_normal ?_ | refine block_ret ?_ | refine block_exit ?_ | refine block_pass rfl ?_)
    refine c_block ?_
    refine c_fuel (fun (q : (List S_api_Member) × Int) => [(1, .t (.d (.clo F1 C1))), (6, .t (.own 55 2 (List.map cS_api_Member q.1))), (12, .t (.d (.seq 4 (List.map V.cells p0.l)))), (13, .t (.d (.lit (.int .i64 (p0.l.length : Int))))), (14, .t (.d (.lit (.int .i64 q.2))))]) (fun nl2 => (fun (q : (List S_api_Member) × Int) => m_answer_things_Member_l2 p0 p1 nl2 q.1 q.2 = some r)) (p0.l.length + 1) ([], 0) h ⟨(.refl _), ⟨(.t (.nilOwn _ _)), ⟨(.refl _), ⟨(.refl _), ⟨(.refl _), trivial⟩⟩⟩⟩⟩ rfl ?_
    rintro nl2 ⟨z2, z3⟩ h
    cases nl2 with
    | zero => exact none_ne h
    | succ nl2 =>
      refine c_seq ?_
      refine c_region ?_
      refine o_s (.t (.d (.lit (.bool (decide (z3 < (p0.l.length : Int))))))) (g0 rfl) rfl rfl rfl ?_
      refine o_nil ?_
      repeat (first | refine then_normal ?_ | refine then_exit ?_ | refine then_ret ?_ | refine block_normal ?_ | refine block_ret ?_ | refine block_exit ?_ | refine block_pass rfl ?_)
      refine c_seq ?_
      rcases bif_some h with ⟨h4, h⟩ | ⟨h4, h⟩
      · refine c_t h4 rfl ?_
        refine c_skip ?_
        repeat (first | refine then_normal ?_ | refine then_exit ?_ | refine then_ret ?_ | refine block_normal ?_ | refine block_ret ?_ | refine block_exit ?_ | refine block_pass rfl ?_)
        refine c_seq ?_
        refine c_block ?_
        refine c_seq ?_
        refine c_region ?_
        obtain ⟨x5, h6, h⟩ := bind_some h
        refine o_c (g0 rfl) rfl rfl rfl (idxE' V.cells_eq h6) (idxC h6) ?_
        refine o_s (.t (.agg [.lit (.int .i64 x5.k), .lit (.int .i64 x5.n), .seq 1 (bytesD x5.b), .seq 4 (List.map V.cells x5.l)])) (g0 rfl) rfl rfl rfl ?_
        refine o_s (.box [.d (.lit (.int .i64 0)), .d (.lit (.int .i64 0)), .d (.lit (.slice none 0 0)), .d (.lit (.slice none 0 0))]) (g0 rfl) rfl rfl rfl ?_
        refine o_st (.box [.d (.lit (.int .i64 x5.k)), .d (.lit (.int .i64 x5.n)), .d (.seq 1 (bytesD x5.b)), .d (.seq 4 (List.map V.cells x5.l))]) (g0 rfl) rfl rfl rfl ?_
        refine o_nil ?_
        repeat (first | refine then_normal ?_ | refine then_exit ?_ | refine then_ret ?_ | refine block_normal ?_ | refine block_ret ?_ | refine block_exit ?_ | refine block_pass rfl ?_)
        refine c_seq ?_
        refine c_region ?_
        refine o_s (.t (.d (.clo F1 C1))) (g0 rfl) rfl rfl rfl ?_
        refine o_s (.t (.agg [.lit (.int .i64 x5.k), .lit (.int .i64 x5.n), .seq 1 (bytesD x5.b), .seq 4 (List.map V.cells x5.l)])) (g0 rfl) rfl rfl rfl ?_
        obtain ⟨x7, h8, h⟩ := bind_some h
        refine o_cc (hp1 _ _ h8) (g0 rfl) rfl rfl rfl rfl hf1.choose_spec.1 hf1.choose_spec.2.1 hf1.choose_spec.2.2 (.cons (.refl _) .nil) rfl rfl ?_
        refine o_s (.tup [.agg [.lit (.string ⟨⟨x7.1.Name⟩⟩), .lit (.int .i64 x7.1.Role)], .d (.lit (.bool x7.2))]) (g0 rfl) rfl rfl rfl ?_
        refine o_s (.t (.agg [.lit (.string ⟨⟨x7.1.Name⟩⟩), .lit (.int .i64 x7.1.Role)])) (g0 rfl) rfl rfl rfl ?_
        refine o_s (.t (.d (.lit (.bool x7.2)))) (g0 rfl) rfl rfl rfl ?_
        refine o_s (.box [.d (.lit (.string ⟨⟨[]⟩⟩)), .d (.lit (.int .i64 0))]) (g0 rfl) rfl rfl rfl ?_
        refine o_st (.box [.d (.lit (.string ⟨⟨x7.1.Name⟩⟩)), .d (.lit (.int .i64 x7.1.Role))]) (g0 rfl) rfl rfl rfl ?_
        refine o_s (.t (.d (.lit (.bool x7.2)))) (g0 rfl) rfl rfl rfl ?_
        refine o_nil ?_
        repeat (first | refine then_normal ?_ | refine then_exit ?_ | refine then_ret ?_ | refine block_normal ?_ | refine block_ret ?_ | refine block_exit ?_ | refine block_pass rfl ?_)
        refine c_seq ?_
        refine c_seq ?_
        refine c_region ?_
        refine o_s (.t (.d (.lit (.bool x7.2)))) (g0 rfl) rfl rfl rfl ?_
        refine o_s (.t (.d (.lit (.bool (!x7.2))))) (g0 rfl) rfl rfl rfl ?_
        refine o_nil ?_
        repeat (first | refine then_normal ?_ | refine then_exit ?_ | refine then_ret ?_ | refine block_normal ?_ | refine block_ret ?_ | refine block_exit ?_ | refine block_pass rfl ?_)
        rcases bif_some h with ⟨h9, h⟩ | ⟨h9, h⟩
        · refine c_t h9 rfl ?_
          refine c_seq ?_
          refine c_region ?_
          refine o_s (.t (.d (.lit (.slice none 0 0)))) (g0 rfl) rfl rfl rfl ?_
          refine o_s (.t (.d (.lit (.bool false)))) (g0 rfl) rfl rfl rfl ?_
          refine o_nil ?_
          repeat (first | refine then_normal ?_ | refine then_exit ?_ | refine then_ret ?_ | refine block_normal ?_ | refine block_ret ?_ | refine block_exit ?_ | refine block_pass rfl ?_)
          refine c_ret ?_
          repeat (first | refine then_normal ?_ | refine then_exit ?_ | refine then_ret ?_ | refine block_normal ?_ | refine block_ret ?_ | refine block_exit ?_ | refine block_pass rfl ?_)
          obtain rfl := Option.some.inj h
          exact end0 rfl (.tup (.cons (.d (.nil _)) (.cons (.refl _) .nil)))
        · refine c_f h9 rfl ?_
          refine c_skip ?_
          repeat (first | refine then_normal ?_ | refine then_exit ?_ | refine then_ret ?_ | refine block_normal ?_ | refine block_ret ?_ | refine block_exit ?_ | refine block_pass rfl ?_)
          refine c_region ?_
          refine o_2 (.t (.d (.seq 2 (List.map cS_api_Member z2)))) (.t (.own 55 2 (List.map cS_api_Member z2))) (g0 rfl) rfl rfl rfl ?_
          refine o_s (.t (.agg [.lit (.string ⟨⟨x7.1.Name⟩⟩), .lit (.int .i64 x7.1.Role)])) (g0 rfl) rfl rfl rfl ?_
          refine o_s (.t (.own 55 2 (List.map cS_api_Member [x7.1]))) (g0 rfl) rfl rfl rfl ?_
          obtain ⟨x10, h11, h⟩ := bind_some h
          refine o_2c (g0 rfl) rfl rfl rfl (appE (c := cS_api_Member) h11) (appC (c := cS_api_Member) h11) ?_
          refine o_2 (.t (.d (.seq 2 (List.map cS_api_Member x10)))) (.t (.own 55 2 (List.map cS_api_Member x10))) (g0 rfl) rfl rfl rfl ?_
          refine o_nil ?_
          repeat (first | refine then_normal ?_ | refine then_exit ?_ | refine then_ret ?_ | refine block_normal ?_ | refine block_ret ?_ | refine block_exit ?_ | refine block_pass rfl ?_)
          refine c_region ?_
          refine o_s (.t (.d (.lit (.int .i64 (wi (z3 + 1)))))) (g0 rfl) rfl rfl rfl ?_
          refine o_s (.t (.d (.lit (.int .i64 (wi (z3 + 1)))))) (g0 rfl) rfl rfl rfl ?_
          refine o_nil ?_
          repeat (first | refine then_normal ?_ | refine then_exit ?_ | refine then_ret ?_ | refine block_normal ?_ | refine block_ret ?_ | refine block_exit ?_ | refine block_pass rfl ?_)
          exact ⟨nl2, (x10, (wi (z3 + 1))), Nat.lt_succ_self nl2, h, ⟨(.refl _), ⟨(.refl _), ⟨(.refl _), ⟨(.refl _), ⟨(.refl _), trivial⟩⟩⟩⟩⟩, rfl⟩
      · refine c_f h4 rfl ?_
        refine c_exit ?_
        repeat (first | refine then_normal ?_ | refine then_exit ?_ | refine then_ret ?_ | refine block_normal ?_ | refine block_ret ?_ | refine block_exit ?_ | refine block_pass rfl ?_)
        exact ⟨z2, h, ⟨(.refl _), trivial⟩, rfl⟩
  · rintro y1 h
    refine c_seq ?_
    refine c_region ?_
    refine o_2 (.t (.d (.seq 2 (List.map cS_api_Member y1)))) (.t (.own 55 2 (List.map cS_api_Member y1))) (g0 rfl) rfl rfl rfl ?_
    refine o_2 (.t (.d (.seq 2 (List.map cS_api_Member y1)))) (.t (.own 55 2 (List.map cS_api_Member y1))) (g0 rfl) rfl rfl rfl ?_
    refine o_s (.t (.d (.lit (.bool true)))) (g0 rfl) rfl rfl rfl ?_
    refine o_nil ?_
    repeat (first | refine then_normal ?_ | refine then_exit ?_ | refine then_ret ?_ | refine block_normal ?_ | refine block_ret ?_ | refine block_exit ?_ | refine block_pass rfl ?_)
    refine c_ret ?_
    repeat (first | refine then_normal ?_ | refine then_exit ?_ | refine then_ret ?_ | refine block_normal ?_ | refine block_ret ?_ | refine block_exit ?_ | refine block_pass rfl ?_)
    obtain rfl := Option.some.inj h
    exact end0 rfl (.tup (.cons (.refl _) (.cons (.refl _) .nil)))

theorem fc_answer_Read_c1 (p0 : V) (r : (S_api_Member × Bool)) (h : m_answer_Read_c1 p0 = some r) : FC Try.prog 56 [.t (.agg [.lit (.int .i64 p0.k), .lit (.int .i64 p0.n), .seq 1 (bytesD p0.b), .seq 4 (List.map V.cells p0.l)])] [] (.tup [.agg [.lit (.string ⟨⟨r.1.Name⟩⟩), .lit (.int .i64 r.1.Role)], .d (.lit (.bool r.2))]) := by
  refine fc_mk (rs := [.cell 2 55, .tmp 3]) (n := 25) Try.func56 rfl rfl (Nat.le_of_ble_eq_true rfl) rfl (pins := []) rfl (L := [(0, .t (.agg [.lit (.int .i64 p0.k), .lit (.int .i64 p0.n), .seq 1 (bytesD p0.b), .seq 4 (List.map V.cells p0.l)]))]) rfl ?_
  refine c_seq ?_
  refine c_region ?_
  refine o_s (.box [.d (.lit (.int .i64 p0.k)), .d (.lit (.int .i64 p0.n)), .d (.seq 1 (bytesD p0.b)), .d (.seq 4 (List.map V.cells p0.l))]) (g0 rfl) rfl rfl rfl ?_
  refine o_s (.box [.d (.lit (.string ⟨⟨[]⟩⟩)), .d (.lit (.int .i64 0))]) (g0 rfl) rfl rfl rfl ?_
  refine o_s (.t (.d (.lit (.bool false)))) (g0 rfl) rfl rfl rfl ?_
  refine o_nil ?_
  repeat (first | refine then_normal ?_ | refine then_exit ?_ | refine then_ret ?_ | refine block_normal ?_ | refine block_ret ?_ | refine block_exit ?_ | refine block_pass rfl ?_)
  refine c_seq ?_
  refine c_region ?_
  refine o_s (.t (.agg [.lit (.int .i64 p0.k), .lit (.int .i64 p0.n), .seq 1 (bytesD p0.b), .seq 4 (List.map V.cells p0.l)])) (g0 rfl) rfl rfl rfl ?_
  refine o_s (.t (.own 3 1 (List.map cI64 [2, 1]))) (g0 rfl) rfl rfl rfl ?_
  obtain ⟨x1, h2, h⟩ := bind_some h
  refine o_ca (fc_codec_Fields _ _ _ h2) (g0 rfl) rfl rfl rfl rfl rfl rfl rfl (.cons (.refl _) (.cons (.refl _) .nil)) rfl rfl ?_
  refine o_s (.tup [.d (.seq 4 (List.map V.cells x1.1)), .d (.lit (.bool x1.2))]) (g0 rfl) rfl rfl rfl ?_
  refine o_s (.t (.d (.seq 4 (List.map V.cells x1.1)))) (g0 rfl) rfl rfl rfl ?_
  refine o_s (.t (.d (.lit (.bool x1.2)))) (g0 rfl) rfl rfl rfl ?_
  refine o_s (.t (.d (.seq 4 (List.map V.cells x1.1)))) (g0 rfl) rfl rfl rfl ?_
  refine o_s (.t (.d (.lit (.bool x1.2)))) (g0 rfl) rfl rfl rfl ?_
  refine o_nil ?_
  repeat (first | refine then_normal ?_ | refine then_exit ?_ | refine then_ret ?_ | refine block_normal ?_ | refine block_ret ?_ | refine block_exit ?_ | refine block_pass rfl ?_)
  refine c_seq ?_
  refine c_seq ?_
  refine c_region ?_
  refine o_s (.t (.d (.lit (.bool x1.2)))) (g0 rfl) rfl rfl rfl ?_
  refine o_s (.t (.d (.lit (.bool (!x1.2))))) (g0 rfl) rfl rfl rfl ?_
  refine o_nil ?_
  repeat (first | refine then_normal ?_ | refine then_exit ?_ | refine then_ret ?_ | refine block_normal ?_ | refine block_ret ?_ | refine block_exit ?_ | refine block_pass rfl ?_)
  rcases bif_some h with ⟨h3, h⟩ | ⟨h3, h⟩
  · refine c_t h3 rfl ?_
    refine c_seq ?_
    refine c_region ?_
    refine o_s (.t (.agg [.lit (.string ⟨⟨[]⟩⟩), .lit (.int .i64 0)])) (g0 rfl) rfl rfl rfl ?_
    refine o_st (.box [.d (.lit (.string ⟨⟨[]⟩⟩)), .d (.lit (.int .i64 0))]) (g0 rfl) rfl rfl rfl ?_
    refine o_s (.t (.d (.lit (.bool false)))) (g0 rfl) rfl rfl rfl ?_
    refine o_nil ?_
    repeat (first | refine then_normal ?_ | refine then_exit ?_ | refine then_ret ?_ | refine block_normal ?_ | refine block_ret ?_ | refine block_exit ?_ | refine block_pass rfl ?_)
    refine c_ret ?_
    repeat (first | refine then_normal ?_ | refine then_exit ?_ | refine then_ret ?_ | refine block_normal ?_ | refine block_ret ?_ | refine block_exit ?_ | refine block_pass rfl ?_)
    obtain rfl := Option.some.inj h
    exact end0 rfl (.tup (.cons (.refl _) (.cons (.refl _) .nil)))
  · refine c_f h3 rfl ?_
    refine c_skip ?_
    repeat (first | refine then_normal ?_ | refine then_exit ?_ | refine then_ret ?_ | refine block_normal ?_ | refine block_ret ?_ | refine block_exit ?_ | refine block_pass rfl ?_)
    refine c_seq ?_
    refine c_draw mixed (by kernel_rfl) ?_
    refine d_s (.t (.d (.seq 4 (List.map V.cells x1.1)))) rfl (dg0 rfl) rfl rfl rfl rfl ?_
    obtain ⟨x4, h5, h⟩ := bind_some h
    refine d_c rfl (dg0 rfl) rfl rfl rfl rfl (idxE' V.cells_eq h5) (idxC h5) ?_
    refine d_s (.imm [.seq 1 (bytesD x4.b), .seq 4 (List.map V.cells x4.l)]) rfl (dg0 rfl) rfl rfl rfl rfl ?_
    refine d_s (.t (.d (.seq 1 (bytesD x4.b)))) rfl (dg0 rfl) rfl rfl rfl rfl ?_
    refine d_c rfl (dg0 rfl) rfl rfl rfl rfl (strE _) (isB_bytes _) ?_
    refine d_s (.t (.d (.seq 4 (List.map V.cells x1.1)))) rfl (dg0 rfl) rfl rfl rfl rfl ?_
    obtain ⟨x6, h7, h⟩ := bind_some h
    refine d_c rfl (dg0 rfl) rfl rfl rfl rfl (idxE' V.cells_eq h7) (idxC h7) ?_
    refine d_s (.imm [.lit (.int .i64 x6.n), .seq 1 (bytesD x6.b), .seq 4 (List.map V.cells x6.l)]) rfl (dg0 rfl) rfl rfl rfl rfl ?_
    refine d_s (.t (.d (.lit (.int .i64 x6.n)))) rfl (dg0 rfl) rfl rfl rfl rfl ?_
    refine d_s (.t (.agg [.lit (.string ⟨⟨x4.b⟩⟩), .lit (.int .i64 x6.n)])) rfl (dg0 rfl) rfl rfl rfl rfl ?_
    refine d_st (.box [.d (.lit (.string ⟨⟨x4.b⟩⟩)), .d (.lit (.int .i64 x6.n))]) rfl (dg0 rfl) rfl rfl rfl rfl ?_
    refine d_s (.t (.d (.lit (.bool true)))) rfl (dg0 rfl) rfl rfl rfl rfl ?_
    refine d_nil (by kernel_rfl) ?_
    repeat (first | refine then_normal ?_ | refine then_exit ?_ | refine then_ret ?_ | refine block_normal ?_ | refine block_ret ?_ | refine block_exit ?_ | refine block_pass rfl ?_)
    refine c_ret ?_
    repeat (first | refine then_normal ?_ | refine then_exit ?_ | refine then_ret ?_ | refine block_normal ?_ | refine block_ret ?_ | refine block_exit ?_ | refine block_pass rfl ?_)
    obtain rfl := Option.some.inj h
    exact end0 rfl (.tup (.cons (.refl _) (.cons (.refl _) .nil)))

theorem fc_answer_things_Past (p0 : V) (F1 : Nat) (C1 : List (List D)) (p1 : (V → Option (S_api_Past × Bool))) (hp1 : ∀ (a0 : V) r, p1 a0 = some r → FC Try.prog F1 ([.t (.agg [.lit (.int .i64 a0.k), .lit (.int .i64 a0.n), .seq 1 (bytesD a0.b), .seq 4 (List.map V.cells a0.l)])] ++ C1.map A.imm) [] (.tup [.agg [.lit (.int .i64 r.1.Number), .lit (.int .i64 r.1.Epoch), .lit (.bool r.1.Gone), .lit (.string ⟨⟨r.1.By⟩⟩)], .d (.lit (.bool r.2))])) (hf1 : ∃ fn, Try.prog.funcs[F1]? = some fn ∧ fn.body.isNone = false ∧ (fn.name == "runtime.NumGoroutine") = false) (r : ((List S_api_Past) × Bool)) (h : m_answer_things_Past p0 p1 = some r) : FC Try.prog 57 [.t (.agg [.lit (.int .i64 p0.k), .lit (.int .i64 p0.n), .seq 1 (bytesD p0.b), .seq 4 (List.map V.cells p0.l)]), .t (.d (.clo F1 C1))] [] (.tup [.d (.seq 4 (List.map cS_api_Past r.1)), .d (.lit (.bool r.2))]) := by
  refine fc_mk (rs := [.tmp 4, .tmp 5]) (n := 32) Try.func57 rfl rfl (Nat.le_of_ble_eq_true rfl) rfl (pins := []) rfl (L := [(0, .t (.agg [.lit (.int .i64 p0.k), .lit (.int .i64 p0.n), .seq 1 (bytesD p0.b), .seq 4 (List.map V.cells p0.l)])), (1, .t (.d (.clo F1 C1)))]) rfl ?_
  refine c_seq ?_
  refine c_region ?_
  refine o_s (.box [.d (.lit (.int .i64 p0.k)), .d (.lit (.int .i64 p0.n)), .d (.seq 1 (bytesD p0.b)), .d (.seq 4 (List.map V.cells p0.l))]) (g0 rfl) rfl rfl rfl ?_
  refine o_s (.t (.d (.lit (.slice none 0 0)))) (g0 rfl) rfl rfl rfl ?_
  refine o_s (.t (.d (.lit (.bool false)))) (g0 rfl) rfl rfl rfl ?_
  refine o_nil ?_
  repeat (first | refine then_normal ?_ | refine then_exit ?_ | refine then_ret ?_ | refine block_normal ?_ | refine block_ret ?_ | refine block_exit ?_ | refine block_pass rfl ?_)
  refine c_seq ?_
  refine c_region ?_
  refine o_s (.t (.d (.lit (.slice none 0 0)))) (g0 rfl) rfl rfl rfl ?_
  refine o_nil ?_
  repeat (first | refine then_normal ?_ | refine then_exit ?_ | refine then_ret ?_ | refine block_normal ?_ | refine block_ret ?_ | refine block_exit ?_ | refine block_pass rfl ?_)
  refine c_cut (fun (y1 : (List S_api_Past)) => [(6, .t (.own 79 4 (List.map cS_api_Past y1)))]) (fun (y1 : (List S_api_Past)) => m_answer_things_Past_j1 y1 = some r) ?_ ?_
  · refine c_seq ?_
    refine c_region ?_
    refine o_s (.ref 2 3) (g0 rfl) rfl rfl rfl ?_
    refine o_s (.t (.d (.seq 4 (List.map V.cells p0.l)))) (g0 rfl) rfl rfl rfl ?_
    refine o_c (g0 rfl) rfl rfl rfl (lenE _ _) trivial ?_
    refine o_s (.t (.d (.lit (.int .i64 0)))) (g0 rfl) rfl rfl rfl ?_
    refine o_nil ?_
    repeat (first | refine then_normal ?_ | refine then_exit ?_ | refine then_ret ?_ | refine block_normal ?_ | refine block_ret ?_ | refine block_exit ?_ | refine block_pass rfl ?_)
    refine c_block ?_
    refine c_fuel (fun (q : (List S_api_Past) × Int) => [(1, .t (.d (.clo F1 C1))), (6, .t (.own 79 4 (List.map cS_api_Past q.1))), (12, .t (.d (.seq 4 (List.map V.cells p0.l)))), (13, .t (.d (.lit (.int .i64 (p0.l.length : Int))))), (14, .t (.d (.lit (.int .i64 q.2))))]) (fun nl2 => (fun (q : (List S_api_Past) × Int) => m_answer_things_Past_l2 p0 p1 nl2 q.1 q.2 = some r)) (p0.l.length + 1) ([], 0) h ⟨(.refl _), ⟨(.t (.nilOwn _ _)), ⟨(.refl _), ⟨(.refl _), ⟨(.refl _), trivial⟩⟩⟩⟩⟩ rfl ?_
    rintro nl2 ⟨z2, z3⟩ h
    cases nl2 with
    | zero => exact none_ne h
    | succ nl2 =>
      refine c_seq ?_
      refine c_region ?_
      refine o_s (.t (.d (.lit (.bool (decide (z3 < (p0.l.length : Int))))))) (g0 rfl) rfl rfl rfl ?_
      refine o_nil ?_
      repeat (first | refine then_normal ?_ | refine then_exit ?_ | refine then_ret ?_ | refine block_normal ?_ | refine block_ret ?_ | refine block_exit ?_ | refine block_pass rfl ?_)
      refine c_seq ?_
      rcases bif_some h with ⟨h4, h⟩ | ⟨h4, h⟩
      · refine c_t h4 rfl ?_
        refine c_skip ?_
        repeat (first | refine then_normal ?_ | refine then_exit ?_ | refine then_ret ?_ | refine block_normal ?_ | refine block_ret ?_ | refine block_exit ?_ | refine block_pass rfl ?_)
        refine c_seq ?_
        refine c_block ?_
        refine c_seq ?_
        refine c_region ?_
        obtain ⟨x5, h6, h⟩ := bind_some h
        refine o_c (g0 rfl) rfl rfl rfl (idxE' V.cells_eq h6) (idxC h6) ?_
        refine o_s (.t (.agg [.lit (.int .i64 x5.k), .lit (.int .i64 x5.n), .seq 1 (bytesD x5.b), .seq 4 (List.map V.cells x5.l)])) (g0 rfl) rfl rfl rfl ?_
        refine o_s (.box [.d (.lit (.int .i64 0)), .d (.lit (.int .i64 0)), .d (.lit (.slice none 0 0)), .d (.lit (.slice none 0 0))]) (g0 rfl) rfl rfl rfl ?_
        refine o_st (.box [.d (.lit (.int .i64 x5.k)), .d (.lit (.int .i64 x5.n)), .d (.seq 1 (bytesD x5.b)), .d (.seq 4 (List.map V.cells x5.l))]) (g0 rfl) rfl rfl rfl ?_
        refine o_nil ?_
        repeat (first | refine then_normal ?_ | refine then_exit ?_ | refine then_ret ?_ | refine block_normal ?_ | refine block_ret ?_ | refine block_exit ?_ | refine block_pass rfl ?_)
        refine c_seq ?_
        refine c_region ?_
        refine o_s (.t (.d (.clo F1 C1))) (g0 rfl) rfl rfl rfl ?_
        refine o_s (.t (.agg [.lit (.int .i64 x5.k), .lit (.int .i64 x5.n), .seq 1 (bytesD x5.b), .seq 4 (List.map V.cells x5.l)])) (g0 rfl) rfl rfl rfl ?_
        obtain ⟨x7, h8, h⟩ := bind_some h
        refine o_cc (hp1 _ _ h8) (g0 rfl) rfl rfl rfl rfl hf1.choose_spec.1 hf1.choose_spec.2.1 hf1.choose_spec.2.2 (.cons (.refl _) .nil) rfl rfl ?_
        refine o_s (.tup [.agg [.lit (.int .i64 x7.1.Number), .lit (.int .i64 x7.1.Epoch), .lit (.bool x7.1.Gone), .lit (.string ⟨⟨x7.1.By⟩⟩)], .d (.lit (.bool x7.2))]) (g0 rfl) rfl rfl rfl ?_
        refine o_s (.t (.agg [.lit (.int .i64 x7.1.Number), .lit (.int .i64 x7.1.Epoch), .lit (.bool x7.1.Gone), .lit (.string ⟨⟨x7.1.By⟩⟩)])) (g0 rfl) rfl rfl rfl ?_
        refine o_s (.t (.d (.lit (.bool x7.2)))) (g0 rfl) rfl rfl rfl ?_
        refine o_s (.box [.d (.lit (.int .i64 0)), .d (.lit (.int .i64 0)), .d (.lit (.bool false)), .d (.lit (.string ⟨⟨[]⟩⟩))]) (g0 rfl) rfl rfl rfl ?_
        refine o_st (.box [.d (.lit (.int .i64 x7.1.Number)), .d (.lit (.int .i64 x7.1.Epoch)), .d (.lit (.bool x7.1.Gone)), .d (.lit (.string ⟨⟨x7.1.By⟩⟩))]) (g0 rfl) rfl rfl rfl ?_
        refine o_s (.t (.d (.lit (.bool x7.2)))) (g0 rfl) rfl rfl rfl ?_
        refine o_nil ?_
        repeat (first | refine then_normal ?_ | refine then_exit ?_ | refine then_ret ?_ | refine block_normal ?_ | refine block_ret ?_ | refine block_exit ?_ | refine block_pass rfl ?_)
        refine c_seq ?_
        refine c_seq ?_
        refine c_region ?_
        refine o_s (.t (.d (.lit (.bool x7.2)))) (g0 rfl) rfl rfl rfl ?_
        refine o_s (.t (.d (.lit (.bool (!x7.2))))) (g0 rfl) rfl rfl rfl ?_
        refine o_nil ?_
        repeat (first | refine then_normal ?_ | refine then_exit ?_ | refine then_ret ?_ | refine block_normal ?_ | refine block_ret ?_ | refine block_exit ?_ | refine block_pass rfl ?_)
        rcases bif_some h with ⟨h9, h⟩ | ⟨h9, h⟩
        · refine c_t h9 rfl ?_
          refine c_seq ?_
          refine c_region ?_
          refine o_s (.t (.d (.lit (.slice none 0 0)))) (g0 rfl) rfl rfl rfl ?_
          refine o_s (.t (.d (.lit (.bool false)))) (g0 rfl) rfl rfl rfl ?_
          refine o_nil ?_
          repeat (first | refine then_normal ?_ | refine then_exit ?_ | refine then_ret ?_ | refine block_normal ?_ | refine block_ret ?_ | refine block_exit ?_ | refine block_pass rfl ?_)
          refine c_ret ?_
          repeat (first | refine then_normal ?_ | refine then_exit ?_ | refine then_ret ?_ | refine block_normal ?_ | refine block_ret ?_ | refine block_exit ?_ | refine block_pass rfl ?_)
          obtain rfl := Option.some.inj h
          exact end0 rfl (.tup (.cons (.d (.nil _)) (.cons (.refl _) .nil)))
        · refine c_f h9 rfl ?_
          refine c_skip ?_
          repeat (first | refine then_normal ?_ | refine then_exit ?_ | refine then_ret ?_ | refine block_normal ?_ | refine block_ret ?_ | refine block_exit ?_ | refine block_pass rfl ?_)
          refine c_region ?_
          refine o_2 (.t (.d (.seq 4 (List.map cS_api_Past z2)))) (.t (.own 79 4 (List.map cS_api_Past z2))) (g0 rfl) rfl rfl rfl ?_
          refine o_s (.t (.agg [.lit (.int .i64 x7.1.Number), .lit (.int .i64 x7.1.Epoch), .lit (.bool x7.1.Gone), .lit (.string ⟨⟨x7.1.By⟩⟩)])) (g0 rfl) rfl rfl rfl ?_
          refine o_s (.t (.own 79 4 (List.map cS_api_Past [x7.1]))) (g0 rfl) rfl rfl rfl ?_
          obtain ⟨x10, h11, h⟩ := bind_some h
          refine o_2c (g0 rfl) rfl rfl rfl (appE (c := cS_api_Past) h11) (appC (c := cS_api_Past) h11) ?_
          refine o_2 (.t (.d (.seq 4 (List.map cS_api_Past x10)))) (.t (.own 79 4 (List.map cS_api_Past x10))) (g0 rfl) rfl rfl rfl ?_
          refine o_nil ?_
          repeat (first | refine then_normal ?_ | refine then_exit ?_ | refine then_ret ?_ | refine block_normal ?_ | refine block_ret ?_ | refine block_exit ?_ | refine block_pass rfl ?_)
          refine c_region ?_
          refine o_s (.t (.d (.lit (.int .i64 (wi (z3 + 1)))))) (g0 rfl) rfl rfl rfl ?_
          refine o_s (.t (.d (.lit (.int .i64 (wi (z3 + 1)))))) (g0 rfl) rfl rfl rfl ?_
          refine o_nil ?_
          repeat (first | refine then_normal ?_ | refine then_exit ?_ | refine then_ret ?_ | refine block_normal ?_ | refine block_ret ?_ | refine block_exit ?_ | refine block_pass rfl ?_)
          exact ⟨nl2, (x10, (wi (z3 + 1))), Nat.lt_succ_self nl2, h, ⟨(.refl _), ⟨(.refl _), ⟨(.refl _), ⟨(.refl _), ⟨(.refl _), trivial⟩⟩⟩⟩⟩, rfl⟩
      · refine c_f h4 rfl ?_
        refine c_exit ?_
        repeat (first | refine then_normal ?_ | refine then_exit ?_ | refine then_ret ?_ | refine block_normal ?_ | refine block_ret ?_ | refine block_exit ?_ | refine block_pass rfl ?_)
        exact ⟨z2, h, ⟨(.refl _), trivial⟩, rfl⟩
  · rintro y1 h
    refine c_seq ?_
    refine c_region ?_
    refine o_2 (.t (.d (.seq 4 (List.map cS_api_Past y1)))) (.t (.own 79 4 (List.map cS_api_Past y1))) (g0 rfl) rfl rfl rfl ?_
    refine o_2 (.t (.d (.seq 4 (List.map cS_api_Past y1)))) (.t (.own 79 4 (List.map cS_api_Past y1))) (g0 rfl) rfl rfl rfl ?_
    refine o_s (.t (.d (.lit (.bool true)))) (g0 rfl) rfl rfl rfl ?_
    refine o_nil ?_
    repeat (first | refine then_normal ?_ | refine then_exit ?_ | refine then_ret ?_ | refine block_normal ?_ | refine block_ret ?_ | refine block_exit ?_ | refine block_pass rfl ?_)
    refine c_ret ?_
    repeat (first | refine then_normal ?_ | refine then_exit ?_ | refine then_ret ?_ | refine block_normal ?_ | refine block_ret ?_ | refine block_exit ?_ | refine block_pass rfl ?_)
    obtain rfl := Option.some.inj h
    exact end0 rfl (.tup (.cons (.refl _) (.cons (.refl _) .nil)))

theorem fc_answer_Read_c2 (p0 : V) (r : (S_api_Past × Bool)) (h : m_answer_Read_c2 p0 = some r) : FC Try.prog 58 [.t (.agg [.lit (.int .i64 p0.k), .lit (.int .i64 p0.n), .seq 1 (bytesD p0.b), .seq 4 (List.map V.cells p0.l)])] [] (.tup [.agg [.lit (.int .i64 r.1.Number), .lit (.int .i64 r.1.Epoch), .lit (.bool r.1.Gone), .lit (.string ⟨⟨r.1.By⟩⟩)], .d (.lit (.bool r.2))]) := by
  refine fc_mk (rs := [.cell 2 79, .tmp 3]) (n := 41) Try.func58 rfl rfl (Nat.le_of_ble_eq_true rfl) rfl (pins := []) rfl (L := [(0, .t (.agg [.lit (.int .i64 p0.k), .lit (.int .i64 p0.n), .seq 1 (bytesD p0.b), .seq 4 (List.map V.cells p0.l)]))]) rfl ?_
  refine c_seq ?_
  refine c_region ?_
  refine o_s (.box [.d (.lit (.int .i64 p0.k)), .d (.lit (.int .i64 p0.n)), .d (.seq 1 (bytesD p0.b)), .d (.seq 4 (List.map V.cells p0.l))]) (g0 rfl) rfl rfl rfl ?_
  refine o_s (.box [.d (.lit (.int .i64 0)), .d (.lit (.int .i64 0)), .d (.lit (.bool false)), .d (.lit (.string ⟨⟨[]⟩⟩))]) (g0 rfl) rfl rfl rfl ?_
  refine o_s (.t (.d (.lit (.bool false)))) (g0 rfl) rfl rfl rfl ?_
  refine o_nil ?_
  repeat (first | refine then_normal ?_ | refine then_exit ?_ | refine then_ret ?_ | refine block_normal ?_ | refine block_ret ?_ | refine block_exit ?_ | refine block_pass rfl ?_)
  refine c_seq ?_
  refine c_region ?_
  refine o_s (.t (.agg [.lit (.int .i64 p0.k), .lit (.int .i64 p0.n), .seq 1 (bytesD p0.b), .seq 4 (List.map V.cells p0.l)])) (g0 rfl) rfl rfl rfl ?_
  refine o_s (.t (.own 3 1 (List.map cI64 [1, 1, 1, 2]))) (g0 rfl) rfl rfl rfl ?_
  obtain ⟨x1, h2, h⟩ := bind_some h
  refine o_ca (fc_codec_Fields _ _ _ h2) (g0 rfl) rfl rfl rfl rfl rfl rfl rfl (.cons (.refl _) (.cons (.refl _) .nil)) rfl rfl ?_
  refine o_s (.tup [.d (.seq 4 (List.map V.cells x1.1)), .d (.lit (.bool x1.2))]) (g0 rfl) rfl rfl rfl ?_
  refine o_s (.t (.d (.seq 4 (List.map V.cells x1.1)))) (g0 rfl) rfl rfl rfl ?_
  refine o_s (.t (.d (.lit (.bool x1.2)))) (g0 rfl) rfl rfl rfl ?_
  refine o_s (.t (.d (.seq 4 (List.map V.cells x1.1)))) (g0 rfl) rfl rfl rfl ?_
  refine o_s (.t (.d (.lit (.bool x1.2)))) (g0 rfl) rfl rfl rfl ?_
  refine o_nil ?_
  repeat (first | refine then_normal ?_ | refine then_exit ?_ | refine then_ret ?_ | refine block_normal ?_ | refine block_ret ?_ | refine block_exit ?_ | refine block_pass rfl ?_)
  refine c_seq ?_
  refine c_seq ?_
  refine c_region ?_
  refine o_s (.t (.d (.lit (.bool x1.2)))) (g0 rfl) rfl rfl rfl ?_
  refine o_s (.t (.d (.lit (.bool (!x1.2))))) (g0 rfl) rfl rfl rfl ?_
  refine o_s (.t (.d (.lit (.bool (!x1.2))))) (g0 rfl) rfl rfl rfl ?_
  rcases bif_some h with ⟨h3, h⟩ | ⟨h3, h⟩
  · refine o_skip rfl rfl rfl h3 rfl rfl ?_
    refine o_skip rfl rfl rfl h3 rfl rfl ?_
    refine o_skip rfl rfl rfl h3 rfl rfl ?_
    refine o_skip rfl rfl rfl h3 rfl rfl ?_
    refine o_skip rfl rfl rfl h3 rfl rfl ?_
    refine o_pk (.t (.d (.lit (.bool true)))) (b := true) h3 (g0 rfl) rfl rfl rfl rfl rfl ?_
    refine o_nil ?_
    repeat (first | refine then_normal ?_ | refine then_exit ?_ | refine then_ret ?_ | refine block_normal ?_ | refine block_ret ?_ | refine block_exit ?_ | refine block_pass rfl ?_)
    refine c_t rfl rfl ?_
    refine c_seq ?_
    refine c_region ?_
    refine o_s (.t (.agg [.lit (.int .i64 0), .lit (.int .i64 0), .lit (.bool false), .lit (.string ⟨⟨[]⟩⟩)])) (g0 rfl) rfl rfl rfl ?_
    refine o_st (.box [.d (.lit (.int .i64 0)), .d (.lit (.int .i64 0)), .d (.lit (.bool false)), .d (.lit (.string ⟨⟨[]⟩⟩))]) (g0 rfl) rfl rfl rfl ?_
    refine o_s (.t (.d (.lit (.bool false)))) (g0 rfl) rfl rfl rfl ?_
    refine o_nil ?_
    repeat (first | refine then_normal ?_ | refine then_exit ?_ | refine then_ret ?_ | refine block_normal ?_ | refine block_ret ?_ | refine block_exit ?_ | refine block_pass rfl ?_)
    refine c_ret ?_
    repeat (first | refine then_normal ?_ | refine then_exit ?_ | refine then_ret ?_ | refine block_normal ?_ | refine block_ret ?_ | refine block_exit ?_ | refine block_pass rfl ?_)
    obtain rfl := Option.some.inj h
    exact end0 rfl (.tup (.cons (.refl _) (.cons (.refl _) .nil)))
  · refine o_s (.t (.d (.seq 4 (List.map V.cells x1.1)))) (gy rfl rfl rfl h3) rfl rfl rfl ?_
    obtain ⟨x4, h5, h⟩ := bind_some h
    refine o_c (gy rfl rfl rfl h3) rfl rfl rfl (idxE' V.cells_eq h5) (idxC h5) ?_
    refine o_s (.imm [.lit (.int .i64 x4.n), .seq 1 (bytesD x4.b), .seq 4 (List.map V.cells x4.l)]) (gy rfl rfl rfl h3) rfl rfl rfl ?_
    refine o_s (.t (.d (.lit (.int .i64 x4.n)))) (gy rfl rfl rfl h3) rfl rfl rfl ?_
    refine o_s (.t (.d (.lit (.bool (decide (x4.n > 1)))))) (gy rfl rfl rfl h3) rfl rfl rfl ?_
    refine o_pk (.t (.d (.lit (.bool (decide (x4.n > 1)))))) (b := false) h3 (g0 rfl) rfl rfl rfl rfl rfl ?_
    refine o_nil ?_
    repeat (first | refine then_normal ?_ | refine then_exit ?_ | refine then_ret ?_ | refine block_normal ?_ | refine block_ret ?_ | refine block_exit ?_ | refine block_pass rfl ?_)
    rcases bif_some h with ⟨h6, h⟩ | ⟨h6, h⟩
    · refine c_t h6 rfl ?_
      refine c_seq ?_
      refine c_region ?_
      refine o_s (.t (.agg [.lit (.int .i64 0), .lit (.int .i64 0), .lit (.bool false), .lit (.string ⟨⟨[]⟩⟩)])) (g0 rfl) rfl rfl rfl ?_
      refine o_st (.box [.d (.lit (.int .i64 0)), .d (.lit (.int .i64 0)), .d (.lit (.bool false)), .d (.lit (.string ⟨⟨[]⟩⟩))]) (g0 rfl) rfl rfl rfl ?_
      refine o_s (.t (.d (.lit (.bool false)))) (g0 rfl) rfl rfl rfl ?_
      refine o_nil ?_
      repeat (first | refine then_normal ?_ | refine then_exit ?_ | refine then_ret ?_ | refine block_normal ?_ | refine block_ret ?_ | refine block_exit ?_ | refine block_pass rfl ?_)
      refine c_ret ?_
      repeat (first | refine then_normal ?_ | refine then_exit ?_ | refine then_ret ?_ | refine block_normal ?_ | refine block_ret ?_ | refine block_exit ?_ | refine block_pass rfl ?_)
      obtain rfl := Option.some.inj h
      exact end0 rfl (.tup (.cons (.refl _) (.cons (.refl _) .nil)))
    · refine c_f h6 rfl ?_
      refine c_skip ?_
      repeat (first | refine then_normal ?_ | refine then_exit ?_ | refine then_ret ?_ | refine block_normal ?_ | refine block_ret ?_ | refine block_exit ?_ | refine block_pass rfl ?_)
      refine c_seq ?_
      refine c_draw mixed (by kernel_rfl) ?_
      refine d_s (.t (.d (.seq 4 (List.map V.cells x1.1)))) rfl (dg0 rfl) rfl rfl rfl rfl ?_
      obtain ⟨x7, h8, h⟩ := bind_some h
      refine d_c rfl (dg0 rfl) rfl rfl rfl rfl (idxE' V.cells_eq h8) (idxC h8) ?_
      refine d_s (.imm [.lit (.int .i64 x7.n), .seq 1 (bytesD x7.b), .seq 4 (List.map V.cells x7.l)]) rfl (dg0 rfl) rfl rfl rfl rfl ?_
      refine d_s (.t (.d (.lit (.int .i64 x7.n)))) rfl (dg0 rfl) rfl rfl rfl rfl ?_
      refine d_s (.t (.d (.seq 4 (List.map V.cells x1.1)))) rfl (dg0 rfl) rfl rfl rfl rfl ?_
      obtain ⟨x9, h10, h⟩ := bind_some h
      refine d_c rfl (dg0 rfl) rfl rfl rfl rfl (idxE' V.cells_eq h10) (idxC h10) ?_
      refine d_s (.imm [.lit (.int .i64 x9.n), .seq 1 (bytesD x9.b), .seq 4 (List.map V.cells x9.l)]) rfl (dg0 rfl) rfl rfl rfl rfl ?_
      refine d_s (.t (.d (.lit (.int .i64 x9.n)))) rfl (dg0 rfl) rfl rfl rfl rfl ?_
      refine d_s (.t (.d (.seq 4 (List.map V.cells x1.1)))) rfl (dg0 rfl) rfl rfl rfl rfl ?_
      obtain ⟨x11, h12, h⟩ := bind_some h
      refine d_c rfl (dg0 rfl) rfl rfl rfl rfl (idxE' V.cells_eq h12) (idxC h12) ?_
      refine d_s (.imm [.lit (.int .i64 x11.n), .seq 1 (bytesD x11.b), .seq 4 (List.map V.cells x11.l)]) rfl (dg0 rfl) rfl rfl rfl rfl ?_
      refine d_s (.t (.d (.lit (.int .i64 x11.n)))) rfl (dg0 rfl) rfl rfl rfl rfl ?_
      refine d_s (.t (.d (.lit (.bool (x11.n == 1))))) rfl (dg0 rfl) rfl rfl rfl rfl ?_
      refine d_s (.t (.d (.seq 4 (List.map V.cells x1.1)))) rfl (dg0 rfl) rfl rfl rfl rfl ?_
      obtain ⟨x13, h14, h⟩ := bind_some h
      refine d_c rfl (dg0 rfl) rfl rfl rfl rfl (idxE' V.cells_eq h14) (idxC h14) ?_
      refine d_s (.imm [.seq 1 (bytesD x13.b), .seq 4 (List.map V.cells x13.l)]) rfl (dg0 rfl) rfl rfl rfl rfl ?_
      refine d_s (.t (.d (.seq 1 (bytesD x13.b)))) rfl (dg0 rfl) rfl rfl rfl rfl ?_
      refine d_c rfl (dg0 rfl) rfl rfl rfl rfl (strE _) (isB_bytes _) ?_
      refine d_s (.t (.agg [.lit (.int .i64 x7.n), .lit (.int .i64 x9.n), .lit (.bool (x11.n == 1)), .lit (.string ⟨⟨x13.b⟩⟩)])) rfl (dg0 rfl) rfl rfl rfl rfl ?_
      refine d_st (.box [.d (.lit (.int .i64 x7.n)), .d (.lit (.int .i64 x9.n)), .d (.lit (.bool (x11.n == 1))), .d (.lit (.string ⟨⟨x13.b⟩⟩))]) rfl (dg0 rfl) rfl rfl rfl rfl ?_
      refine d_s (.t (.d (.lit (.bool true)))) rfl (dg0 rfl) rfl rfl rfl rfl ?_
      refine d_nil (by kernel_rfl) ?_
      repeat (first | refine then_normal ?_ | refine then_exit ?_ | refine then_ret ?_ | refine block_normal ?_ | refine block_ret ?_ | refine block_exit ?_ | refine block_pass rfl ?_)
      refine c_ret ?_
      repeat (first | refine then_normal ?_ | refine then_exit ?_ | refine then_ret ?_ | refine block_normal ?_ | refine block_ret ?_ | refine block_exit ?_ | refine block_pass rfl ?_)
      obtain rfl := Option.some.inj h
      exact end0 rfl (.tup (.cons (.refl _) (.cons (.refl _) .nil)))

theorem fc_answer_Read (p0 : (List UInt8)) (r : (S_api_Answer × Int)) (h : m_answer_Read p0 = some r) : FC Try.prog 23 [.t (.d (.seq 1 (bytesD p0)))] [] (.tup [.agg [.lit (.int .i64 r.1.Err), .lit (.int .i64 r.1.Number), .lit (.string ⟨⟨r.1.By⟩⟩), .seq 1 (bytesD r.1.Data), .seq 1 (List.map cStr r.1.Names), .seq 2 (List.map cS_api_Member r.1.Members), .seq 4 (List.map cS_api_Past r.1.History)], .d (.lit (.int .i64 r.2))]) := by
  refine fc_mk (rs := [.cell 2 47, .tmp 3]) (n := 96) Try.func23 rfl rfl (Nat.le_of_ble_eq_true rfl) rfl (pins := []) rfl (L := [(0, .t (.d (.seq 1 (bytesD p0))))]) rfl ?_
  refine c_seq ?_
  refine c_region ?_
  refine o_s (.box [.d (.lit (.int .i64 0)), .d (.lit (.int .i64 0)), .d (.lit (.string ⟨⟨[]⟩⟩)), .d (.lit (.slice none 0 0)), .d (.lit (.slice none 0 0)), .d (.lit (.slice none 0 0)), .d (.lit (.slice none 0 0))]) (g0 rfl) rfl rfl rfl ?_
  refine o_s (.t (.d (.lit (.int .i64 0)))) (g0 rfl) rfl rfl rfl ?_
  refine o_nil ?_
  repeat (first | refine then_normal ?_ | refine then_exit ?_ | refine then_ret ?_ | refine block_normal ?_ | refine block_ret ?_ | refine block_exit ?_ | refine block_pass rfl ?_)
  refine c_seq ?_
  refine c_region ?_
  refine o_s (.t (.d (.seq 1 (bytesD p0)))) (g0 rfl) rfl rfl rfl ?_
  obtain ⟨x1, h2, h⟩ := bind_some h
  refine o_ca (fc_codec_Decode _ _ h2) (g0 rfl) rfl rfl rfl rfl rfl rfl rfl (.cons (.refl _) .nil) rfl rfl ?_
  refine o_s (.tup [.agg [.lit (.int .i64 x1.1.k), .lit (.int .i64 x1.1.n), .seq 1 (bytesD x1.1.b), .seq 4 (List.map V.cells x1.1.l)], .d (.lit (.int .i64 x1.2))]) (g0 rfl) rfl rfl rfl ?_
  refine o_s (.t (.agg [.lit (.int .i64 x1.1.k), .lit (.int .i64 x1.1.n), .seq 1 (bytesD x1.1.b), .seq 4 (List.map V.cells x1.1.l)])) (g0 rfl) rfl rfl rfl ?_
  refine o_s (.t (.d (.lit (.int .i64 x1.2)))) (g0 rfl) rfl rfl rfl ?_
  refine o_s (.box [.d (.lit (.int .i64 0)), .d (.lit (.int .i64 0)), .d (.lit (.slice none 0 0)), .d (.lit (.slice none 0 0))]) (g0 rfl) rfl rfl rfl ?_
  refine o_st (.box [.d (.lit (.int .i64 x1.1.k)), .d (.lit (.int .i64 x1.1.n)), .d (.seq 1 (bytesD x1.1.b)), .d (.seq 4 (List.map V.cells x1.1.l))]) (g0 rfl) rfl rfl rfl ?_
  refine o_s (.t (.d (.lit (.int .i64 x1.2)))) (g0 rfl) rfl rfl rfl ?_
  refine o_nil ?_
  repeat (first | refine then_normal ?_ | refine then_exit ?_ | refine then_ret ?_ | refine block_normal ?_ | refine block_ret ?_ | refine block_exit ?_ | refine block_pass rfl ?_)
  refine c_seq ?_
  refine c_seq ?_
  refine c_region ?_
  refine o_s (.t (.d (.lit (.int .i64 x1.2)))) (g0 rfl) rfl rfl rfl ?_
  refine o_s (.t (.d (.lit (.bool (x1.2 != 0))))) (g0 rfl) rfl rfl rfl ?_
  refine o_nil ?_
  repeat (first | refine then_normal ?_ | refine then_exit ?_ | refine then_ret ?_ | refine block_normal ?_ | refine block_ret ?_ | refine block_exit ?_ | refine block_pass rfl ?_)
  rcases bif_some h with ⟨h3, h⟩ | ⟨h3, h⟩
  · refine c_t h3 rfl ?_
    refine c_seq ?_
    refine c_region ?_
    refine o_s (.t (.agg [.lit (.int .i64 0), .lit (.int .i64 0), .lit (.string ⟨⟨[]⟩⟩), .lit (.slice none 0 0), .lit (.slice none 0 0), .lit (.slice none 0 0), .lit (.slice none 0 0)])) (g0 rfl) rfl rfl rfl ?_
    refine o_s (.t (.d (.lit (.int .i64 x1.2)))) (g0 rfl) rfl rfl rfl ?_
    refine o_st (.box [.d (.lit (.int .i64 0)), .d (.lit (.int .i64 0)), .d (.lit (.string ⟨⟨[]⟩⟩)), .d (.lit (.slice none 0 0)), .d (.lit (.slice none 0 0)), .d (.lit (.slice none 0 0)), .d (.lit (.slice none 0 0))]) (g0 rfl) rfl rfl rfl ?_
    refine o_s (.t (.d (.lit (.int .i64 x1.2)))) (g0 rfl) rfl rfl rfl ?_
    refine o_nil ?_
    repeat (first | refine then_normal ?_ | refine then_exit ?_ | refine then_ret ?_ | refine block_normal ?_ | refine block_ret ?_ | refine block_exit ?_ | refine block_pass rfl ?_)
    refine c_ret ?_
    repeat (first | refine then_normal ?_ | refine then_exit ?_ | refine then_ret ?_ | refine block_normal ?_ | refine block_ret ?_ | refine block_exit ?_ | refine block_pass rfl ?_)
    obtain rfl := Option.some.inj h
    exact end0 rfl (.tup (.cons (.agg (.cons (.refl _) (.cons (.refl _) (.cons (.refl _) (.cons (.nil _) (.cons (.nil _) (.cons (.nil _) (.cons (.nil _) .nil)))))))) (.cons (.refl _) .nil)))
  · refine c_f h3 rfl ?_
    refine c_skip ?_
    repeat (first | refine then_normal ?_ | refine then_exit ?_ | refine then_ret ?_ | refine block_normal ?_ | refine block_ret ?_ | refine block_exit ?_ | refine block_pass rfl ?_)
    refine c_seq ?_
    refine c_region ?_
    refine o_s (.t (.agg [.lit (.int .i64 x1.1.k), .lit (.int .i64 x1.1.n), .seq 1 (bytesD x1.1.b), .seq 4 (List.map V.cells x1.1.l)])) (g0 rfl) rfl rfl rfl ?_
    refine o_s (.t (.own 3 1 (List.map cI64 [1, 1, 2, 2, 3, 3, 3]))) (g0 rfl) rfl rfl rfl ?_
    obtain ⟨x4, h5, h⟩ := bind_some h
    refine o_ca (fc_codec_Fields _ _ _ h5) (g0 rfl) rfl rfl rfl rfl rfl rfl rfl (.cons (.refl _) (.cons (.refl _) .nil)) rfl rfl ?_
    refine o_s (.tup [.d (.seq 4 (List.map V.cells x4.1)), .d (.lit (.bool x4.2))]) (g0 rfl) rfl rfl rfl ?_
    refine o_s (.t (.d (.seq 4 (List.map V.cells x4.1)))) (g0 rfl) rfl rfl rfl ?_
    refine o_s (.t (.d (.lit (.bool x4.2)))) (g0 rfl) rfl rfl rfl ?_
    refine o_s (.t (.d (.seq 4 (List.map V.cells x4.1)))) (g0 rfl) rfl rfl rfl ?_
    refine o_s (.t (.d (.lit (.bool x4.2)))) (g0 rfl) rfl rfl rfl ?_
    refine o_nil ?_
    repeat (first | refine then_normal ?_ | refine then_exit ?_ | refine then_ret ?_ | refine block_normal ?_ | refine block_ret ?_ | refine block_exit ?_ | refine block_pass rfl ?_)
    refine c_seq ?_
    refine c_seq ?_
    refine c_region ?_
    refine o_s (.t (.d (.lit (.bool x4.2)))) (g0 rfl) rfl rfl rfl ?_
    refine o_s (.t (.d (.lit (.bool (!x4.2))))) (g0 rfl) rfl rfl rfl ?_
    refine o_s (.t (.d (.lit (.bool (!x4.2))))) (g0 rfl) rfl rfl rfl ?_
    rcases bif_some h with ⟨h6, h⟩ | ⟨h6, h⟩
    · refine o_skip rfl rfl rfl h6 rfl rfl ?_
      refine o_skip rfl rfl rfl h6 rfl rfl ?_
      refine o_skip rfl rfl rfl h6 rfl rfl ?_
      refine o_skip rfl rfl rfl h6 rfl rfl ?_
      refine o_skip rfl rfl rfl h6 rfl rfl ?_
      refine o_pk (.t (.d (.lit (.bool true)))) (b := true) h6 (g0 rfl) rfl rfl rfl rfl rfl ?_
      refine o_nil ?_
      repeat (first | refine then_normal ?_ | refine then_exit ?_ | refine then_ret ?_ | refine block_normal ?_ | refine block_ret ?_ | refine block_exit ?_ | refine block_pass rfl ?_)
      refine c_t rfl rfl ?_
      refine c_seq ?_
      refine c_region ?_
      refine o_s (.t (.agg [.lit (.int .i64 0), .lit (.int .i64 0), .lit (.string ⟨⟨[]⟩⟩), .lit (.slice none 0 0), .lit (.slice none 0 0), .lit (.slice none 0 0), .lit (.slice none 0 0)])) (g0 rfl) rfl rfl rfl ?_
      refine o_st (.box [.d (.lit (.int .i64 0)), .d (.lit (.int .i64 0)), .d (.lit (.string ⟨⟨[]⟩⟩)), .d (.lit (.slice none 0 0)), .d (.lit (.slice none 0 0)), .d (.lit (.slice none 0 0)), .d (.lit (.slice none 0 0))]) (g0 rfl) rfl rfl rfl ?_
      refine o_s (.t (.d (.lit (.int .i64 11)))) (g0 rfl) rfl rfl rfl ?_
      refine o_nil ?_
      repeat (first | refine then_normal ?_ | refine then_exit ?_ | refine then_ret ?_ | refine block_normal ?_ | refine block_ret ?_ | refine block_exit ?_ | refine block_pass rfl ?_)
      refine c_ret ?_
      repeat (first | refine then_normal ?_ | refine then_exit ?_ | refine then_ret ?_ | refine block_normal ?_ | refine block_ret ?_ | refine block_exit ?_ | refine block_pass rfl ?_)
      obtain rfl := Option.some.inj h
      exact end0 rfl (.tup (.cons (.agg (.cons (.refl _) (.cons (.refl _) (.cons (.refl _) (.cons (.nil _) (.cons (.nil _) (.cons (.nil _) (.cons (.nil _) .nil)))))))) (.cons (.refl _) .nil)))
    · refine o_s (.t (.d (.seq 4 (List.map V.cells x4.1)))) (gy rfl rfl rfl h6) rfl rfl rfl ?_
      obtain ⟨x7, h8, h⟩ := bind_some h
      refine o_c (gy rfl rfl rfl h6) rfl rfl rfl (idxE' V.cells_eq h8) (idxC h8) ?_
      refine o_s (.imm [.lit (.int .i64 x7.n), .seq 1 (bytesD x7.b), .seq 4 (List.map V.cells x7.l)]) (gy rfl rfl rfl h6) rfl rfl rfl ?_
      refine o_s (.t (.d (.lit (.int .i64 x7.n)))) (gy rfl rfl rfl h6) rfl rfl rfl ?_
      refine o_s (.t (.d (.lit (.bool (decide (x7.n > 255)))))) (gy rfl rfl rfl h6) rfl rfl rfl ?_
      refine o_pk (.t (.d (.lit (.bool (decide (x7.n > 255)))))) (b := false) h6 (g0 rfl) rfl rfl rfl rfl rfl ?_
      refine o_nil ?_
      repeat (first | refine then_normal ?_ | refine then_exit ?_ | refine then_ret ?_ | refine block_normal ?_ | refine block_ret ?_ | refine block_exit ?_ | refine block_pass rfl ?_)
      rcases bif_some h with ⟨h9, h⟩ | ⟨h9, h⟩
      · refine c_t h9 rfl ?_
        refine c_seq ?_
        refine c_region ?_
        refine o_s (.t (.agg [.lit (.int .i64 0), .lit (.int .i64 0), .lit (.string ⟨⟨[]⟩⟩), .lit (.slice none 0 0), .lit (.slice none 0 0), .lit (.slice none 0 0), .lit (.slice none 0 0)])) (g0 rfl) rfl rfl rfl ?_
        refine o_st (.box [.d (.lit (.int .i64 0)), .d (.lit (.int .i64 0)), .d (.lit (.string ⟨⟨[]⟩⟩)), .d (.lit (.slice none 0 0)), .d (.lit (.slice none 0 0)), .d (.lit (.slice none 0 0)), .d (.lit (.slice none 0 0))]) (g0 rfl) rfl rfl rfl ?_
        refine o_s (.t (.d (.lit (.int .i64 11)))) (g0 rfl) rfl rfl rfl ?_
        refine o_nil ?_
        repeat (first | refine then_normal ?_ | refine then_exit ?_ | refine then_ret ?_ | refine block_normal ?_ | refine block_ret ?_ | refine block_exit ?_ | refine block_pass rfl ?_)
        refine c_ret ?_
        repeat (first | refine then_normal ?_ | refine then_exit ?_ | refine then_ret ?_ | refine block_normal ?_ | refine block_ret ?_ | refine block_exit ?_ | refine block_pass rfl ?_)
        obtain rfl := Option.some.inj h
        exact end0 rfl (.tup (.cons (.agg (.cons (.refl _) (.cons (.refl _) (.cons (.refl _) (.cons (.nil _) (.cons (.nil _) (.cons (.nil _) (.cons (.nil _) .nil)))))))) (.cons (.refl _) .nil)))
      · refine c_f h9 rfl ?_
        refine c_skip ?_
        repeat (first | refine then_normal ?_ | refine then_exit ?_ | refine then_ret ?_ | refine block_normal ?_ | refine block_ret ?_ | refine block_exit ?_ | refine block_pass rfl ?_)
        refine c_seq ?_
        refine c_draw mixed (by kernel_rfl) ?_
        refine d_s (.t (.d (.seq 4 (List.map V.cells x4.1)))) rfl (dg0 rfl) rfl rfl rfl rfl ?_
        obtain ⟨x10, h11, h⟩ := bind_some h
        refine d_c rfl (dg0 rfl) rfl rfl rfl rfl (idxE' V.cells_eq h11) (idxC h11) ?_
        refine d_s (.imm [.lit (.int .i64 x10.n), .seq 1 (bytesD x10.b), .seq 4 (List.map V.cells x10.l)]) rfl (dg0 rfl) rfl rfl rfl rfl ?_
        refine d_s (.t (.d (.lit (.int .i64 x10.n)))) rfl (dg0 rfl) rfl rfl rfl rfl ?_
        refine d_s (.t (.d (.seq 4 (List.map V.cells x4.1)))) rfl (dg0 rfl) rfl rfl rfl rfl ?_
        obtain ⟨x12, h13, h⟩ := bind_some h
        refine d_c rfl (dg0 rfl) rfl rfl rfl rfl (idxE' V.cells_eq h13) (idxC h13) ?_
        refine d_s (.imm [.lit (.int .i64 x12.n), .seq 1 (bytesD x12.b), .seq 4 (List.map V.cells x12.l)]) rfl (dg0 rfl) rfl rfl rfl rfl ?_
        refine d_s (.t (.d (.lit (.int .i64 x12.n)))) rfl (dg0 rfl) rfl rfl rfl rfl ?_
        refine d_s (.t (.d (.seq 4 (List.map V.cells x4.1)))) rfl (dg0 rfl) rfl rfl rfl rfl ?_
        obtain ⟨x14, h15, h⟩ := bind_some h
        refine d_c rfl (dg0 rfl) rfl rfl rfl rfl (idxE' V.cells_eq h15) (idxC h15) ?_
        refine d_s (.imm [.seq 1 (bytesD x14.b), .seq 4 (List.map V.cells x14.l)]) rfl (dg0 rfl) rfl rfl rfl rfl ?_
        refine d_s (.t (.d (.seq 1 (bytesD x14.b)))) rfl (dg0 rfl) rfl rfl rfl rfl ?_
        refine d_c rfl (dg0 rfl) rfl rfl rfl rfl (strE _) (isB_bytes _) ?_
        refine d_s (.t (.d (.seq 4 (List.map V.cells x4.1)))) rfl (dg0 rfl) rfl rfl rfl rfl ?_
        obtain ⟨x16, h17, h⟩ := bind_some h
        refine d_c rfl (dg0 rfl) rfl rfl rfl rfl (idxE' V.cells_eq h17) (idxC h17) ?_
        refine d_s (.imm [.seq 1 (bytesD x16.b), .seq 4 (List.map V.cells x16.l)]) rfl (dg0 rfl) rfl rfl rfl rfl ?_
        refine d_s (.t (.d (.seq 1 (bytesD x16.b)))) rfl (dg0 rfl) rfl rfl rfl rfl ?_
        refine d_s (.t (.agg [.lit (.int .i64 x10.n), .lit (.int .i64 x12.n), .lit (.string ⟨⟨x14.b⟩⟩), .seq 1 (bytesD x16.b), .lit (.slice none 0 0), .lit (.slice none 0 0), .lit (.slice none 0 0)])) rfl (dg0 rfl) rfl rfl rfl rfl ?_
        refine d_s (.box [.d (.lit (.int .i64 0)), .d (.lit (.int .i64 0)), .d (.lit (.string ⟨⟨[]⟩⟩)), .d (.lit (.slice none 0 0)), .d (.lit (.slice none 0 0)), .d (.lit (.slice none 0 0)), .d (.lit (.slice none 0 0))]) rfl (dg0 rfl) rfl rfl rfl rfl ?_
        refine d_st (.box [.d (.lit (.int .i64 x10.n)), .d (.lit (.int .i64 x12.n)), .d (.lit (.string ⟨⟨x14.b⟩⟩)), .d (.seq 1 (bytesD x16.b)), .d (.lit (.slice none 0 0)), .d (.lit (.slice none 0 0)), .d (.lit (.slice none 0 0))]) rfl (dg0 rfl) rfl rfl rfl rfl ?_
        refine d_nil (by kernel_rfl) ?_
        repeat (first | refine then_normal ?_ | refine then_exit ?_ | refine then_ret ?_ | refine block_normal ?_ | refine block_ret ?_ | refine block_exit ?_ | refine block_pass rfl ?_)
        refine c_seq ?_
        refine c_region ?_
        refine o_s (.t (.d (.lit (.bool false)))) (g0 rfl) rfl rfl rfl ?_
        refine o_s (.t (.d (.lit (.bool false)))) (g0 rfl) rfl rfl rfl ?_
        refine o_s (.t (.d (.lit (.bool false)))) (g0 rfl) rfl rfl rfl ?_
        refine o_nil ?_
        repeat (first | refine then_normal ?_ | refine then_exit ?_ | refine then_ret ?_ | refine block_normal ?_ | refine block_ret ?_ | refine block_exit ?_ | refine block_pass rfl ?_)
        refine c_seq ?_
        refine c_region ?_
        refine o_s (.t (.d (.seq 4 (List.map V.cells x4.1)))) (g0 rfl) rfl rfl rfl ?_
        obtain ⟨x18, h19, h⟩ := bind_some h
        refine o_c (g0 rfl) rfl rfl rfl (idxE' V.cells_eq h19) (idxC h19) ?_
        refine o_s (.t (.agg [.lit (.int .i64 x18.k), .lit (.int .i64 x18.n), .seq 1 (bytesD x18.b), .seq 4 (List.map V.cells x18.l)])) (g0 rfl) rfl rfl rfl ?_
        obtain ⟨x20, h21, h⟩ := bind_some h
        refine o_ca (fc_answer_things_string _ 54 [] _ fc_answer_name ⟨_, Try.func54, rfl, rfl⟩ _ h21) (g0 rfl) rfl rfl rfl rfl rfl rfl rfl (.cons (.refl _) (.cons (.t (.d (.fn _))) .nil)) rfl rfl ?_
        refine o_s (.tup [.d (.seq 1 (List.map cStr x20.1)), .d (.lit (.bool x20.2))]) (g0 rfl) rfl rfl rfl ?_
        refine o_s (.t (.d (.seq 1 (List.map cStr x20.1)))) (g0 rfl) rfl rfl rfl ?_
        refine o_s (.t (.d (.lit (.bool x20.2)))) (g0 rfl) rfl rfl rfl ?_
        refine o_s (.ref 8 4) (g0 rfl) rfl rfl rfl ?_
        refine o_st (.box [.d (.lit (.int .i64 x10.n)), .d (.lit (.int .i64 x12.n)), .d (.lit (.string ⟨⟨x14.b⟩⟩)), .d (.seq 1 (bytesD x16.b)), .d (.seq 1 (List.map cStr x20.1)), .d (.lit (.slice none 0 0)), .d (.lit (.slice none 0 0))]) (g0 rfl) rfl rfl rfl ?_
        refine o_s (.t (.d (.lit (.bool x20.2)))) (g0 rfl) rfl rfl rfl ?_
        refine o_nil ?_
        repeat (first | refine then_normal ?_ | refine then_exit ?_ | refine then_ret ?_ | refine block_normal ?_ | refine block_ret ?_ | refine block_exit ?_ | refine block_pass rfl ?_)
        refine c_seq ?_
        refine c_region ?_
        refine o_s (.t (.d (.seq 4 (List.map V.cells x4.1)))) (g0 rfl) rfl rfl rfl ?_
        obtain ⟨x22, h23, h⟩ := bind_some h
        refine o_c (g0 rfl) rfl rfl rfl (idxE' V.cells_eq h23) (idxC h23) ?_
        refine o_s (.t (.agg [.lit (.int .i64 x22.k), .lit (.int .i64 x22.n), .seq 1 (bytesD x22.b), .seq 4 (List.map V.cells x22.l)])) (g0 rfl) rfl rfl rfl ?_
        obtain ⟨x24, h25, h⟩ := bind_some h
        refine o_ca (fc_answer_things_Member _ 56 [] _ fc_answer_Read_c1 ⟨_, Try.func56, rfl, rfl⟩ _ h25) (g0 rfl) rfl rfl rfl rfl rfl rfl rfl (.cons (.refl _) (.cons (.t (.d (.fn _))) .nil)) rfl rfl ?_
        refine o_s (.tup [.d (.seq 2 (List.map cS_api_Member x24.1)), .d (.lit (.bool x24.2))]) (g0 rfl) rfl rfl rfl ?_
        refine o_s (.t (.d (.seq 2 (List.map cS_api_Member x24.1)))) (g0 rfl) rfl rfl rfl ?_
        refine o_s (.t (.d (.lit (.bool x24.2)))) (g0 rfl) rfl rfl rfl ?_
        refine o_s (.ref 8 5) (g0 rfl) rfl rfl rfl ?_
        refine o_st (.box [.d (.lit (.int .i64 x10.n)), .d (.lit (.int .i64 x12.n)), .d (.lit (.string ⟨⟨x14.b⟩⟩)), .d (.seq 1 (bytesD x16.b)), .d (.seq 1 (List.map cStr x20.1)), .d (.seq 2 (List.map cS_api_Member x24.1)), .d (.lit (.slice none 0 0))]) (g0 rfl) rfl rfl rfl ?_
        refine o_s (.t (.d (.lit (.bool x24.2)))) (g0 rfl) rfl rfl rfl ?_
        refine o_nil ?_
        repeat (first | refine then_normal ?_ | refine then_exit ?_ | refine then_ret ?_ | refine block_normal ?_ | refine block_ret ?_ | refine block_exit ?_ | refine block_pass rfl ?_)
        refine c_seq ?_
        refine c_region ?_
        refine o_s (.t (.d (.seq 4 (List.map V.cells x4.1)))) (g0 rfl) rfl rfl rfl ?_
        obtain ⟨x26, h27, h⟩ := bind_some h
        refine o_c (g0 rfl) rfl rfl rfl (idxE' V.cells_eq h27) (idxC h27) ?_
        refine o_s (.t (.agg [.lit (.int .i64 x26.k), .lit (.int .i64 x26.n), .seq 1 (bytesD x26.b), .seq 4 (List.map V.cells x26.l)])) (g0 rfl) rfl rfl rfl ?_
        obtain ⟨x28, h29, h⟩ := bind_some h
        refine o_ca (fc_answer_things_Past _ 58 [] _ fc_answer_Read_c2 ⟨_, Try.func58, rfl, rfl⟩ _ h29) (g0 rfl) rfl rfl rfl rfl rfl rfl rfl (.cons (.refl _) (.cons (.t (.d (.fn _))) .nil)) rfl rfl ?_
        refine o_s (.tup [.d (.seq 4 (List.map cS_api_Past x28.1)), .d (.lit (.bool x28.2))]) (g0 rfl) rfl rfl rfl ?_
        refine o_s (.t (.d (.seq 4 (List.map cS_api_Past x28.1)))) (g0 rfl) rfl rfl rfl ?_
        refine o_s (.t (.d (.lit (.bool x28.2)))) (g0 rfl) rfl rfl rfl ?_
        refine o_s (.ref 8 6) (g0 rfl) rfl rfl rfl ?_
        refine o_st (.box [.d (.lit (.int .i64 x10.n)), .d (.lit (.int .i64 x12.n)), .d (.lit (.string ⟨⟨x14.b⟩⟩)), .d (.seq 1 (bytesD x16.b)), .d (.seq 1 (List.map cStr x20.1)), .d (.seq 2 (List.map cS_api_Member x24.1)), .d (.seq 4 (List.map cS_api_Past x28.1))]) (g0 rfl) rfl rfl rfl ?_
        refine o_s (.t (.d (.lit (.bool x28.2)))) (g0 rfl) rfl rfl rfl ?_
        refine o_nil ?_
        repeat (first | refine then_normal ?_ | refine then_exit ?_ | refine then_ret ?_ | refine block_normal ?_ | refine block_ret ?_ | refine block_exit ?_ | refine block_pass rfl ?_)
        refine c_seq ?_
        refine c_seq ?_
        refine c_region ?_
        refine o_s (.t (.d (.lit (.bool x20.2)))) (g0 rfl) rfl rfl rfl ?_
        refine o_s (.t (.d (.lit (.bool (!x20.2))))) (g0 rfl) rfl rfl rfl ?_
        refine o_s (.t (.d (.lit (.bool (!x20.2))))) (g0 rfl) rfl rfl rfl ?_
        rcases bif_some h with ⟨h30, h⟩ | ⟨h30, h⟩
        · refine o_skip rfl rfl rfl h30 rfl rfl ?_
          refine o_skip rfl rfl rfl h30 rfl rfl ?_
          refine o_pk (.t (.d (.lit (.bool true)))) (b := true) h30 (g0 rfl) rfl rfl rfl rfl rfl ?_
          refine o_s (.t (.d (.lit (.bool true)))) (g0 rfl) rfl rfl rfl ?_
          refine o_skip rfl rfl rfl rfl rfl rfl ?_
          refine o_skip rfl rfl rfl rfl rfl rfl ?_
          refine o_pk (.t (.d (.lit (.bool true)))) (b := true) rfl (g0 rfl) rfl rfl rfl rfl rfl ?_
          refine o_s (.t (.d (.lit (.bool true)))) (g0 rfl) rfl rfl rfl ?_
          refine o_skip rfl rfl rfl rfl rfl rfl ?_
          refine o_skip rfl rfl rfl rfl rfl rfl ?_
          refine o_skip rfl rfl rfl rfl rfl rfl ?_
          refine o_pk (.t (.d (.lit (.bool true)))) (b := true) rfl (g0 rfl) rfl rfl rfl rfl rfl ?_
          refine o_nil ?_
          repeat (first | refine then_normal ?_ | refine then_exit ?_ | refine then_ret ?_ | refine block_normal ?_ | refine block_ret ?_ | refine block_exit ?_ | refine block_pass rfl ?_)
          refine c_t rfl rfl ?_
          refine c_seq ?_
          refine c_region ?_
          refine o_s (.t (.agg [.lit (.int .i64 0), .lit (.int .i64 0), .lit (.string ⟨⟨[]⟩⟩), .lit (.slice none 0 0), .lit (.slice none 0 0), .lit (.slice none 0 0), .lit (.slice none 0 0)])) (g0 rfl) rfl rfl rfl ?_
          refine o_st (.box [.d (.lit (.int .i64 0)), .d (.lit (.int .i64 0)), .d (.lit (.string ⟨⟨[]⟩⟩)), .d (.lit (.slice none 0 0)), .d (.lit (.slice none 0 0)), .d (.lit (.slice none 0 0)), .d (.lit (.slice none 0 0))]) (g0 rfl) rfl rfl rfl ?_
          refine o_s (.t (.d (.lit (.int .i64 11)))) (g0 rfl) rfl rfl rfl ?_
          refine o_nil ?_
          repeat (first | refine then_normal ?_ | refine then_exit ?_ | refine then_ret ?_ | refine block_normal ?_ | refine block_ret ?_ | refine block_exit ?_ | refine block_pass rfl ?_)
          refine c_ret ?_
          repeat (first | refine then_normal ?_ | refine then_exit ?_ | refine then_ret ?_ | refine block_normal ?_ | refine block_ret ?_ | refine block_exit ?_ | refine block_pass rfl ?_)
          obtain rfl := Option.some.inj h
          exact end0 rfl (.tup (.cons (.agg (.cons (.refl _) (.cons (.refl _) (.cons (.refl _) (.cons (.nil _) (.cons (.nil _) (.cons (.nil _) (.cons (.nil _) .nil)))))))) (.cons (.refl _) .nil)))
        · refine o_s (.t (.d (.lit (.bool x24.2)))) (gy rfl rfl rfl h30) rfl rfl rfl ?_
          refine o_s (.t (.d (.lit (.bool (!x24.2))))) (gy rfl rfl rfl h30) rfl rfl rfl ?_
          refine o_pk (.t (.d (.lit (.bool (!x24.2))))) (b := false) h30 (g0 rfl) rfl rfl rfl rfl rfl ?_
          refine o_s (.t (.d (.lit (.bool (!x24.2))))) (g0 rfl) rfl rfl rfl ?_
          rcases bif_some h with ⟨h31, h⟩ | ⟨h31, h⟩
          · refine o_skip rfl rfl rfl h31 rfl rfl ?_
            refine o_skip rfl rfl rfl h31 rfl rfl ?_
            refine o_pk (.t (.d (.lit (.bool true)))) (b := true) h31 (g0 rfl) rfl rfl rfl rfl rfl ?_
            refine o_s (.t (.d (.lit (.bool true)))) (g0 rfl) rfl rfl rfl ?_
            refine o_skip rfl rfl rfl rfl rfl rfl ?_
            refine o_skip rfl rfl rfl rfl rfl rfl ?_
            refine o_skip rfl rfl rfl rfl rfl rfl ?_
            refine o_pk (.t (.d (.lit (.bool true)))) (b := true) rfl (g0 rfl) rfl rfl rfl rfl rfl ?_
            refine o_nil ?_
            repeat (first | refine then_normal ?_ | refine then_exit ?_ | refine then_ret ?_ | refine block_normal ?_ | refine block_ret ?_ | refine block_exit ?_ | refine block_pass rfl ?_)
            refine c_t rfl rfl ?_
            refine c_seq ?_
            refine c_region ?_
            refine o_s (.t (.agg [.lit (.int .i64 0), .lit (.int .i64 0), .lit (.string ⟨⟨[]⟩⟩), .lit (.slice none 0 0), .lit (.slice none 0 0), .lit (.slice none 0 0), .lit (.slice none 0 0)])) (g0 rfl) rfl rfl rfl ?_
            refine o_st (.box [.d (.lit (.int .i64 0)), .d (.lit (.int .i64 0)), .d (.lit (.string ⟨⟨[]⟩⟩)), .d (.lit (.slice none 0 0)), .d (.lit (.slice none 0 0)), .d (.lit (.slice none 0 0)), .d (.lit (.slice none 0 0))]) (g0 rfl) rfl rfl rfl ?_
            refine o_s (.t (.d (.lit (.int .i64 11)))) (g0 rfl) rfl rfl rfl ?_
            refine o_nil ?_
            repeat (first | refine then_normal ?_ | refine then_exit ?_ | refine then_ret ?_ | refine block_normal ?_ | refine block_ret ?_ | refine block_exit ?_ | refine block_pass rfl ?_)
            refine c_ret ?_
            repeat (first | refine then_normal ?_ | refine then_exit ?_ | refine then_ret ?_ | refine block_normal ?_ | refine block_ret ?_ | refine block_exit ?_ | refine block_pass rfl ?_)
            obtain rfl := Option.some.inj h
            exact end0 rfl (.tup (.cons (.agg (.cons (.refl _) (.cons (.refl _) (.cons (.refl _) (.cons (.nil _) (.cons (.nil _) (.cons (.nil _) (.cons (.nil _) .nil)))))))) (.cons (.refl _) .nil)))
          · refine o_s (.t (.d (.lit (.bool x28.2)))) (gy rfl rfl rfl h31) rfl rfl rfl ?_
            refine o_s (.t (.d (.lit (.bool (!x28.2))))) (gy rfl rfl rfl h31) rfl rfl rfl ?_
            refine o_pk (.t (.d (.lit (.bool (!x28.2))))) (b := false) h31 (g0 rfl) rfl rfl rfl rfl rfl ?_
            refine o_s (.t (.d (.lit (.bool (!x28.2))))) (g0 rfl) rfl rfl rfl ?_
            rcases bif_some h with ⟨h32, h⟩ | ⟨h32, h⟩
            · refine o_skip rfl rfl rfl h32 rfl rfl ?_
              refine o_skip rfl rfl rfl h32 rfl rfl ?_
              refine o_skip rfl rfl rfl h32 rfl rfl ?_
              refine o_pk (.t (.d (.lit (.bool true)))) (b := true) h32 (g0 rfl) rfl rfl rfl rfl rfl ?_
              refine o_nil ?_
              repeat (first | refine then_normal ?_ | refine then_exit ?_ | refine then_ret ?_ | refine block_normal ?_ | refine block_ret ?_ | refine block_exit ?_ | refine block_pass rfl ?_)
              refine c_t rfl rfl ?_
              refine c_seq ?_
              refine c_region ?_
              refine o_s (.t (.agg [.lit (.int .i64 0), .lit (.int .i64 0), .lit (.string ⟨⟨[]⟩⟩), .lit (.slice none 0 0), .lit (.slice none 0 0), .lit (.slice none 0 0), .lit (.slice none 0 0)])) (g0 rfl) rfl rfl rfl ?_
              refine o_st (.box [.d (.lit (.int .i64 0)), .d (.lit (.int .i64 0)), .d (.lit (.string ⟨⟨[]⟩⟩)), .d (.lit (.slice none 0 0)), .d (.lit (.slice none 0 0)), .d (.lit (.slice none 0 0)), .d (.lit (.slice none 0 0))]) (g0 rfl) rfl rfl rfl ?_
              refine o_s (.t (.d (.lit (.int .i64 11)))) (g0 rfl) rfl rfl rfl ?_
              refine o_nil ?_
              repeat (first | refine then_normal ?_ | refine then_exit ?_ | refine then_ret ?_ | refine block_normal ?_ | refine block_ret ?_ | refine block_exit ?_ | refine block_pass rfl ?_)
              refine c_ret ?_
              repeat (first | refine then_normal ?_ | refine then_exit ?_ | refine then_ret ?_ | refine block_normal ?_ | refine block_ret ?_ | refine block_exit ?_ | refine block_pass rfl ?_)
              obtain rfl := Option.some.inj h
              exact end0 rfl (.tup (.cons (.agg (.cons (.refl _) (.cons (.refl _) (.cons (.refl _) (.cons (.nil _) (.cons (.nil _) (.cons (.nil _) (.cons (.nil _) .nil)))))))) (.cons (.refl _) .nil)))
            · refine o_s (.t (.agg [.lit (.int .i64 x10.n), .lit (.int .i64 x12.n), .lit (.string ⟨⟨x14.b⟩⟩), .seq 1 (bytesD x16.b), .seq 1 (List.map cStr x20.1), .seq 2 (List.map cS_api_Member x24.1), .seq 4 (List.map cS_api_Past x28.1)])) (gy rfl rfl rfl h32) rfl rfl rfl ?_
              obtain ⟨x33, h34, h⟩ := bind_some h
              refine o_ca (fc_answer_May _ _ h34) (gy rfl rfl rfl h32) rfl rfl rfl rfl rfl rfl rfl (.cons (.refl _) .nil) rfl rfl ?_
              refine o_s (.t (.d (.lit (.bool (!x33))))) (gy rfl rfl rfl h32) rfl rfl rfl ?_
              refine o_pk (.t (.d (.lit (.bool (!x33))))) (b := false) h32 (g0 rfl) rfl rfl rfl rfl rfl ?_
              refine o_nil ?_
              repeat (first | refine then_normal ?_ | refine then_exit ?_ | refine then_ret ?_ | refine block_normal ?_ | refine block_ret ?_ | refine block_exit ?_ | refine block_pass rfl ?_)
              rcases bif_some h with ⟨h35, h⟩ | ⟨h35, h⟩
              · refine c_t h35 rfl ?_
                refine c_seq ?_
                refine c_region ?_
                refine o_s (.t (.agg [.lit (.int .i64 0), .lit (.int .i64 0), .lit (.string ⟨⟨[]⟩⟩), .lit (.slice none 0 0), .lit (.slice none 0 0), .lit (.slice none 0 0), .lit (.slice none 0 0)])) (g0 rfl) rfl rfl rfl ?_
                refine o_st (.box [.d (.lit (.int .i64 0)), .d (.lit (.int .i64 0)), .d (.lit (.string ⟨⟨[]⟩⟩)), .d (.lit (.slice none 0 0)), .d (.lit (.slice none 0 0)), .d (.lit (.slice none 0 0)), .d (.lit (.slice none 0 0))]) (g0 rfl) rfl rfl rfl ?_
                refine o_s (.t (.d (.lit (.int .i64 11)))) (g0 rfl) rfl rfl rfl ?_
                refine o_nil ?_
                repeat (first | refine then_normal ?_ | refine then_exit ?_ | refine then_ret ?_ | refine block_normal ?_ | refine block_ret ?_ | refine block_exit ?_ | refine block_pass rfl ?_)
                refine c_ret ?_
                repeat (first | refine then_normal ?_ | refine then_exit ?_ | refine then_ret ?_ | refine block_normal ?_ | refine block_ret ?_ | refine block_exit ?_ | refine block_pass rfl ?_)
                obtain rfl := Option.some.inj h
                exact end0 rfl (.tup (.cons (.agg (.cons (.refl _) (.cons (.refl _) (.cons (.refl _) (.cons (.nil _) (.cons (.nil _) (.cons (.nil _) (.cons (.nil _) .nil)))))))) (.cons (.refl _) .nil)))
              · refine c_f h35 rfl ?_
                refine c_skip ?_
                repeat (first | refine then_normal ?_ | refine then_exit ?_ | refine then_ret ?_ | refine block_normal ?_ | refine block_ret ?_ | refine block_exit ?_ | refine block_pass rfl ?_)
                refine c_seq ?_
                refine c_region ?_
                refine o_s (.t (.agg [.lit (.int .i64 x10.n), .lit (.int .i64 x12.n), .lit (.string ⟨⟨x14.b⟩⟩), .seq 1 (bytesD x16.b), .seq 1 (List.map cStr x20.1), .seq 2 (List.map cS_api_Member x24.1), .seq 4 (List.map cS_api_Past x28.1)])) (g0 rfl) rfl rfl rfl ?_
                refine o_st (.box [.d (.lit (.int .i64 x10.n)), .d (.lit (.int .i64 x12.n)), .d (.lit (.string ⟨⟨x14.b⟩⟩)), .d (.seq 1 (bytesD x16.b)), .d (.seq 1 (List.map cStr x20.1)), .d (.seq 2 (List.map cS_api_Member x24.1)), .d (.seq 4 (List.map cS_api_Past x28.1))]) (g0 rfl) rfl rfl rfl ?_
                refine o_s (.t (.d (.lit (.int .i64 0)))) (g0 rfl) rfl rfl rfl ?_
                refine o_nil ?_
                repeat (first | refine then_normal ?_ | refine then_exit ?_ | refine then_ret ?_ | refine block_normal ?_ | refine block_ret ?_ | refine block_exit ?_ | refine block_pass rfl ?_)
                refine c_ret ?_
                repeat (first | refine then_normal ?_ | refine then_exit ?_ | refine then_ret ?_ | refine block_normal ?_ | refine block_ret ?_ | refine block_exit ?_ | refine block_pass rfl ?_)
                obtain rfl := Option.some.inj h
                exact end0 rfl (.tup (.cons (.refl _) (.cons (.refl _) .nil)))

theorem fc_R27_Same (p0 : (List S_api_Member)) (p1 : (List S_api_Member)) (r : Bool) (h : m_R27_Same p0 p1 = some r) : FC Try.prog 41 [.t (.d (.seq 2 (List.map cS_api_Member p0))), .t (.d (.seq 2 (List.map cS_api_Member p1)))] [] (.t (.d (.lit (.bool r)))) := by
  refine fc_mk (rs := [.tmp 4]) (n := 26) Try.func41 rfl rfl (Nat.le_of_ble_eq_true rfl) rfl (pins := []) rfl (L := [(0, .t (.d (.seq 2 (List.map cS_api_Member p0)))), (1, .t (.d (.seq 2 (List.map cS_api_Member p1))))]) rfl ?_
  refine c_seq ?_
  refine c_region ?_
  refine o_s (.t (.d (.lit (.bool false)))) (g0 rfl) rfl rfl rfl ?_
  refine o_nil ?_
  repeat (first | refine then_normal ?_ | refine then_exit ?_ | refine then_ret ?_ | refine block_normal ?_ | refine block_ret ?_ | refine block_exit ?_ | refine block_pass rfl ?_)
  refine c_seq ?_
  refine c_seq ?_
  refine c_region ?_
  refine o_s (.t (.d (.seq 2 (List.map cS_api_Member p0)))) (g0 rfl) rfl rfl rfl ?_
  refine o_c (g0 rfl) rfl rfl rfl (lenE _ _) trivial ?_
  refine o_s (.t (.d (.seq 2 (List.map cS_api_Member p1)))) (g0 rfl) rfl rfl rfl ?_
  refine o_c (g0 rfl) rfl rfl rfl (lenE _ _) trivial ?_
  refine o_s (.t (.d (.lit (.bool ((p0.length : Int) != (p1.length : Int)))))) (g0 rfl) rfl rfl rfl ?_
  refine o_nil ?_
  repeat (first | refine then_normal ?_ | refine then_exit ?_ | refine then_ret ?_ | refine block_normal ?_ | refine block_ret ?_ | refine block_exit ?_ | refine block_pass rfl ?_)
  rcases bif_some h with ⟨h1, h⟩ | ⟨h1, h⟩
  · refine c_t h1 rfl ?_
    refine c_seq ?_
    refine c_region ?_
    refine o_s (.t (.d (.lit (.bool false)))) (g0 rfl) rfl rfl rfl ?_
    refine o_nil ?_
    repeat (first | refine then_normal ?_ | refine then_exit ?_ | refine then_ret ?_ | refine block_normal ?_ | refine block_ret ?_ | refine block_exit ?_ | refine block_pass rfl ?_)
    refine c_ret ?_
    repeat (first | refine then_normal ?_ | refine then_exit ?_ | refine then_ret ?_ | refine block_normal ?_ | refine block_ret ?_ | refine block_exit ?_ | refine block_pass rfl ?_)
    obtain rfl := Option.some.inj h
    exact end0 rfl (.refl _)
  · refine c_f h1 rfl ?_
    refine c_skip ?_
    repeat (first | refine then_normal ?_ | refine then_exit ?_ | refine then_ret ?_ | refine block_normal ?_ | refine block_ret ?_ | refine block_exit ?_ | refine block_pass rfl ?_)
    refine c_seq ?_
    refine c_seq ?_
    refine c_region ?_
    refine o_s (.t (.d (.lit (.int .i64 0)))) (g0 rfl) rfl rfl rfl ?_
    refine o_nil ?_
    repeat (first | refine then_normal ?_ | refine then_exit ?_ | refine then_ret ?_ | refine block_normal ?_ | refine block_ret ?_ | refine block_exit ?_ | refine block_pass rfl ?_)
    refine c_block ?_
    refine c_fuel (fun (z2 : Int) => [(0, .t (.d (.seq 2 (List.map cS_api_Member p0)))), (1, .t (.d (.seq 2 (List.map cS_api_Member p1)))), (5, .t (.d (.lit (.int .i64 z2))))]) (fun nl1 => (fun (z2 : Int) => m_R27_Same_l1 p0 p1 nl1 z2 = some r)) (p0.length + 1) 0 h ⟨(.refl _), ⟨(.refl _), ⟨(.refl _), trivial⟩⟩⟩ rfl ?_
    rintro nl1 z2 h
    cases nl1 with
    | zero => exact none_ne h
    | succ nl1 =>
      refine c_seq ?_
      refine c_seq ?_
      refine c_region ?_
      refine o_s (.t (.d (.lit (.int .i64 z2)))) (g0 rfl) rfl rfl rfl ?_
      refine o_s (.t (.d (.seq 2 (List.map cS_api_Member p0)))) (g0 rfl) rfl rfl rfl ?_
      refine o_c (g0 rfl) rfl rfl rfl (lenE _ _) trivial ?_
      refine o_s (.t (.d (.lit (.bool (decide (z2 < (p0.length : Int))))))) (g0 rfl) rfl rfl rfl ?_
      refine o_nil ?_
      repeat (first | refine then_normal ?_ | refine then_exit ?_ | refine then_ret ?_ | refine block_normal ?_ | refine block_ret ?_ | refine block_exit ?_ | refine block_pass rfl ?_)
      rcases bif_some h with ⟨h3, h⟩ | ⟨h3, h⟩
      · refine c_t h3 rfl ?_
        refine c_skip ?_
        repeat (first | refine then_normal ?_ | refine then_exit ?_ | refine then_ret ?_ | refine block_normal ?_ | refine block_ret ?_ | refine block_exit ?_ | refine block_pass rfl ?_)
        refine c_seq ?_
        refine c_block ?_
        refine c_seq ?_
        refine c_draw mixed (by kernel_rfl) ?_
        refine d_s (.t (.d (.seq 2 (List.map cS_api_Member p0)))) rfl (dg0 rfl) rfl rfl rfl rfl ?_
        refine d_s (.t (.d (.lit (.int .i64 z2)))) rfl (dg0 rfl) rfl rfl rfl rfl ?_
        obtain ⟨x4, h5, h⟩ := bind_some h
        refine d_c rfl (dg0 rfl) rfl rfl rfl rfl (idxE h5) (idxC h5) ?_
        refine d_s (.t (.agg [.lit (.string ⟨⟨x4.Name⟩⟩), .lit (.int .i64 x4.Role)])) rfl (dg0 rfl) rfl rfl rfl rfl ?_
        refine d_s (.t (.d (.seq 2 (List.map cS_api_Member p1)))) rfl (dg0 rfl) rfl rfl rfl rfl ?_
        refine d_s (.t (.d (.lit (.int .i64 z2)))) rfl (dg0 rfl) rfl rfl rfl rfl ?_
        obtain ⟨x6, h7, h⟩ := bind_some h
        refine d_c rfl (dg0 rfl) rfl rfl rfl rfl (idxE h7) (idxC h7) ?_
        refine d_s (.t (.agg [.lit (.string ⟨⟨x6.Name⟩⟩), .lit (.int .i64 x6.Role)])) rfl (dg0 rfl) rfl rfl rfl rfl ?_
        refine d_eqs true (b' := ((x4.Name == x6.Name) && ((x4.Role == x6.Role) && true))) (andE (str_beqL _ _) (andE rfl rfl)) rfl (dg0 rfl) rfl rfl rfl rfl rfl (by kernel_rfl) ((!((x4.Name == x6.Name) && ((x4.Role == x6.Role) && true)))) (by cases ((x4.Name == x6.Name) && ((x4.Role == x6.Role) && true)) <;> rfl) ?_
        refine d_nil (by kernel_rfl) ?_
        repeat (first | refine then_normal ?_ | refine then_exit ?_ | refine then_ret ?_ | refine block_normal ?_ | refine block_ret ?_ | refine block_exit ?_ | refine block_pass rfl ?_)
        rcases bif_some h with ⟨h8, h⟩ | ⟨h8, h⟩
        · refine c_t h8 rfl ?_
          refine c_seq ?_
          refine c_region ?_
          refine o_s (.t (.d (.lit (.bool false)))) (g0 rfl) rfl rfl rfl ?_
          refine o_nil ?_
          repeat (first | refine then_normal ?_ | refine then_exit ?_ | refine then_ret ?_ | refine block_normal ?_ | refine block_ret ?_ | refine block_exit ?_ | refine block_pass rfl ?_)
          refine c_ret ?_
          repeat (first | refine then_normal ?_ | refine then_exit ?_ | refine then_ret ?_ | refine block_normal ?_ | refine block_ret ?_ | refine block_exit ?_ | refine block_pass rfl ?_)
          obtain rfl := Option.some.inj h
          exact end0 rfl (.refl _)
        · refine c_f h8 rfl ?_
          refine c_skip ?_
          repeat (first | refine then_normal ?_ | refine then_exit ?_ | refine then_ret ?_ | refine block_normal ?_ | refine block_ret ?_ | refine block_exit ?_ | refine block_pass rfl ?_)
          refine c_region ?_
          refine o_s (.t (.d (.lit (.int .i64 z2)))) (g0 rfl) rfl rfl rfl ?_
          refine o_s (.t (.d (.lit (.int .i64 (wi (z2 + 1)))))) (g0 rfl) rfl rfl rfl ?_
          refine o_s (.t (.d (.lit (.int .i64 (wi (z2 + 1)))))) (g0 rfl) rfl rfl rfl ?_
          refine o_nil ?_
          repeat (first | refine then_normal ?_ | refine then_exit ?_ | refine then_ret ?_ | refine block_normal ?_ | refine block_ret ?_ | refine block_exit ?_ | refine block_pass rfl ?_)
          exact ⟨nl1, (wi (z2 + 1)), Nat.lt_succ_self nl1, h, ⟨(.refl _), ⟨(.refl _), ⟨(.refl _), trivial⟩⟩⟩, rfl⟩
      · refine c_f h3 rfl ?_
        refine c_exit ?_
        repeat (first | refine then_normal ?_ | refine then_exit ?_ | refine then_ret ?_ | refine block_normal ?_ | refine block_ret ?_ | refine block_exit ?_ | refine block_pass rfl ?_)
        refine c_seq ?_
        refine c_region ?_
        refine o_s (.t (.d (.lit (.bool true)))) (g0 rfl) rfl rfl rfl ?_
        refine o_nil ?_
        repeat (first | refine then_normal ?_ | refine then_exit ?_ | refine then_ret ?_ | refine block_normal ?_ | refine block_ret ?_ | refine block_exit ?_ | refine block_pass rfl ?_)
        refine c_ret ?_
        repeat (first | refine then_normal ?_ | refine then_exit ?_ | refine then_ret ?_ | refine block_normal ?_ | refine block_ret ?_ | refine block_exit ?_ | refine block_pass rfl ?_)
        obtain rfl := Option.some.inj h
        exact end0 rfl (.refl _)

theorem fc_R31_Same (p0 : S_api_Answer) (p1 : S_api_Answer) (r : Bool) (h : m_R31_Same p0 p1 = some r) : FC Try.prog 25 [.t (.agg [.lit (.int .i64 p0.Err), .lit (.int .i64 p0.Number), .lit (.string ⟨⟨p0.By⟩⟩), .seq 1 (bytesD p0.Data), .seq 1 (List.map cStr p0.Names), .seq 2 (List.map cS_api_Member p0.Members), .seq 4 (List.map cS_api_Past p0.History)]), .t (.agg [.lit (.int .i64 p1.Err), .lit (.int .i64 p1.Number), .lit (.string ⟨⟨p1.By⟩⟩), .seq 1 (bytesD p1.Data), .seq 1 (List.map cStr p1.Names), .seq 2 (List.map cS_api_Member p1.Members), .seq 4 (List.map cS_api_Past p1.History)])] [] (.t (.d (.lit (.bool r)))) := by
  refine fc_mk (rs := [.tmp 4]) (n := 96) Try.func25 rfl rfl (Nat.le_of_ble_eq_true rfl) rfl (pins := []) rfl (L := [(0, .t (.agg [.lit (.int .i64 p0.Err), .lit (.int .i64 p0.Number), .lit (.string ⟨⟨p0.By⟩⟩), .seq 1 (bytesD p0.Data), .seq 1 (List.map cStr p0.Names), .seq 2 (List.map cS_api_Member p0.Members), .seq 4 (List.map cS_api_Past p0.History)])), (1, .t (.agg [.lit (.int .i64 p1.Err), .lit (.int .i64 p1.Number), .lit (.string ⟨⟨p1.By⟩⟩), .seq 1 (bytesD p1.Data), .seq 1 (List.map cStr p1.Names), .seq 2 (List.map cS_api_Member p1.Members), .seq 4 (List.map cS_api_Past p1.History)]))]) rfl ?_
  refine c_seq ?_
  refine c_region ?_
  refine o_s (.box [.d (.lit (.int .i64 p0.Err)), .d (.lit (.int .i64 p0.Number)), .d (.lit (.string ⟨⟨p0.By⟩⟩)), .d (.seq 1 (bytesD p0.Data)), .d (.seq 1 (List.map cStr p0.Names)), .d (.seq 2 (List.map cS_api_Member p0.Members)), .d (.seq 4 (List.map cS_api_Past p0.History))]) (g0 rfl) rfl rfl rfl ?_
  refine o_s (.box [.d (.lit (.int .i64 p1.Err)), .d (.lit (.int .i64 p1.Number)), .d (.lit (.string ⟨⟨p1.By⟩⟩)), .d (.seq 1 (bytesD p1.Data)), .d (.seq 1 (List.map cStr p1.Names)), .d (.seq 2 (List.map cS_api_Member p1.Members)), .d (.seq 4 (List.map cS_api_Past p1.History))]) (g0 rfl) rfl rfl rfl ?_
  refine o_s (.t (.d (.lit (.bool false)))) (g0 rfl) rfl rfl rfl ?_
  refine o_nil ?_
  repeat (first | refine then_normal ?_ | refine then_exit ?_ | refine then_ret ?_ | refine block_normal ?_ | refine block_ret ?_ | refine block_exit ?_ | refine block_pass rfl ?_)
  refine c_seq ?_
  refine c_seq ?_
  refine c_region ?_
  refine o_s (.ref 2 0) (g0 rfl) rfl rfl rfl ?_
  refine o_s (.t (.d (.lit (.int .i64 p0.Err)))) (g0 rfl) rfl rfl rfl ?_
  refine o_s (.ref 3 0) (g0 rfl) rfl rfl rfl ?_
  refine o_s (.t (.d (.lit (.int .i64 p1.Err)))) (g0 rfl) rfl rfl rfl ?_
  refine o_s (.t (.d (.lit (.bool (p0.Err != p1.Err))))) (g0 rfl) rfl rfl rfl ?_
  refine o_s (.t (.d (.lit (.bool (p0.Err != p1.Err))))) (g0 rfl) rfl rfl rfl ?_
  rcases bif_some h with ⟨h1, h⟩ | ⟨h1, h⟩
  · refine o_skip rfl rfl rfl h1 rfl rfl ?_
    refine o_skip rfl rfl rfl h1 rfl rfl ?_
    refine o_skip rfl rfl rfl h1 rfl rfl ?_
    refine o_skip rfl rfl rfl h1 rfl rfl ?_
    refine o_skip rfl rfl rfl h1 rfl rfl ?_
    refine o_pk (.t (.d (.lit (.bool true)))) (b := true) h1 (g0 rfl) rfl rfl rfl rfl rfl ?_
    refine o_s (.t (.d (.lit (.bool true)))) (g0 rfl) rfl rfl rfl ?_
    refine o_skip rfl rfl rfl rfl rfl rfl ?_
    refine o_skip rfl rfl rfl rfl rfl rfl ?_
    refine o_skip rfl rfl rfl rfl rfl rfl ?_
    refine o_skip rfl rfl rfl rfl rfl rfl ?_
    refine o_skip rfl rfl rfl rfl rfl rfl ?_
    refine o_pk (.t (.d (.lit (.bool true)))) (b := true) rfl (g0 rfl) rfl rfl rfl rfl rfl ?_
    refine o_s (.t (.d (.lit (.bool true)))) (g0 rfl) rfl rfl rfl ?_
    refine o_skip rfl rfl rfl rfl rfl rfl ?_
    refine o_skip rfl rfl rfl rfl rfl rfl ?_
    refine o_skip rfl rfl rfl rfl rfl rfl ?_
    refine o_skip rfl rfl rfl rfl rfl rfl ?_
    refine o_skip rfl rfl rfl rfl rfl rfl ?_
    refine o_skip rfl rfl rfl rfl rfl rfl ?_
    refine o_pk (.t (.d (.lit (.bool true)))) (b := true) rfl (g0 rfl) rfl rfl rfl rfl rfl ?_
    refine o_s (.t (.d (.lit (.bool true)))) (g0 rfl) rfl rfl rfl ?_
    refine o_skip rfl rfl rfl rfl rfl rfl ?_
    refine o_skip rfl rfl rfl rfl rfl rfl ?_
    refine o_skip rfl rfl rfl rfl rfl rfl ?_
    refine o_skip rfl rfl rfl rfl rfl rfl ?_
    refine o_skip rfl rfl rfl rfl rfl rfl ?_
    refine o_skip rfl rfl rfl rfl rfl rfl ?_
    refine o_skip rfl rfl rfl rfl rfl rfl ?_
    refine o_pk (.t (.d (.lit (.bool true)))) (b := true) rfl (g0 rfl) rfl rfl rfl rfl rfl ?_
    refine o_s (.t (.d (.lit (.bool true)))) (g0 rfl) rfl rfl rfl ?_
    refine o_skip rfl rfl rfl rfl rfl rfl ?_
    refine o_skip rfl rfl rfl rfl rfl rfl ?_
    refine o_skip rfl rfl rfl rfl rfl rfl ?_
    refine o_skip rfl rfl rfl rfl rfl rfl ?_
    refine o_skip rfl rfl rfl rfl rfl rfl ?_
    refine o_skip rfl rfl rfl rfl rfl rfl ?_
    refine o_pk (.t (.d (.lit (.bool true)))) (b := true) rfl (g0 rfl) rfl rfl rfl rfl rfl ?_
    refine o_s (.t (.d (.lit (.bool true)))) (g0 rfl) rfl rfl rfl ?_
    refine o_skip rfl rfl rfl rfl rfl rfl ?_
    refine o_skip rfl rfl rfl rfl rfl rfl ?_
    refine o_skip rfl rfl rfl rfl rfl rfl ?_
    refine o_skip rfl rfl rfl rfl rfl rfl ?_
    refine o_skip rfl rfl rfl rfl rfl rfl ?_
    refine o_skip rfl rfl rfl rfl rfl rfl ?_
    refine o_skip rfl rfl rfl rfl rfl rfl ?_
    refine o_pk (.t (.d (.lit (.bool true)))) (b := true) rfl (g0 rfl) rfl rfl rfl rfl rfl ?_
    refine o_nil ?_
    repeat (first | refine then_normal ?_ | refine then_exit ?_ | refine then_ret ?_ | refine block_normal ?_ | refine block_ret ?_ | refine block_exit ?_ | refine block_pass rfl ?_)
    refine c_t rfl rfl ?_
    refine c_seq ?_
    refine c_region ?_
    refine o_s (.t (.d (.lit (.bool false)))) (g0 rfl) rfl rfl rfl ?_
    refine o_nil ?_
    repeat (first | refine then_normal ?_ | refine then_exit ?_ | refine then_ret ?_ | refine block_normal ?_ | refine block_ret ?_ | refine block_exit ?_ | refine block_pass rfl ?_)
    refine c_ret ?_
    repeat (first | refine then_normal ?_ | refine then_exit ?_ | refine then_ret ?_ | refine block_normal ?_ | refine block_ret ?_ | refine block_exit ?_ | refine block_pass rfl ?_)
    obtain rfl := Option.some.inj h
    exact end0 rfl (.refl _)
  · refine o_s (.ref 2 1) (gy rfl rfl rfl h1) rfl rfl rfl ?_
    refine o_s (.t (.d (.lit (.int .i64 p0.Number)))) (gy rfl rfl rfl h1) rfl rfl rfl ?_
    refine o_s (.ref 3 1) (gy rfl rfl rfl h1) rfl rfl rfl ?_
    refine o_s (.t (.d (.lit (.int .i64 p1.Number)))) (gy rfl rfl rfl h1) rfl rfl rfl ?_
    refine o_s (.t (.d (.lit (.bool (p0.Number != p1.Number))))) (gy rfl rfl rfl h1) rfl rfl rfl ?_
    refine o_pk (.t (.d (.lit (.bool (p0.Number != p1.Number))))) (b := false) h1 (g0 rfl) rfl rfl rfl rfl rfl ?_
    refine o_s (.t (.d (.lit (.bool (p0.Number != p1.Number))))) (g0 rfl) rfl rfl rfl ?_
    rcases bif_some h with ⟨h2, h⟩ | ⟨h2, h⟩
    · refine o_skip rfl rfl rfl h2 rfl rfl ?_
      refine o_skip rfl rfl rfl h2 rfl rfl ?_
      refine o_skip rfl rfl rfl h2 rfl rfl ?_
      refine o_skip rfl rfl rfl h2 rfl rfl ?_
      refine o_skip rfl rfl rfl h2 rfl rfl ?_
      refine o_pk (.t (.d (.lit (.bool true)))) (b := true) h2 (g0 rfl) rfl rfl rfl rfl rfl ?_
      refine o_s (.t (.d (.lit (.bool true)))) (g0 rfl) rfl rfl rfl ?_
      refine o_skip rfl rfl rfl rfl rfl rfl ?_
      refine o_skip rfl rfl rfl rfl rfl rfl ?_
      refine o_skip rfl rfl rfl rfl rfl rfl ?_
      refine o_skip rfl rfl rfl rfl rfl rfl ?_
      refine o_skip rfl rfl rfl rfl rfl rfl ?_
      refine o_skip rfl rfl rfl rfl rfl rfl ?_
      refine o_pk (.t (.d (.lit (.bool true)))) (b := true) rfl (g0 rfl) rfl rfl rfl rfl rfl ?_
      refine o_s (.t (.d (.lit (.bool true)))) (g0 rfl) rfl rfl rfl ?_
      refine o_skip rfl rfl rfl rfl rfl rfl ?_
      refine o_skip rfl rfl rfl rfl rfl rfl ?_
      refine o_skip rfl rfl rfl rfl rfl rfl ?_
      refine o_skip rfl rfl rfl rfl rfl rfl ?_
      refine o_skip rfl rfl rfl rfl rfl rfl ?_
      refine o_skip rfl rfl rfl rfl rfl rfl ?_
      refine o_skip rfl rfl rfl rfl rfl rfl ?_
      refine o_pk (.t (.d (.lit (.bool true)))) (b := true) rfl (g0 rfl) rfl rfl rfl rfl rfl ?_
      refine o_s (.t (.d (.lit (.bool true)))) (g0 rfl) rfl rfl rfl ?_
      refine o_skip rfl rfl rfl rfl rfl rfl ?_
      refine o_skip rfl rfl rfl rfl rfl rfl ?_
      refine o_skip rfl rfl rfl rfl rfl rfl ?_
      refine o_skip rfl rfl rfl rfl rfl rfl ?_
      refine o_skip rfl rfl rfl rfl rfl rfl ?_
      refine o_skip rfl rfl rfl rfl rfl rfl ?_
      refine o_pk (.t (.d (.lit (.bool true)))) (b := true) rfl (g0 rfl) rfl rfl rfl rfl rfl ?_
      refine o_s (.t (.d (.lit (.bool true)))) (g0 rfl) rfl rfl rfl ?_
      refine o_skip rfl rfl rfl rfl rfl rfl ?_
      refine o_skip rfl rfl rfl rfl rfl rfl ?_
      refine o_skip rfl rfl rfl rfl rfl rfl ?_
      refine o_skip rfl rfl rfl rfl rfl rfl ?_
      refine o_skip rfl rfl rfl rfl rfl rfl ?_
      refine o_skip rfl rfl rfl rfl rfl rfl ?_
      refine o_skip rfl rfl rfl rfl rfl rfl ?_
      refine o_pk (.t (.d (.lit (.bool true)))) (b := true) rfl (g0 rfl) rfl rfl rfl rfl rfl ?_
      refine o_nil ?_
      repeat (first | refine then_normal ?_ | refine then_exit ?_ | refine then_ret ?_ | refine block_normal ?_ | refine block_ret ?_ | refine block_exit ?_ | refine block_pass rfl ?_)
      refine c_t rfl rfl ?_
      refine c_seq ?_
      refine c_region ?_
      refine o_s (.t (.d (.lit (.bool false)))) (g0 rfl) rfl rfl rfl ?_
      refine o_nil ?_
      repeat (first | refine then_normal ?_ | refine then_exit ?_ | refine then_ret ?_ | refine block_normal ?_ | refine block_ret ?_ | refine block_exit ?_ | refine block_pass rfl ?_)
      refine c_ret ?_
      repeat (first | refine then_normal ?_ | refine then_exit ?_ | refine then_ret ?_ | refine block_normal ?_ | refine block_ret ?_ | refine block_exit ?_ | refine block_pass rfl ?_)
      obtain rfl := Option.some.inj h
      exact end0 rfl (.refl _)
    · refine o_s (.ref 2 2) (gy rfl rfl rfl h2) rfl rfl rfl ?_
      refine o_s (.t (.d (.lit (.string ⟨⟨p0.By⟩⟩)))) (gy rfl rfl rfl h2) rfl rfl rfl ?_
      refine o_s (.ref 3 2) (gy rfl rfl rfl h2) rfl rfl rfl ?_
      refine o_s (.t (.d (.lit (.string ⟨⟨p1.By⟩⟩)))) (gy rfl rfl rfl h2) rfl rfl rfl ?_
      refine o_c (gy rfl rfl rfl h2) rfl rfl rfl (congrArg (fun z => A.t (.d (.lit (.bool (!z))))) (str_beqL _ _)) trivial ?_
      refine o_pk (.t (.d (.lit (.bool (!(p0.By == p1.By)))))) (b := false) h2 (g0 rfl) rfl rfl rfl rfl rfl ?_
      refine o_s (.t (.d (.lit (.bool (!(p0.By == p1.By)))))) (g0 rfl) rfl rfl rfl ?_
      rcases bif_some h with ⟨h3, h⟩ | ⟨h3, h⟩
      · refine o_skip rfl rfl rfl h3 rfl rfl ?_
        refine o_skip rfl rfl rfl h3 rfl rfl ?_
        refine o_skip rfl rfl rfl h3 rfl rfl ?_
        refine o_skip rfl rfl rfl h3 rfl rfl ?_
        refine o_skip rfl rfl rfl h3 rfl rfl ?_
        refine o_skip rfl rfl rfl h3 rfl rfl ?_
        refine o_pk (.t (.d (.lit (.bool true)))) (b := true) h3 (g0 rfl) rfl rfl rfl rfl rfl ?_
        refine o_s (.t (.d (.lit (.bool true)))) (g0 rfl) rfl rfl rfl ?_
        refine o_skip rfl rfl rfl rfl rfl rfl ?_
        refine o_skip rfl rfl rfl rfl rfl rfl ?_
        refine o_skip rfl rfl rfl rfl rfl rfl ?_
        refine o_skip rfl rfl rfl rfl rfl rfl ?_
        refine o_skip rfl rfl rfl rfl rfl rfl ?_
        refine o_skip rfl rfl rfl rfl rfl rfl ?_
        refine o_skip rfl rfl rfl rfl rfl rfl ?_
        refine o_pk (.t (.d (.lit (.bool true)))) (b := true) rfl (g0 rfl) rfl rfl rfl rfl rfl ?_
        refine o_s (.t (.d (.lit (.bool true)))) (g0 rfl) rfl rfl rfl ?_
        refine o_skip rfl rfl rfl rfl rfl rfl ?_
        refine o_skip rfl rfl rfl rfl rfl rfl ?_
        refine o_skip rfl rfl rfl rfl rfl rfl ?_
        refine o_skip rfl rfl rfl rfl rfl rfl ?_
        refine o_skip rfl rfl rfl rfl rfl rfl ?_
        refine o_skip rfl rfl rfl rfl rfl rfl ?_
        refine o_pk (.t (.d (.lit (.bool true)))) (b := true) rfl (g0 rfl) rfl rfl rfl rfl rfl ?_
        refine o_s (.t (.d (.lit (.bool true)))) (g0 rfl) rfl rfl rfl ?_
        refine o_skip rfl rfl rfl rfl rfl rfl ?_
        refine o_skip rfl rfl rfl rfl rfl rfl ?_
        refine o_skip rfl rfl rfl rfl rfl rfl ?_
        refine o_skip rfl rfl rfl rfl rfl rfl ?_
        refine o_skip rfl rfl rfl rfl rfl rfl ?_
        refine o_skip rfl rfl rfl rfl rfl rfl ?_
        refine o_skip rfl rfl rfl rfl rfl rfl ?_
        refine o_pk (.t (.d (.lit (.bool true)))) (b := true) rfl (g0 rfl) rfl rfl rfl rfl rfl ?_
        refine o_nil ?_
        repeat (first | refine then_normal ?_ | refine then_exit ?_ | refine then_ret ?_ | refine block_normal ?_ | refine block_ret ?_ | refine block_exit ?_ | refine block_pass rfl ?_)
        refine c_t rfl rfl ?_
        refine c_seq ?_
        refine c_region ?_
        refine o_s (.t (.d (.lit (.bool false)))) (g0 rfl) rfl rfl rfl ?_
        refine o_nil ?_
        repeat (first | refine then_normal ?_ | refine then_exit ?_ | refine then_ret ?_ | refine block_normal ?_ | refine block_ret ?_ | refine block_exit ?_ | refine block_pass rfl ?_)
        refine c_ret ?_
        repeat (first | refine then_normal ?_ | refine then_exit ?_ | refine then_ret ?_ | refine block_normal ?_ | refine block_ret ?_ | refine block_exit ?_ | refine block_pass rfl ?_)
        obtain rfl := Option.some.inj h
        exact end0 rfl (.refl _)
      · refine o_s (.ref 2 3) (gy rfl rfl rfl h3) rfl rfl rfl ?_
        refine o_s (.t (.d (.seq 1 (bytesD p0.Data)))) (gy rfl rfl rfl h3) rfl rfl rfl ?_
        refine o_s (.ref 3 3) (gy rfl rfl rfl h3) rfl rfl rfl ?_
        refine o_s (.t (.d (.seq 1 (bytesD p1.Data)))) (gy rfl rfl rfl h3) rfl rfl rfl ?_
        obtain ⟨x4, h5, h⟩ := bind_some h
        refine o_ca (fc_R01_Same _ _ _ h5) (gy rfl rfl rfl h3) rfl rfl rfl rfl rfl rfl rfl (.cons (.refl _) (.cons (.refl _) .nil)) rfl rfl ?_
        refine o_s (.t (.d (.lit (.bool (!x4))))) (gy rfl rfl rfl h3) rfl rfl rfl ?_
        refine o_pk (.t (.d (.lit (.bool (!x4))))) (b := false) h3 (g0 rfl) rfl rfl rfl rfl rfl ?_
        refine o_s (.t (.d (.lit (.bool (!x4))))) (g0 rfl) rfl rfl rfl ?_
        rcases bif_some h with ⟨h6, h⟩ | ⟨h6, h⟩
        · refine o_skip rfl rfl rfl h6 rfl rfl ?_
          refine o_skip rfl rfl rfl h6 rfl rfl ?_
          refine o_skip rfl rfl rfl h6 rfl rfl ?_
          refine o_skip rfl rfl rfl h6 rfl rfl ?_
          refine o_skip rfl rfl rfl h6 rfl rfl ?_
          refine o_skip rfl rfl rfl h6 rfl rfl ?_
          refine o_skip rfl rfl rfl h6 rfl rfl ?_
          refine o_pk (.t (.d (.lit (.bool true)))) (b := true) h6 (g0 rfl) rfl rfl rfl rfl rfl ?_
          refine o_s (.t (.d (.lit (.bool true)))) (g0 rfl) rfl rfl rfl ?_
          refine o_skip rfl rfl rfl rfl rfl rfl ?_
          refine o_skip rfl rfl rfl rfl rfl rfl ?_
          refine o_skip rfl rfl rfl rfl rfl rfl ?_
          refine o_skip rfl rfl rfl rfl rfl rfl ?_
          refine o_skip rfl rfl rfl rfl rfl rfl ?_
          refine o_skip rfl rfl rfl rfl rfl rfl ?_
          refine o_pk (.t (.d (.lit (.bool true)))) (b := true) rfl (g0 rfl) rfl rfl rfl rfl rfl ?_
          refine o_s (.t (.d (.lit (.bool true)))) (g0 rfl) rfl rfl rfl ?_
          refine o_skip rfl rfl rfl rfl rfl rfl ?_
          refine o_skip rfl rfl rfl rfl rfl rfl ?_
          refine o_skip rfl rfl rfl rfl rfl rfl ?_
          refine o_skip rfl rfl rfl rfl rfl rfl ?_
          refine o_skip rfl rfl rfl rfl rfl rfl ?_
          refine o_skip rfl rfl rfl rfl rfl rfl ?_
          refine o_skip rfl rfl rfl rfl rfl rfl ?_
          refine o_pk (.t (.d (.lit (.bool true)))) (b := true) rfl (g0 rfl) rfl rfl rfl rfl rfl ?_
          refine o_nil ?_
          repeat (first | refine then_normal ?_ | refine then_exit ?_ | refine then_ret ?_ | refine block_normal ?_ | refine block_ret ?_ | refine block_exit ?_ | refine block_pass rfl ?_)
          refine c_t rfl rfl ?_
          refine c_seq ?_
          refine c_region ?_
          refine o_s (.t (.d (.lit (.bool false)))) (g0 rfl) rfl rfl rfl ?_
          refine o_nil ?_
          repeat (first | refine then_normal ?_ | refine then_exit ?_ | refine then_ret ?_ | refine block_normal ?_ | refine block_ret ?_ | refine block_exit ?_ | refine block_pass rfl ?_)
          refine c_ret ?_
          repeat (first | refine then_normal ?_ | refine then_exit ?_ | refine then_ret ?_ | refine block_normal ?_ | refine block_ret ?_ | refine block_exit ?_ | refine block_pass rfl ?_)
          obtain rfl := Option.some.inj h
          exact end0 rfl (.refl _)
        · refine o_s (.ref 2 4) (gy rfl rfl rfl h6) rfl rfl rfl ?_
          refine o_s (.t (.d (.seq 1 (List.map cStr p0.Names)))) (gy rfl rfl rfl h6) rfl rfl rfl ?_
          refine o_c (gy rfl rfl rfl h6) rfl rfl rfl (lenE _ _) trivial ?_
          refine o_s (.ref 3 4) (gy rfl rfl rfl h6) rfl rfl rfl ?_
          refine o_s (.t (.d (.seq 1 (List.map cStr p1.Names)))) (gy rfl rfl rfl h6) rfl rfl rfl ?_
          refine o_c (gy rfl rfl rfl h6) rfl rfl rfl (lenE _ _) trivial ?_
          refine o_s (.t (.d (.lit (.bool ((p0.Names.length : Int) != (p1.Names.length : Int)))))) (gy rfl rfl rfl h6) rfl rfl rfl ?_
          refine o_pk (.t (.d (.lit (.bool ((p0.Names.length : Int) != (p1.Names.length : Int)))))) (b := false) h6 (g0 rfl) rfl rfl rfl rfl rfl ?_
          refine o_s (.t (.d (.lit (.bool ((p0.Names.length : Int) != (p1.Names.length : Int)))))) (g0 rfl) rfl rfl rfl ?_
          rcases bif_some h with ⟨h7, h⟩ | ⟨h7, h⟩
          · refine o_skip rfl rfl rfl h7 rfl rfl ?_
            refine o_skip rfl rfl rfl h7 rfl rfl ?_
            refine o_skip rfl rfl rfl h7 rfl rfl ?_
            refine o_skip rfl rfl rfl h7 rfl rfl ?_
            refine o_skip rfl rfl rfl h7 rfl rfl ?_
            refine o_skip rfl rfl rfl h7 rfl rfl ?_
            refine o_pk (.t (.d (.lit (.bool true)))) (b := true) h7 (g0 rfl) rfl rfl rfl rfl rfl ?_
            refine o_s (.t (.d (.lit (.bool true)))) (g0 rfl) rfl rfl rfl ?_
            refine o_skip rfl rfl rfl rfl rfl rfl ?_
            refine o_skip rfl rfl rfl rfl rfl rfl ?_
            refine o_skip rfl rfl rfl rfl rfl rfl ?_
            refine o_skip rfl rfl rfl rfl rfl rfl ?_
            refine o_skip rfl rfl rfl rfl rfl rfl ?_
            refine o_skip rfl rfl rfl rfl rfl rfl ?_
            refine o_skip rfl rfl rfl rfl rfl rfl ?_
            refine o_pk (.t (.d (.lit (.bool true)))) (b := true) rfl (g0 rfl) rfl rfl rfl rfl rfl ?_
            refine o_nil ?_
            repeat (first | refine then_normal ?_ | refine then_exit ?_ | refine then_ret ?_ | refine block_normal ?_ | refine block_ret ?_ | refine block_exit ?_ | refine block_pass rfl ?_)
            refine c_t rfl rfl ?_
            refine c_seq ?_
            refine c_region ?_
            refine o_s (.t (.d (.lit (.bool false)))) (g0 rfl) rfl rfl rfl ?_
            refine o_nil ?_
            repeat (first | refine then_normal ?_ | refine then_exit ?_ | refine then_ret ?_ | refine block_normal ?_ | refine block_ret ?_ | refine block_exit ?_ | refine block_pass rfl ?_)
            refine c_ret ?_
            repeat (first | refine then_normal ?_ | refine then_exit ?_ | refine then_ret ?_ | refine block_normal ?_ | refine block_ret ?_ | refine block_exit ?_ | refine block_pass rfl ?_)
            obtain rfl := Option.some.inj h
            exact end0 rfl (.refl _)
          · refine o_s (.ref 2 5) (gy rfl rfl rfl h7) rfl rfl rfl ?_
            refine o_s (.t (.d (.seq 2 (List.map cS_api_Member p0.Members)))) (gy rfl rfl rfl h7) rfl rfl rfl ?_
            refine o_s (.ref 3 5) (gy rfl rfl rfl h7) rfl rfl rfl ?_
            refine o_s (.t (.d (.seq 2 (List.map cS_api_Member p1.Members)))) (gy rfl rfl rfl h7) rfl rfl rfl ?_
            obtain ⟨x8, h9, h⟩ := bind_some h
            refine o_ca (fc_R27_Same _ _ _ h9) (gy rfl rfl rfl h7) rfl rfl rfl rfl rfl rfl rfl (.cons (.refl _) (.cons (.refl _) .nil)) rfl rfl ?_
            refine o_s (.t (.d (.lit (.bool (!x8))))) (gy rfl rfl rfl h7) rfl rfl rfl ?_
            refine o_pk (.t (.d (.lit (.bool (!x8))))) (b := false) h7 (g0 rfl) rfl rfl rfl rfl rfl ?_
            refine o_s (.t (.d (.lit (.bool (!x8))))) (g0 rfl) rfl rfl rfl ?_
            rcases bif_some h with ⟨h10, h⟩ | ⟨h10, h⟩
            · refine o_skip rfl rfl rfl h10 rfl rfl ?_
              refine o_skip rfl rfl rfl h10 rfl rfl ?_
              refine o_skip rfl rfl rfl h10 rfl rfl ?_
              refine o_skip rfl rfl rfl h10 rfl rfl ?_
              refine o_skip rfl rfl rfl h10 rfl rfl ?_
              refine o_skip rfl rfl rfl h10 rfl rfl ?_
              refine o_skip rfl rfl rfl h10 rfl rfl ?_
              refine o_pk (.t (.d (.lit (.bool true)))) (b := true) h10 (g0 rfl) rfl rfl rfl rfl rfl ?_
              refine o_nil ?_
              repeat (first | refine then_normal ?_ | refine then_exit ?_ | refine then_ret ?_ | refine block_normal ?_ | refine block_ret ?_ | refine block_exit ?_ | refine block_pass rfl ?_)
              refine c_t rfl rfl ?_
              refine c_seq ?_
              refine c_region ?_
              refine o_s (.t (.d (.lit (.bool false)))) (g0 rfl) rfl rfl rfl ?_
              refine o_nil ?_
              repeat (first | refine then_normal ?_ | refine then_exit ?_ | refine then_ret ?_ | refine block_normal ?_ | refine block_ret ?_ | refine block_exit ?_ | refine block_pass rfl ?_)
              refine c_ret ?_
              repeat (first | refine then_normal ?_ | refine then_exit ?_ | refine then_ret ?_ | refine block_normal ?_ | refine block_ret ?_ | refine block_exit ?_ | refine block_pass rfl ?_)
              obtain rfl := Option.some.inj h
              exact end0 rfl (.refl _)
            · refine o_s (.ref 2 6) (gy rfl rfl rfl h10) rfl rfl rfl ?_
              refine o_s (.t (.d (.seq 4 (List.map cS_api_Past p0.History)))) (gy rfl rfl rfl h10) rfl rfl rfl ?_
              refine o_c (gy rfl rfl rfl h10) rfl rfl rfl (lenE _ _) trivial ?_
              refine o_s (.ref 3 6) (gy rfl rfl rfl h10) rfl rfl rfl ?_
              refine o_s (.t (.d (.seq 4 (List.map cS_api_Past p1.History)))) (gy rfl rfl rfl h10) rfl rfl rfl ?_
              refine o_c (gy rfl rfl rfl h10) rfl rfl rfl (lenE _ _) trivial ?_
              refine o_s (.t (.d (.lit (.bool ((p0.History.length : Int) != (p1.History.length : Int)))))) (gy rfl rfl rfl h10) rfl rfl rfl ?_
              refine o_pk (.t (.d (.lit (.bool ((p0.History.length : Int) != (p1.History.length : Int)))))) (b := false) h10 (g0 rfl) rfl rfl rfl rfl rfl ?_
              refine o_nil ?_
              repeat (first | refine then_normal ?_ | refine then_exit ?_ | refine then_ret ?_ | refine block_normal ?_ | refine block_ret ?_ | refine block_exit ?_ | refine block_pass rfl ?_)
              rcases bif_some h with ⟨h11, h⟩ | ⟨h11, h⟩
              · refine c_t h11 rfl ?_
                refine c_seq ?_
                refine c_region ?_
                refine o_s (.t (.d (.lit (.bool false)))) (g0 rfl) rfl rfl rfl ?_
                refine o_nil ?_
                repeat (first | refine then_normal ?_ | refine then_exit ?_ | refine then_ret ?_ | refine block_normal ?_ | refine block_ret ?_ | refine block_exit ?_ | refine block_pass rfl ?_)
                refine c_ret ?_
                repeat (first | refine then_normal ?_ | refine then_exit ?_ | refine then_ret ?_ | refine block_normal ?_ | refine block_ret ?_ | refine block_exit ?_ | refine block_pass rfl ?_)
                obtain rfl := Option.some.inj h
                exact end0 rfl (.refl _)
              · refine c_f h11 rfl ?_
                refine c_skip ?_
                repeat (first | refine then_normal ?_ | refine then_exit ?_ | refine then_ret ?_ | refine block_normal ?_ | refine block_ret ?_ | refine block_exit ?_ | refine block_pass rfl ?_)
                refine c_cut (fun (_ : Unit) => [(2, .box [.d (.lit (.int .i64 p0.Err)), .d (.lit (.int .i64 p0.Number)), .d (.lit (.string ⟨⟨p0.By⟩⟩)), .d (.seq 1 (bytesD p0.Data)), .d (.seq 1 (List.map cStr p0.Names)), .d (.seq 2 (List.map cS_api_Member p0.Members)), .d (.seq 4 (List.map cS_api_Past p0.History))]), (3, .box [.d (.lit (.int .i64 p1.Err)), .d (.lit (.int .i64 p1.Number)), .d (.lit (.string ⟨⟨p1.By⟩⟩)), .d (.seq 1 (bytesD p1.Data)), .d (.seq 1 (List.map cStr p1.Names)), .d (.seq 2 (List.map cS_api_Member p1.Members)), .d (.seq 4 (List.map cS_api_Past p1.History))])]) (fun (_ : Unit) => m_R31_Same_j1 p0 p1 = some r) ?_ ?_
                · refine c_seq ?_
                  refine c_region ?_
                  refine o_s (.t (.d (.lit (.int .i64 0)))) (g0 rfl) rfl rfl rfl ?_
                  refine o_nil ?_
                  repeat (first | refine then_normal ?_ | refine then_exit ?_ | refine then_ret ?_ | refine block_normal ?_ | refine block_ret ?_ | refine block_exit ?_ | refine block_pass rfl ?_)
                  refine c_block ?_
                  refine c_fuel (fun (z19 : Int) => [(2, .box [.d (.lit (.int .i64 p0.Err)), .d (.lit (.int .i64 p0.Number)), .d (.lit (.string ⟨⟨p0.By⟩⟩)), .d (.seq 1 (bytesD p0.Data)), .d (.seq 1 (List.map cStr p0.Names)), .d (.seq 2 (List.map cS_api_Member p0.Members)), .d (.seq 4 (List.map cS_api_Past p0.History))]), (3, .box [.d (.lit (.int .i64 p1.Err)), .d (.lit (.int .i64 p1.Number)), .d (.lit (.string ⟨⟨p1.By⟩⟩)), .d (.seq 1 (bytesD p1.Data)), .d (.seq 1 (List.map cStr p1.Names)), .d (.seq 2 (List.map cS_api_Member p1.Members)), .d (.seq 4 (List.map cS_api_Past p1.History))]), (5, .t (.d (.lit (.int .i64 z19))))]) (fun nl3 => (fun (z19 : Int) => m_R31_Same_l3 p0 p1 nl3 z19 = some r)) (p0.Names.length + 1) 0 h ⟨(.refl _), ⟨(.refl _), ⟨(.refl _), trivial⟩⟩⟩ rfl ?_
                  rintro nl3 z19 h
                  cases nl3 with
                  | zero => exact none_ne h
                  | succ nl3 =>
                    refine c_seq ?_
                    refine c_seq ?_
                    refine c_region ?_
                    refine o_s (.t (.d (.lit (.int .i64 z19)))) (g0 rfl) rfl rfl rfl ?_
                    refine o_s (.ref 2 4) (g0 rfl) rfl rfl rfl ?_
                    refine o_s (.t (.d (.seq 1 (List.map cStr p0.Names)))) (g0 rfl) rfl rfl rfl ?_
                    refine o_c (g0 rfl) rfl rfl rfl (lenE _ _) trivial ?_
                    refine o_s (.t (.d (.lit (.bool (decide (z19 < (p0.Names.length : Int))))))) (g0 rfl) rfl rfl rfl ?_
                    refine o_nil ?_
                    repeat (first | refine then_normal ?_ | refine then_exit ?_ | refine then_ret ?_ | refine block_normal ?_ | refine block_ret ?_ | refine block_exit ?_ | refine block_pass rfl ?_)
                    rcases bif_some h with ⟨h20, h⟩ | ⟨h20, h⟩
                    · refine c_t h20 rfl ?_
                      refine c_skip ?_
                      repeat (first | refine then_normal ?_ | refine then_exit ?_ | refine then_ret ?_ | refine block_normal ?_ | refine block_ret ?_ | refine block_exit ?_ | refine block_pass rfl ?_)
                      refine c_seq ?_
                      refine c_block ?_
                      refine c_seq ?_
                      refine c_draw mixed (by kernel_rfl) ?_
                      refine d_s (.ref 2 4) rfl (dg0 rfl) rfl rfl rfl rfl ?_
                      refine d_s (.t (.d (.seq 1 (List.map cStr p0.Names)))) rfl (dg0 rfl) rfl rfl rfl rfl ?_
                      refine d_s (.t (.d (.lit (.int .i64 z19)))) rfl (dg0 rfl) rfl rfl rfl rfl ?_
                      obtain ⟨x21, h22, h⟩ := bind_some h
                      refine d_c rfl (dg0 rfl) rfl rfl rfl rfl (idxE h22) (idxC h22) ?_
                      refine d_s (.t (.d (.lit (.string ⟨⟨x21⟩⟩)))) rfl (dg0 rfl) rfl rfl rfl rfl ?_
                      refine d_s (.ref 3 4) rfl (dg0 rfl) rfl rfl rfl rfl ?_
                      refine d_s (.t (.d (.seq 1 (List.map cStr p1.Names)))) rfl (dg0 rfl) rfl rfl rfl rfl ?_
                      refine d_s (.t (.d (.lit (.int .i64 z19)))) rfl (dg0 rfl) rfl rfl rfl rfl ?_
                      obtain ⟨x23, h24, h⟩ := bind_some h
                      refine d_c rfl (dg0 rfl) rfl rfl rfl rfl (idxE h24) (idxC h24) ?_
                      refine d_s (.t (.d (.lit (.string ⟨⟨x23⟩⟩)))) rfl (dg0 rfl) rfl rfl rfl rfl ?_
                      refine d_c rfl (dg0 rfl) rfl rfl rfl rfl (congrArg (fun z => A.t (.d (.lit (.bool (!z))))) (str_beqL _ _)) trivial ?_
                      refine d_nil (by kernel_rfl) ?_
                      repeat (first | refine then_normal ?_ | refine then_exit ?_ | refine then_ret ?_ | refine block_normal ?_ | refine block_ret ?_ | refine block_exit ?_ | refine block_pass rfl ?_)
                      rcases bif_some h with ⟨h25, h⟩ | ⟨h25, h⟩
                      · refine c_t h25 rfl ?_
                        refine c_seq ?_
                        refine c_region ?_
                        refine o_s (.t (.d (.lit (.bool false)))) (g0 rfl) rfl rfl rfl ?_
                        refine o_nil ?_
                        repeat (first | refine then_normal ?_ | refine then_exit ?_ | refine then_ret ?_ | refine block_normal ?_ | refine block_ret ?_ | refine block_exit ?_ | refine block_pass rfl ?_)
                        refine c_ret ?_
                        repeat (first | refine then_normal ?_ | refine then_exit ?_ | refine then_ret ?_ | refine block_normal ?_ | refine block_ret ?_ | refine block_exit ?_ | refine block_pass rfl ?_)
                        obtain rfl := Option.some.inj h
                        exact end0 rfl (.refl _)
                      · refine c_f h25 rfl ?_
                        refine c_skip ?_
                        repeat (first | refine then_normal ?_ | refine then_exit ?_ | refine then_ret ?_ | refine block_normal ?_ | refine block_ret ?_ | refine block_exit ?_ | refine block_pass rfl ?_)
                        refine c_region ?_
                        refine o_s (.t (.d (.lit (.int .i64 z19)))) (g0 rfl) rfl rfl rfl ?_
                        refine o_s (.t (.d (.lit (.int .i64 (wi (z19 + 1)))))) (g0 rfl) rfl rfl rfl ?_
                        refine o_s (.t (.d (.lit (.int .i64 (wi (z19 + 1)))))) (g0 rfl) rfl rfl rfl ?_
                        refine o_nil ?_
                        repeat (first | refine then_normal ?_ | refine then_exit ?_ | refine then_ret ?_ | refine block_normal ?_ | refine block_ret ?_ | refine block_exit ?_ | refine block_pass rfl ?_)
                        exact ⟨nl3, (wi (z19 + 1)), Nat.lt_succ_self nl3, h, ⟨(.refl _), ⟨(.refl _), ⟨(.refl _), trivial⟩⟩⟩, rfl⟩
                    · refine c_f h20 rfl ?_
                      refine c_exit ?_
                      repeat (first | refine then_normal ?_ | refine then_exit ?_ | refine then_ret ?_ | refine block_normal ?_ | refine block_ret ?_ | refine block_exit ?_ | refine block_pass rfl ?_)
                      exact ⟨(), h, ⟨(.refl _), ⟨(.refl _), trivial⟩⟩, rfl⟩
                · rintro ⟨⟩ h
                  refine c_seq ?_
                  refine c_seq ?_
                  refine c_region ?_
                  refine o_s (.t (.d (.lit (.int .i64 0)))) (g0 rfl) rfl rfl rfl ?_
                  refine o_nil ?_
                  repeat (first | refine then_normal ?_ | refine then_exit ?_ | refine then_ret ?_ | refine block_normal ?_ | refine block_ret ?_ | refine block_exit ?_ | refine block_pass rfl ?_)
                  refine c_block ?_
                  refine c_fuel (fun (z12 : Int) => [(2, .box [.d (.lit (.int .i64 p0.Err)), .d (.lit (.int .i64 p0.Number)), .d (.lit (.string ⟨⟨p0.By⟩⟩)), .d (.seq 1 (bytesD p0.Data)), .d (.seq 1 (List.map cStr p0.Names)), .d (.seq 2 (List.map cS_api_Member p0.Members)), .d (.seq 4 (List.map cS_api_Past p0.History))]), (3, .box [.d (.lit (.int .i64 p1.Err)), .d (.lit (.int .i64 p1.Number)), .d (.lit (.string ⟨⟨p1.By⟩⟩)), .d (.seq 1 (bytesD p1.Data)), .d (.seq 1 (List.map cStr p1.Names)), .d (.seq 2 (List.map cS_api_Member p1.Members)), .d (.seq 4 (List.map cS_api_Past p1.History))]), (6, .t (.d (.lit (.int .i64 z12))))]) (fun nl2 => (fun (z12 : Int) => m_R31_Same_l2 p0 p1 nl2 z12 = some r)) (p0.History.length + 1) 0 h ⟨(.refl _), ⟨(.refl _), ⟨(.refl _), trivial⟩⟩⟩ rfl ?_
                  rintro nl2 z12 h
                  cases nl2 with
                  | zero => exact none_ne h
                  | succ nl2 =>
                    refine c_seq ?_
                    refine c_seq ?_
                    refine c_region ?_
                    refine o_s (.t (.d (.lit (.int .i64 z12)))) (g0 rfl) rfl rfl rfl ?_
                    refine o_s (.ref 2 6) (g0 rfl) rfl rfl rfl ?_
                    refine o_s (.t (.d (.seq 4 (List.map cS_api_Past p0.History)))) (g0 rfl) rfl rfl rfl ?_
                    refine o_c (g0 rfl) rfl rfl rfl (lenE _ _) trivial ?_
                    refine o_s (.t (.d (.lit (.bool (decide (z12 < (p0.History.length : Int))))))) (g0 rfl) rfl rfl rfl ?_
                    refine o_nil ?_
                    repeat (first | refine then_normal ?_ | refine then_exit ?_ | refine then_ret ?_ | refine block_normal ?_ | refine block_ret ?_ | refine block_exit ?_ | refine block_pass rfl ?_)
                    rcases bif_some h with ⟨h13, h⟩ | ⟨h13, h⟩
                    · refine c_t h13 rfl ?_
                      refine c_skip ?_
                      repeat (first | refine then_normal ?_ | refine then_exit ?_ | refine then_ret ?_ | refine block_normal ?_ | refine block_ret ?_ | refine block_exit ?_ | refine block_pass rfl ?_)
                      refine c_seq ?_
                      refine c_block ?_
                      refine c_seq ?_
                      refine c_draw mixed (by kernel_rfl) ?_
                      refine d_s (.ref 2 6) rfl (dg0 rfl) rfl rfl rfl rfl ?_
                      refine d_s (.t (.d (.seq 4 (List.map cS_api_Past p0.History)))) rfl (dg0 rfl) rfl rfl rfl rfl ?_
                      refine d_s (.t (.d (.lit (.int .i64 z12)))) rfl (dg0 rfl) rfl rfl rfl rfl ?_
                      obtain ⟨x14, h15, h⟩ := bind_some h
                      refine d_c rfl (dg0 rfl) rfl rfl rfl rfl (idxE h15) (idxC h15) ?_
                      refine d_s (.t (.agg [.lit (.int .i64 x14.Number), .lit (.int .i64 x14.Epoch), .lit (.bool x14.Gone), .lit (.string ⟨⟨x14.By⟩⟩)])) rfl (dg0 rfl) rfl rfl rfl rfl ?_
                      refine d_s (.ref 3 6) rfl (dg0 rfl) rfl rfl rfl rfl ?_
                      refine d_s (.t (.d (.seq 4 (List.map cS_api_Past p1.History)))) rfl (dg0 rfl) rfl rfl rfl rfl ?_
                      refine d_s (.t (.d (.lit (.int .i64 z12)))) rfl (dg0 rfl) rfl rfl rfl rfl ?_
                      obtain ⟨x16, h17, h⟩ := bind_some h
                      refine d_c rfl (dg0 rfl) rfl rfl rfl rfl (idxE h17) (idxC h17) ?_
                      refine d_s (.t (.agg [.lit (.int .i64 x16.Number), .lit (.int .i64 x16.Epoch), .lit (.bool x16.Gone), .lit (.string ⟨⟨x16.By⟩⟩)])) rfl (dg0 rfl) rfl rfl rfl rfl ?_
                      refine d_eqs true (b' := ((x14.Number == x16.Number) && ((x14.Epoch == x16.Epoch) && ((x14.Gone == x16.Gone) && ((x14.By == x16.By) && true))))) (andE rfl (andE rfl (andE rfl (andE (str_beqL _ _) rfl)))) rfl (dg0 rfl) rfl rfl rfl rfl rfl (by kernel_rfl) ((!((x14.Number == x16.Number) && ((x14.Epoch == x16.Epoch) && ((x14.Gone == x16.Gone) && ((x14.By == x16.By) && true)))))) (by cases ((x14.Number == x16.Number) && ((x14.Epoch == x16.Epoch) && ((x14.Gone == x16.Gone) && ((x14.By == x16.By) && true)))) <;> rfl) ?_
                      refine d_nil (by kernel_rfl) ?_
                      repeat (first | refine then_normal ?_ | refine then_exit ?_ | refine then_ret ?_ | refine block_normal ?_ | refine block_ret ?_ | refine block_exit ?_ | refine block_pass rfl ?_)
                      rcases bif_some h with ⟨h18, h⟩ | ⟨h18, h⟩
                      · refine c_t h18 rfl ?_
                        refine c_seq ?_
                        refine c_region ?_
                        refine o_s (.t (.d (.lit (.bool false)))) (g0 rfl) rfl rfl rfl ?_
                        refine o_nil ?_
                        repeat (first | refine then_normal ?_ | refine then_exit ?_ | refine then_ret ?_ | refine block_normal ?_ | refine block_ret ?_ | refine block_exit ?_ | refine block_pass rfl ?_)
                        refine c_ret ?_
                        repeat (first | refine then_normal ?_ | refine then_exit ?_ | refine then_ret ?_ | refine block_normal ?_ | refine block_ret ?_ | refine block_exit ?_ | refine block_pass rfl ?_)
                        obtain rfl := Option.some.inj h
                        exact end0 rfl (.refl _)
                      · refine c_f h18 rfl ?_
                        refine c_skip ?_
                        repeat (first | refine then_normal ?_ | refine then_exit ?_ | refine then_ret ?_ | refine block_normal ?_ | refine block_ret ?_ | refine block_exit ?_ | refine block_pass rfl ?_)
                        refine c_region ?_
                        refine o_s (.t (.d (.lit (.int .i64 z12)))) (g0 rfl) rfl rfl rfl ?_
                        refine o_s (.t (.d (.lit (.int .i64 (wi (z12 + 1)))))) (g0 rfl) rfl rfl rfl ?_
                        refine o_s (.t (.d (.lit (.int .i64 (wi (z12 + 1)))))) (g0 rfl) rfl rfl rfl ?_
                        refine o_nil ?_
                        repeat (first | refine then_normal ?_ | refine then_exit ?_ | refine then_ret ?_ | refine block_normal ?_ | refine block_ret ?_ | refine block_exit ?_ | refine block_pass rfl ?_)
                        exact ⟨nl2, (wi (z12 + 1)), Nat.lt_succ_self nl2, h, ⟨(.refl _), ⟨(.refl _), ⟨(.refl _), trivial⟩⟩⟩, rfl⟩
                    · refine c_f h13 rfl ?_
                      refine c_exit ?_
                      repeat (first | refine then_normal ?_ | refine then_exit ?_ | refine then_ret ?_ | refine block_normal ?_ | refine block_ret ?_ | refine block_exit ?_ | refine block_pass rfl ?_)
                      refine c_seq ?_
                      refine c_region ?_
                      refine o_s (.t (.d (.lit (.bool true)))) (g0 rfl) rfl rfl rfl ?_
                      refine o_nil ?_
                      repeat (first | refine then_normal ?_ | refine then_exit ?_ | refine then_ret ?_ | refine block_normal ?_ | refine block_ret ?_ | refine block_exit ?_ | refine block_pass rfl ?_)
                      refine c_ret ?_
                      repeat (first | refine then_normal ?_ | refine then_exit ?_ | refine then_ret ?_ | refine block_normal ?_ | refine block_ret ?_ | refine block_exit ?_ | refine block_pass rfl ?_)
                      obtain rfl := Option.some.inj h
                      exact end0 rfl (.refl _)

theorem fc_L31_AnswerBack (p0 : S_api_Answer) (r : Bool) (h : m_L31_AnswerBack p0 = some r) : FC Try.prog 5 [.t (.agg [.lit (.int .i64 p0.Err), .lit (.int .i64 p0.Number), .lit (.string ⟨⟨p0.By⟩⟩), .seq 1 (bytesD p0.Data), .seq 1 (List.map cStr p0.Names), .seq 2 (List.map cS_api_Member p0.Members), .seq 4 (List.map cS_api_Past p0.History)])] [] (.t (.d (.lit (.bool r)))) := by
  refine fc_mk (rs := [.tmp 2]) (n := 58) Try.func5 rfl rfl (Nat.le_of_ble_eq_true rfl) rfl (pins := []) rfl (L := [(0, .t (.agg [.lit (.int .i64 p0.Err), .lit (.int .i64 p0.Number), .lit (.string ⟨⟨p0.By⟩⟩), .seq 1 (bytesD p0.Data), .seq 1 (List.map cStr p0.Names), .seq 2 (List.map cS_api_Member p0.Members), .seq 4 (List.map cS_api_Past p0.History)]))]) rfl ?_
  refine c_seq ?_
  refine c_region ?_
  refine o_s (.box [.d (.lit (.int .i64 p0.Err)), .d (.lit (.int .i64 p0.Number)), .d (.lit (.string ⟨⟨p0.By⟩⟩)), .d (.seq 1 (bytesD p0.Data)), .d (.seq 1 (List.map cStr p0.Names)), .d (.seq 2 (List.map cS_api_Member p0.Members)), .d (.seq 4 (List.map cS_api_Past p0.History))]) (g0 rfl) rfl rfl rfl ?_
  refine o_s (.t (.d (.lit (.bool false)))) (g0 rfl) rfl rfl rfl ?_
  refine o_nil ?_
  repeat (first | refine then_normal ?_ | refine then_exit ?_ | refine then_ret ?_ | refine block_normal ?_ | refine block_ret ?_ | refine block_exit ?_ | refine block_pass rfl ?_)
  refine c_seq ?_
  refine c_seq ?_
  refine c_region ?_
  obtain ⟨x1, h2, h⟩ := bind_some h
  refine o_ca (fc_L31_awake _ h2) (g0 rfl) rfl rfl rfl rfl rfl rfl rfl .nil rfl rfl ?_
  refine o_s (.t (.d (.lit (.bool (!x1))))) (g0 rfl) rfl rfl rfl ?_
  refine o_nil ?_
  repeat (first | refine then_normal ?_ | refine then_exit ?_ | refine then_ret ?_ | refine block_normal ?_ | refine block_ret ?_ | refine block_exit ?_ | refine block_pass rfl ?_)
  rcases bif_some h with ⟨h3, h⟩ | ⟨h3, h⟩
  · refine c_t h3 rfl ?_
    refine c_seq ?_
    refine c_region ?_
    refine o_s (.t (.d (.lit (.bool false)))) (g0 rfl) rfl rfl rfl ?_
    refine o_nil ?_
    repeat (first | refine then_normal ?_ | refine then_exit ?_ | refine then_ret ?_ | refine block_normal ?_ | refine block_ret ?_ | refine block_exit ?_ | refine block_pass rfl ?_)
    refine c_ret ?_
    repeat (first | refine then_normal ?_ | refine then_exit ?_ | refine then_ret ?_ | refine block_normal ?_ | refine block_ret ?_ | refine block_exit ?_ | refine block_pass rfl ?_)
    obtain rfl := Option.some.inj h
    exact end0 rfl (.refl _)
  · refine c_f h3 rfl ?_
    refine c_skip ?_
    repeat (first | refine then_normal ?_ | refine then_exit ?_ | refine then_ret ?_ | refine block_normal ?_ | refine block_ret ?_ | refine block_exit ?_ | refine block_pass rfl ?_)
    refine c_seq ?_
    refine c_seq ?_
    refine c_region ?_
    refine o_s (.t (.agg [.lit (.int .i64 p0.Err), .lit (.int .i64 p0.Number), .lit (.string ⟨⟨p0.By⟩⟩), .seq 1 (bytesD p0.Data), .seq 1 (List.map cStr p0.Names), .seq 2 (List.map cS_api_Member p0.Members), .seq 4 (List.map cS_api_Past p0.History)])) (g0 rfl) rfl rfl rfl ?_
    obtain ⟨x4, h5, h⟩ := bind_some h
    refine o_ca (fc_L31_few _ _ h5) (g0 rfl) rfl rfl rfl rfl rfl rfl rfl (.cons (.refl _) .nil) rfl rfl ?_
    refine o_s (.t (.d (.lit (.bool (!x4))))) (g0 rfl) rfl rfl rfl ?_
    refine o_nil ?_
    repeat (first | refine then_normal ?_ | refine then_exit ?_ | refine then_ret ?_ | refine block_normal ?_ | refine block_ret ?_ | refine block_exit ?_ | refine block_pass rfl ?_)
    rcases bif_some h with ⟨h6, h⟩ | ⟨h6, h⟩
    · refine c_t h6 rfl ?_
      refine c_seq ?_
      refine c_region ?_
      refine o_s (.t (.d (.lit (.bool true)))) (g0 rfl) rfl rfl rfl ?_
      refine o_nil ?_
      repeat (first | refine then_normal ?_ | refine then_exit ?_ | refine then_ret ?_ | refine block_normal ?_ | refine block_ret ?_ | refine block_exit ?_ | refine block_pass rfl ?_)
      refine c_ret ?_
      repeat (first | refine then_normal ?_ | refine then_exit ?_ | refine then_ret ?_ | refine block_normal ?_ | refine block_ret ?_ | refine block_exit ?_ | refine block_pass rfl ?_)
      obtain rfl := Option.some.inj h
      exact end0 rfl (.refl _)
    · refine c_f h6 rfl ?_
      refine c_skip ?_
      repeat (first | refine then_normal ?_ | refine then_exit ?_ | refine then_ret ?_ | refine block_normal ?_ | refine block_ret ?_ | refine block_exit ?_ | refine block_pass rfl ?_)
      refine c_seq ?_
      refine c_region ?_
      refine o_s (.t (.agg [.lit (.int .i64 p0.Err), .lit (.int .i64 p0.Number), .lit (.string ⟨⟨p0.By⟩⟩), .seq 1 (bytesD p0.Data), .seq 1 (List.map cStr p0.Names), .seq 2 (List.map cS_api_Member p0.Members), .seq 4 (List.map cS_api_Past p0.History)])) (g0 rfl) rfl rfl rfl ?_
      obtain ⟨x7, h8, h⟩ := bind_some h
      refine o_ca (fc_answer_Write _ _ h8) (g0 rfl) rfl rfl rfl rfl rfl rfl rfl (.cons (.refl _) .nil) rfl rfl ?_
      refine o_s (.tup [.d (.seq 1 (bytesD x7.1)), .d (.lit (.int .i64 x7.2))]) (g0 rfl) rfl rfl rfl ?_
      refine o_s (.t (.d (.seq 1 (bytesD x7.1)))) (g0 rfl) rfl rfl rfl ?_
      refine o_s (.t (.d (.lit (.int .i64 x7.2)))) (g0 rfl) rfl rfl rfl ?_
      refine o_s (.t (.d (.seq 1 (bytesD x7.1)))) (g0 rfl) rfl rfl rfl ?_
      refine o_s (.t (.d (.lit (.int .i64 x7.2)))) (g0 rfl) rfl rfl rfl ?_
      refine o_nil ?_
      repeat (first | refine then_normal ?_ | refine then_exit ?_ | refine then_ret ?_ | refine block_normal ?_ | refine block_ret ?_ | refine block_exit ?_ | refine block_pass rfl ?_)
      refine c_seq ?_
      refine c_seq ?_
      refine c_region ?_
      refine o_s (.t (.agg [.lit (.int .i64 p0.Err), .lit (.int .i64 p0.Number), .lit (.string ⟨⟨p0.By⟩⟩), .seq 1 (bytesD p0.Data), .seq 1 (List.map cStr p0.Names), .seq 2 (List.map cS_api_Member p0.Members), .seq 4 (List.map cS_api_Past p0.History)])) (g0 rfl) rfl rfl rfl ?_
      obtain ⟨x9, h10, h⟩ := bind_some h
      refine o_ca (fc_R31_May _ _ h10) (g0 rfl) rfl rfl rfl rfl rfl rfl rfl (.cons (.refl _) .nil) rfl rfl ?_
      refine o_s (.t (.d (.lit (.bool (!x9))))) (g0 rfl) rfl rfl rfl ?_
      refine o_nil ?_
      repeat (first | refine then_normal ?_ | refine then_exit ?_ | refine then_ret ?_ | refine block_normal ?_ | refine block_ret ?_ | refine block_exit ?_ | refine block_pass rfl ?_)
      rcases bif_some h with ⟨h11, h⟩ | ⟨h11, h⟩
      · refine c_t h11 rfl ?_
        refine c_seq ?_
        refine c_region ?_
        refine o_s (.t (.d (.lit (.int .i64 x7.2)))) (g0 rfl) rfl rfl rfl ?_
        refine o_s (.t (.d (.lit (.bool (x7.2 == 2))))) (g0 rfl) rfl rfl rfl ?_
        refine o_s (.t (.d (.lit (.bool (x7.2 == 2))))) (g0 rfl) rfl rfl rfl ?_
        rcases bif_some h with ⟨h12, h⟩ | ⟨h12, h⟩
        · refine o_s (.t (.d (.seq 1 (bytesD x7.1)))) (gy rfl rfl rfl h12) rfl rfl rfl ?_
          refine o_c (gy rfl rfl rfl h12) rfl rfl rfl (lenE _ _) trivial ?_
          refine o_s (.t (.d (.lit (.bool ((x7.1.length : Int) == 0))))) (gy rfl rfl rfl h12) rfl rfl rfl ?_
          refine o_pk (.t (.d (.lit (.bool ((x7.1.length : Int) == 0))))) (b := true) h12 (g0 rfl) rfl rfl rfl rfl rfl ?_
          refine o_s (.t (.d (.lit (.bool ((x7.1.length : Int) == 0))))) (g0 rfl) rfl rfl rfl ?_
          rcases bif_some h with ⟨h13, h⟩ | ⟨h13, h⟩
          · refine o_s (.t (.agg [.lit (.int .i64 p0.Err), .lit (.int .i64 p0.Number), .lit (.string ⟨⟨p0.By⟩⟩), .seq 1 (bytesD p0.Data), .seq 1 (List.map cStr p0.Names), .seq 2 (List.map cS_api_Member p0.Members), .seq 4 (List.map cS_api_Past p0.History)])) (gy rfl rfl rfl h13) rfl rfl rfl ?_
            obtain ⟨x14, h15, h⟩ := bind_some h
            refine o_ca (fc_answer_May _ _ h15) (gy rfl rfl rfl h13) rfl rfl rfl rfl rfl rfl rfl (.cons (.refl _) .nil) rfl rfl ?_
            refine o_s (.t (.d (.lit (.bool (!x14))))) (gy rfl rfl rfl h13) rfl rfl rfl ?_
            refine o_pk (.t (.d (.lit (.bool (!x14))))) (b := true) h13 (g0 rfl) rfl rfl rfl rfl rfl ?_
            refine o_s (.t (.d (.lit (.bool (!x14))))) (g0 rfl) rfl rfl rfl ?_
            refine o_nil ?_
            repeat (first | refine then_normal ?_ | refine then_exit ?_ | refine then_ret ?_ | refine block_normal ?_ | refine block_ret ?_ | refine block_exit ?_ | refine block_pass rfl ?_)
            refine c_ret ?_
            repeat (first | refine then_normal ?_ | refine then_exit ?_ | refine then_ret ?_ | refine block_normal ?_ | refine block_ret ?_ | refine block_exit ?_ | refine block_pass rfl ?_)
            obtain rfl := Option.some.inj h
            exact end0 rfl (.refl _)
          · refine o_skip rfl rfl rfl h13 rfl rfl ?_
            refine o_skip rfl rfl rfl h13 rfl rfl ?_
            refine o_skip rfl rfl rfl h13 rfl rfl ?_
            refine o_pk (.t (.d (.lit (.bool false)))) (b := false) h13 (g0 rfl) rfl rfl rfl rfl rfl ?_
            refine o_s (.t (.d (.lit (.bool false)))) (g0 rfl) rfl rfl rfl ?_
            refine o_nil ?_
            repeat (first | refine then_normal ?_ | refine then_exit ?_ | refine then_ret ?_ | refine block_normal ?_ | refine block_ret ?_ | refine block_exit ?_ | refine block_pass rfl ?_)
            refine c_ret ?_
            repeat (first | refine then_normal ?_ | refine then_exit ?_ | refine then_ret ?_ | refine block_normal ?_ | refine block_ret ?_ | refine block_exit ?_ | refine block_pass rfl ?_)
            obtain rfl := Option.some.inj h
            exact end0 rfl (.refl _)
        · refine o_skip rfl rfl rfl h12 rfl rfl ?_
          refine o_skip rfl rfl rfl h12 rfl rfl ?_
          refine o_skip rfl rfl rfl h12 rfl rfl ?_
          refine o_pk (.t (.d (.lit (.bool false)))) (b := false) h12 (g0 rfl) rfl rfl rfl rfl rfl ?_
          refine o_s (.t (.d (.lit (.bool false)))) (g0 rfl) rfl rfl rfl ?_
          refine o_skip rfl rfl rfl rfl rfl rfl ?_
          refine o_skip rfl rfl rfl rfl rfl rfl ?_
          refine o_skip rfl rfl rfl rfl rfl rfl ?_
          refine o_pk (.t (.d (.lit (.bool false)))) (b := false) rfl (g0 rfl) rfl rfl rfl rfl rfl ?_
          refine o_s (.t (.d (.lit (.bool false)))) (g0 rfl) rfl rfl rfl ?_
          refine o_nil ?_
          repeat (first | refine then_normal ?_ | refine then_exit ?_ | refine then_ret ?_ | refine block_normal ?_ | refine block_ret ?_ | refine block_exit ?_ | refine block_pass rfl ?_)
          refine c_ret ?_
          repeat (first | refine then_normal ?_ | refine then_exit ?_ | refine then_ret ?_ | refine block_normal ?_ | refine block_ret ?_ | refine block_exit ?_ | refine block_pass rfl ?_)
          obtain rfl := Option.some.inj h
          exact end0 rfl (.refl _)
      · refine c_f h11 rfl ?_
        refine c_skip ?_
        repeat (first | refine then_normal ?_ | refine then_exit ?_ | refine then_ret ?_ | refine block_normal ?_ | refine block_ret ?_ | refine block_exit ?_ | refine block_pass rfl ?_)
        refine c_seq ?_
        refine c_region ?_
        refine o_s (.t (.d (.seq 1 (bytesD x7.1)))) (g0 rfl) rfl rfl rfl ?_
        obtain ⟨x16, h17, h⟩ := bind_some h
        refine o_ca (fc_answer_Read _ _ h17) (g0 rfl) rfl rfl rfl rfl rfl rfl rfl (.cons (.refl _) .nil) rfl rfl ?_
        refine o_s (.tup [.agg [.lit (.int .i64 x16.1.Err), .lit (.int .i64 x16.1.Number), .lit (.string ⟨⟨x16.1.By⟩⟩), .seq 1 (bytesD x16.1.Data), .seq 1 (List.map cStr x16.1.Names), .seq 2 (List.map cS_api_Member x16.1.Members), .seq 4 (List.map cS_api_Past x16.1.History)], .d (.lit (.int .i64 x16.2))]) (g0 rfl) rfl rfl rfl ?_
        refine o_s (.t (.agg [.lit (.int .i64 x16.1.Err), .lit (.int .i64 x16.1.Number), .lit (.string ⟨⟨x16.1.By⟩⟩), .seq 1 (bytesD x16.1.Data), .seq 1 (List.map cStr x16.1.Names), .seq 2 (List.map cS_api_Member x16.1.Members), .seq 4 (List.map cS_api_Past x16.1.History)])) (g0 rfl) rfl rfl rfl ?_
        refine o_s (.t (.d (.lit (.int .i64 x16.2)))) (g0 rfl) rfl rfl rfl ?_
        refine o_s (.box [.d (.lit (.int .i64 0)), .d (.lit (.int .i64 0)), .d (.lit (.string ⟨⟨[]⟩⟩)), .d (.lit (.slice none 0 0)), .d (.lit (.slice none 0 0)), .d (.lit (.slice none 0 0)), .d (.lit (.slice none 0 0))]) (g0 rfl) rfl rfl rfl ?_
        refine o_st (.box [.d (.lit (.int .i64 x16.1.Err)), .d (.lit (.int .i64 x16.1.Number)), .d (.lit (.string ⟨⟨x16.1.By⟩⟩)), .d (.seq 1 (bytesD x16.1.Data)), .d (.seq 1 (List.map cStr x16.1.Names)), .d (.seq 2 (List.map cS_api_Member x16.1.Members)), .d (.seq 4 (List.map cS_api_Past x16.1.History))]) (g0 rfl) rfl rfl rfl ?_
        refine o_s (.t (.d (.lit (.int .i64 x16.2)))) (g0 rfl) rfl rfl rfl ?_
        refine o_nil ?_
        repeat (first | refine then_normal ?_ | refine then_exit ?_ | refine then_ret ?_ | refine block_normal ?_ | refine block_ret ?_ | refine block_exit ?_ | refine block_pass rfl ?_)
        refine c_seq ?_
        refine c_region ?_
        refine o_s (.t (.agg [.lit (.int .i64 p0.Err), .lit (.int .i64 p0.Number), .lit (.string ⟨⟨p0.By⟩⟩), .seq 1 (bytesD p0.Data), .seq 1 (List.map cStr p0.Names), .seq 2 (List.map cS_api_Member p0.Members), .seq 4 (List.map cS_api_Past p0.History)])) (g0 rfl) rfl rfl rfl ?_
        obtain ⟨x18, h19, h⟩ := bind_some h
        refine o_ca (fc_answer_May _ _ h19) (g0 rfl) rfl rfl rfl rfl rfl rfl rfl (.cons (.refl _) .nil) rfl rfl ?_
        refine o_s (.t (.d (.lit (.bool x18)))) (g0 rfl) rfl rfl rfl ?_
        rcases bif_some h with ⟨h20, h⟩ | ⟨h20, h⟩
        · refine o_s (.t (.d (.lit (.int .i64 x7.2)))) (gy rfl rfl rfl h20) rfl rfl rfl ?_
          refine o_s (.t (.d (.lit (.bool (x7.2 == 0))))) (gy rfl rfl rfl h20) rfl rfl rfl ?_
          refine o_pk (.t (.d (.lit (.bool (x7.2 == 0))))) (b := true) h20 (g0 rfl) rfl rfl rfl rfl rfl ?_
          refine o_s (.t (.d (.lit (.bool (x7.2 == 0))))) (g0 rfl) rfl rfl rfl ?_
          rcases bif_some h with ⟨h21, h⟩ | ⟨h21, h⟩
          · refine o_s (.t (.d (.seq 1 (bytesD x7.1)))) (gy rfl rfl rfl h21) rfl rfl rfl ?_
            refine o_s (.t (.agg [.lit (.int .i64 p0.Err), .lit (.int .i64 p0.Number), .lit (.string ⟨⟨p0.By⟩⟩), .seq 1 (bytesD p0.Data), .seq 1 (List.map cStr p0.Names), .seq 2 (List.map cS_api_Member p0.Members), .seq 4 (List.map cS_api_Past p0.History)])) (gy rfl rfl rfl h21) rfl rfl rfl ?_
            obtain ⟨x22, h23, h⟩ := bind_some h
            refine o_ca (fc_R31_Bytes _ _ h23) (gy rfl rfl rfl h21) rfl rfl rfl rfl rfl rfl rfl (.cons (.refl _) .nil) rfl rfl ?_
            obtain ⟨x24, h25, h⟩ := bind_some h
            refine o_ca (fc_R01_Same _ _ _ h25) (gy rfl rfl rfl h21) rfl rfl rfl rfl rfl rfl rfl (.cons (.refl _) (.cons (.refl _) .nil)) rfl rfl ?_
            refine o_pk (.t (.d (.lit (.bool x24)))) (b := true) h21 (g0 rfl) rfl rfl rfl rfl rfl ?_
            refine o_s (.t (.d (.lit (.bool x24)))) (g0 rfl) rfl rfl rfl ?_
            rcases bif_some h with ⟨h26, h⟩ | ⟨h26, h⟩
            · refine o_s (.t (.d (.lit (.int .i64 x16.2)))) (gy rfl rfl rfl h26) rfl rfl rfl ?_
              refine o_s (.t (.d (.lit (.bool (x16.2 == 0))))) (gy rfl rfl rfl h26) rfl rfl rfl ?_
              refine o_pk (.t (.d (.lit (.bool (x16.2 == 0))))) (b := true) h26 (g0 rfl) rfl rfl rfl rfl rfl ?_
              refine o_s (.t (.d (.lit (.bool (x16.2 == 0))))) (g0 rfl) rfl rfl rfl ?_
              rcases bif_some h with ⟨h27, h⟩ | ⟨h27, h⟩
              · refine o_s (.t (.agg [.lit (.int .i64 x16.1.Err), .lit (.int .i64 x16.1.Number), .lit (.string ⟨⟨x16.1.By⟩⟩), .seq 1 (bytesD x16.1.Data), .seq 1 (List.map cStr x16.1.Names), .seq 2 (List.map cS_api_Member x16.1.Members), .seq 4 (List.map cS_api_Past x16.1.History)])) (gy rfl rfl rfl h27) rfl rfl rfl ?_
                refine o_s (.t (.agg [.lit (.int .i64 p0.Err), .lit (.int .i64 p0.Number), .lit (.string ⟨⟨p0.By⟩⟩), .seq 1 (bytesD p0.Data), .seq 1 (List.map cStr p0.Names), .seq 2 (List.map cS_api_Member p0.Members), .seq 4 (List.map cS_api_Past p0.History)])) (gy rfl rfl rfl h27) rfl rfl rfl ?_
                obtain ⟨x28, h29, h⟩ := bind_some h
                refine o_ca (fc_R31_Same _ _ _ h29) (gy rfl rfl rfl h27) rfl rfl rfl rfl rfl rfl rfl (.cons (.refl _) (.cons (.refl _) .nil)) rfl rfl ?_
                refine o_pk (.t (.d (.lit (.bool x28)))) (b := true) h27 (g0 rfl) rfl rfl rfl rfl rfl ?_
                refine o_s (.t (.d (.lit (.bool x28)))) (g0 rfl) rfl rfl rfl ?_
                refine o_nil ?_
                repeat (first | refine then_normal ?_ | refine then_exit ?_ | refine then_ret ?_ | refine block_normal ?_ | refine block_ret ?_ | refine block_exit ?_ | refine block_pass rfl ?_)
                refine c_ret ?_
                repeat (first | refine then_normal ?_ | refine then_exit ?_ | refine then_ret ?_ | refine block_normal ?_ | refine block_ret ?_ | refine block_exit ?_ | refine block_pass rfl ?_)
                obtain rfl := Option.some.inj h
                exact end0 rfl (.refl _)
              · refine o_skip rfl rfl rfl h27 rfl rfl ?_
                refine o_skip rfl rfl rfl h27 rfl rfl ?_
                refine o_skip rfl rfl rfl h27 rfl rfl ?_
                refine o_pk (.t (.d (.lit (.bool false)))) (b := false) h27 (g0 rfl) rfl rfl rfl rfl rfl ?_
                refine o_s (.t (.d (.lit (.bool false)))) (g0 rfl) rfl rfl rfl ?_
                refine o_nil ?_
                repeat (first | refine then_normal ?_ | refine then_exit ?_ | refine then_ret ?_ | refine block_normal ?_ | refine block_ret ?_ | refine block_exit ?_ | refine block_pass rfl ?_)
                refine c_ret ?_
                repeat (first | refine then_normal ?_ | refine then_exit ?_ | refine then_ret ?_ | refine block_normal ?_ | refine block_ret ?_ | refine block_exit ?_ | refine block_pass rfl ?_)
                obtain rfl := Option.some.inj h
                exact end0 rfl (.refl _)
            · refine o_skip rfl rfl rfl h26 rfl rfl ?_
              refine o_skip rfl rfl rfl h26 rfl rfl ?_
              refine o_pk (.t (.d (.lit (.bool false)))) (b := false) h26 (g0 rfl) rfl rfl rfl rfl rfl ?_
              refine o_s (.t (.d (.lit (.bool false)))) (g0 rfl) rfl rfl rfl ?_
              refine o_skip rfl rfl rfl rfl rfl rfl ?_
              refine o_skip rfl rfl rfl rfl rfl rfl ?_
              refine o_skip rfl rfl rfl rfl rfl rfl ?_
              refine o_pk (.t (.d (.lit (.bool false)))) (b := false) rfl (g0 rfl) rfl rfl rfl rfl rfl ?_
              refine o_s (.t (.d (.lit (.bool false)))) (g0 rfl) rfl rfl rfl ?_
              refine o_nil ?_
              repeat (first | refine then_normal ?_ | refine then_exit ?_ | refine then_ret ?_ | refine block_normal ?_ | refine block_ret ?_ | refine block_exit ?_ | refine block_pass rfl ?_)
              refine c_ret ?_
              repeat (first | refine then_normal ?_ | refine then_exit ?_ | refine then_ret ?_ | refine block_normal ?_ | refine block_ret ?_ | refine block_exit ?_ | refine block_pass rfl ?_)
              obtain rfl := Option.some.inj h
              exact end0 rfl (.refl _)
          · refine o_skip rfl rfl rfl h21 rfl rfl ?_
            refine o_skip rfl rfl rfl h21 rfl rfl ?_
            refine o_skip rfl rfl rfl h21 rfl rfl ?_
            refine o_skip rfl rfl rfl h21 rfl rfl ?_
            refine o_pk (.t (.d (.lit (.bool false)))) (b := false) h21 (g0 rfl) rfl rfl rfl rfl rfl ?_
            refine o_s (.t (.d (.lit (.bool false)))) (g0 rfl) rfl rfl rfl ?_
            refine o_skip rfl rfl rfl rfl rfl rfl ?_
            refine o_skip rfl rfl rfl rfl rfl rfl ?_
            refine o_pk (.t (.d (.lit (.bool false)))) (b := false) rfl (g0 rfl) rfl rfl rfl rfl rfl ?_
            refine o_s (.t (.d (.lit (.bool false)))) (g0 rfl) rfl rfl rfl ?_
            refine o_skip rfl rfl rfl rfl rfl rfl ?_
            refine o_skip rfl rfl rfl rfl rfl rfl ?_
            refine o_skip rfl rfl rfl rfl rfl rfl ?_
            refine o_pk (.t (.d (.lit (.bool false)))) (b := false) rfl (g0 rfl) rfl rfl rfl rfl rfl ?_
            refine o_s (.t (.d (.lit (.bool false)))) (g0 rfl) rfl rfl rfl ?_
            refine o_nil ?_
            repeat (first | refine then_normal ?_ | refine then_exit ?_ | refine then_ret ?_ | refine block_normal ?_ | refine block_ret ?_ | refine block_exit ?_ | refine block_pass rfl ?_)
            refine c_ret ?_
            repeat (first | refine then_normal ?_ | refine then_exit ?_ | refine then_ret ?_ | refine block_normal ?_ | refine block_ret ?_ | refine block_exit ?_ | refine block_pass rfl ?_)
            obtain rfl := Option.some.inj h
            exact end0 rfl (.refl _)
        · refine o_skip rfl rfl rfl h20 rfl rfl ?_
          refine o_skip rfl rfl rfl h20 rfl rfl ?_
          refine o_pk (.t (.d (.lit (.bool false)))) (b := false) h20 (g0 rfl) rfl rfl rfl rfl rfl ?_
          refine o_s (.t (.d (.lit (.bool false)))) (g0 rfl) rfl rfl rfl ?_
          refine o_skip rfl rfl rfl rfl rfl rfl ?_
          refine o_skip rfl rfl rfl rfl rfl rfl ?_
          refine o_skip rfl rfl rfl rfl rfl rfl ?_
          refine o_skip rfl rfl rfl rfl rfl rfl ?_
          refine o_pk (.t (.d (.lit (.bool false)))) (b := false) rfl (g0 rfl) rfl rfl rfl rfl rfl ?_
          refine o_s (.t (.d (.lit (.bool false)))) (g0 rfl) rfl rfl rfl ?_
          refine o_skip rfl rfl rfl rfl rfl rfl ?_
          refine o_skip rfl rfl rfl rfl rfl rfl ?_
          refine o_pk (.t (.d (.lit (.bool false)))) (b := false) rfl (g0 rfl) rfl rfl rfl rfl rfl ?_
          refine o_s (.t (.d (.lit (.bool false)))) (g0 rfl) rfl rfl rfl ?_
          refine o_skip rfl rfl rfl rfl rfl rfl ?_
          refine o_skip rfl rfl rfl rfl rfl rfl ?_
          refine o_skip rfl rfl rfl rfl rfl rfl ?_
          refine o_pk (.t (.d (.lit (.bool false)))) (b := false) rfl (g0 rfl) rfl rfl rfl rfl rfl ?_
          refine o_s (.t (.d (.lit (.bool false)))) (g0 rfl) rfl rfl rfl ?_
          refine o_nil ?_
          repeat (first | refine then_normal ?_ | refine then_exit ?_ | refine then_ret ?_ | refine block_normal ?_ | refine block_ret ?_ | refine block_exit ?_ | refine block_pass rfl ?_)
          refine c_ret ?_
          repeat (first | refine then_normal ?_ | refine then_exit ?_ | refine then_ret ?_ | refine block_normal ?_ | refine block_ret ?_ | refine block_exit ?_ | refine block_pass rfl ?_)
          obtain rfl := Option.some.inj h
          exact end0 rfl (.refl _)

end Go.Proofs.Ytimdogdplphmoac
